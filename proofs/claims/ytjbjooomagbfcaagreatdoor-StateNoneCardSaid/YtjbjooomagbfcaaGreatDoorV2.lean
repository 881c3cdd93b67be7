/- Parts of the proof of StateNoneCard. -/
import Derived.LoopNIn
import Derived.Test.YtjbjooomagbfcaaGreatDoorLib
import Derived.Deep.Slices
import Derived.Deep.Fields
import Derived.ChangeSame
import Derived.Below
import Derived.SizedLaws
import Derived.Lib.LaidTab
import Derived.Stop.LaidErr
import Derived.Test.YtjbjooomagbfcaaGreatDoorProg
import Derived.Test.YtjbjooomagbfcaaGreatDoorRows
import Derived.Test.YtjbjooomagbfcaaGreatDoorTie
import Derived.JoinedOf
import Derived.KernelRfl
import Derived.Test.YtjbjooomagbfcaaGreatDoorV1
/- A machine that reckons closed calls: any operation. It names no program. -/
namespace Go.Proofs.YtjbjooomagbfcaaGreatDoor.St
open Go

def eoO (gm : Nat → Option Nat) (f : Tr AV) : Option Operand → Option (Option AV)
  | none => some none
  | some x => (eo gm f x).map some
def partsE (gm : Nat → Option Nat) (f : Tr AV) : List (Nat × Operand) → Option (List (Nat × AV))
  | [] => some []
  | (i, x) :: l => (eo gm f x).bind fun v => (partsE gm f l).map fun l => (i, v) :: l
def cvO (P : Program) (s d : TypeId) (x : AV) : Option AV :=
  match x, P.underlying s, P.underlying d with
  | .i _ n, some _, some (.int k) => some (.i k (k.wrap n))
  | .s l, some _, some .string => some (.s l)
  | _, _, _ => none
/-- Operations that neither read nor write. -/
def pureO (P : Program) (gm : Nat → Option Nat) (op : Op) (ty : TypeId) (f : Tr AV) : Option AV :=
  match op with
  | .move x => eo gm f x
  | .assign x => (eo gm f x).bind fun v => bif okTy P ty v then some v else none
  | .pick c a b => (match eo gm f c with | some (.b t) => bif t then eo gm f a else eo gm f b | _ => none)
  | .nilCheck x => (match eo gm f x with
    | some (.p n o) => some (.p n o)
    | some (.f g x y) => some (.f g x y)
    | _ => none)
  | .fieldAddr s x i => (eo gm f x).bind fun x => fldAddrO P s x i
  | .field s x i => (eo gm f x).bind fun x => fldO P s x i
  | .unOp o _ x => (eo gm f x).bind fun x => unO o x
  | .convert s d x => (eo gm f x).bind fun x => cvO P s d x
  | .makeFunc fn a b => (match fn with | .func g => (eoL gm f a.toList).bind fun a => (eoL gm f b.toList).map fun b => .f g a b | _ => none)
  | .slice t x lo hi mx => (eo gm f x).bind fun x => (eoO gm f lo).bind fun lo => (eoO gm f hi).bind fun hi => (eoO gm f mx).bind fun mx => slO P t x lo hi mx
  | .indexAddr t x i => (eo gm f x).bind fun x => (eo gm f i).bind fun i => ixaO P t x i
  | .index t x i => (eo gm f x).bind fun x => (eo gm f i).bind fun i => ixO P t x i
  | .build t ps => (partsE gm f ps.toList).bind fun ps => bldO P t ps
  | .extract x i => (match eo gm f x with
    | some (.t l) => (l[i]?).bind fun v => bif okTy P ty v then some v else none
    | _ => none)
  | .call c => (match c.callee with
    | .builtin b => (match b, c.argTypes.toList, eoL gm f c.args.toList with
      | .len, t :: _, some (x :: _) => (lenO P t x).map fun (n : Nat) => .i .i64 (n : Int)
      | .max, _, some (x :: r) => mmO true x r
      | .min, _, some (x :: r) => mmO false x r
      | _, _, _ => none)
    | _ => none)
  | _ => none
def binA (P : Program) (gm : Nat → Option Nat) (f : Tr AV) (op : BinOp) (t : TypeId) (x y : Operand) : Option AV :=
  bif isNilC y then none else (eo gm f x).bind fun x => (eo gm f y).bind fun y => binO P op t x y
section
variable {P : Program} {B w : World} {ρ : Rho} {H : AH} {gm : Nat → Option Nat} {f : Tr AV} {g : Fr} (hf : FrR ρ f g) (hg : GmR ρ gm)
include hf hg
theorem eoO_ok {x : Option Operand} {v : Option AV} (h : eoO gm f x = some v) : embO ρ v = some (x.map (ev g)) := by
  cases x with
  | none => cases h; rfl
  | some x =>
    obtain ⟨v, hv, rfl⟩ := Option.map_eq_some_iff.1 h
    simp [embO, eo_ok hf hg hv]
theorem partsE_ok : ∀ {l : List (Nat × Operand)} {ps : List (Nat × AV)}, partsE gm f l = some ps → (l.map fun (i, x) => (i, ev g x)).map (·.1) = ps.map (·.1) ∧ embL ρ (ps.map (·.2)) = some ((l.map fun (i, x) => (i, ev g x)).map (·.2))
  | [], _, h => by cases h; exact ⟨rfl, rfl⟩
  | (i, x) :: l, _, h => by
    simp only [partsE, Option.bind_eq_some_iff, Option.map_eq_some_iff] at h
    obtain ⟨v, hv, r, hr, rfl⟩ := h
    obtain ⟨h1, h2⟩ := partsE_ok hr
    exact ⟨by simp only [List.map_cons]; rw [h1], by simp only [List.map_cons]; exact embL_cons.2 ⟨_, _, eo_ok hf hg hv, h2, rfl⟩⟩
theorem pureO_W {op : Op} {ty : TypeId} {v : AV} (h : pureO P gm op ty f = some v) (w : World) : ∃ u, emb ρ v = some u ∧ (∀ K : Value → World → Prop, K u w → opW P op ty g w K) ∧ ∀ K : Value → Prop, K u → pureW P op g K := by
  cases op <;> simp only [pureO] at h
  case move x => exact ⟨_, eo_ok hf hg h, fun K k => k, fun K k => k⟩
  case assign x =>
    obtain ⟨v', hv, h⟩ := Option.bind_eq_some_iff.1 h
    obtain ⟨hc, h⟩ := Conds.of h
    cases h
    exact ⟨_, eo_ok hf hg hv, fun K k => (okTy_cast (K := (K · w)) hc (eo_ok hf hg hv) k : castK P ty (ev g x) (K · w)), fun K k => k⟩
  case pick c a b =>
    split at h
    · rename_i t ht
      have := eo_ok hf hg ht
      have hc : ev g c = .bool t := by simpa [emb] using this.symm
      cases t with
      | true => exact ⟨_, eo_ok hf hg h, fun K k => by simp only [opW, hc]; exact k, fun K k => by simp only [pureW, hc]; exact k⟩
      | false => exact ⟨_, eo_ok hf hg h, fun K k => by simp only [opW, hc]; exact k, fun K k => by simp only [pureW, hc]; exact k⟩
    · cases h
  case nilCheck x =>
    split at h
    · rename_i n o hx
      cases h
      have := eo_ok hf hg hx
      obtain ⟨q, hq, e⟩ := emb_p.1 this
      exact ⟨_, this, fun K k => by simp only [opW, e, onP] at k ⊢; exact k, fun K k => by simp only [pureW, e, onP] at k ⊢; exact k⟩
    · rename_i gg x y hx
      cases h
      have := eo_ok hf hg hx
      have h2 := this
      simp only [emb, Option.bind_eq_some_iff, Option.map_eq_some_iff] at h2
      obtain ⟨a, ha, b, hb, e⟩ := h2
      exact ⟨_, this, fun K k => by simp only [opW, ← e] at k ⊢; exact k, fun K k => by simp only [pureW, ← e] at k ⊢; exact k⟩
    · cases h
  case fieldAddr s x i =>
    obtain ⟨x', hx, h⟩ := Option.bind_eq_some_iff.1 h
    obtain ⟨u, hu, hk⟩ := fldAddrO_W h (eo_ok hf hg hx)
    exact ⟨u, hu, fun K k => hk (K · w) k, fun K k => hk K k⟩
  case field s x i =>
    obtain ⟨x', hx, h⟩ := Option.bind_eq_some_iff.1 h
    obtain ⟨u, hu, hk⟩ := fldO_W h (eo_ok hf hg hx)
    exact ⟨u, hu, fun K k => hk (K · w) k, fun K k => hk K k⟩
  case unOp o t x =>
    obtain ⟨x', hx, h⟩ := Option.bind_eq_some_iff.1 h
    obtain ⟨u, hu, hk⟩ := unO_W h (eo_ok hf hg hx)
    exact ⟨u, hu, fun K k => hk (K · w) k, fun K k => hk K k⟩
  case convert s d x =>
    obtain ⟨x', hx, h⟩ := Option.bind_eq_some_iff.1 h
    have hx := eo_ok hf hg hx
    unfold cvO at h
    split at h
    · rename_i hs hd _
      cases h
      have e : ev g x = _ := (Option.some.inj hx).symm
      exact ⟨_, rfl, fun K k => by simp only [opW, e, cvW, hs, hd]; exact k, fun K k => by simp only [pureW, e, hs, hd]; exact k⟩
    · rename_i hs hd _
      cases h
      have e : ev g x = _ := (Option.some.inj hx).symm
      exact ⟨_, rfl, fun K k => by simp only [opW, e, cvW, hs, hd]; exact k, fun K k => by simp only [pureW, e, hs, hd]; exact k⟩
    · cases h
  case makeFunc fn a b =>
    split at h
    · rename_i gg
      obtain ⟨a', ha, h⟩ := Option.bind_eq_some_iff.1 h
      obtain ⟨b', hb, rfl⟩ := Option.map_eq_some_iff.1 h
      have e1 := eoL_ok hf hg ha
      have e2 := eoL_ok hf hg hb
      exact ⟨.func (.func gg) ⟨a.toList.map (ev g)⟩ ⟨b.toList.map (ev g)⟩, by simp only [emb, e1, e2]; rfl, fun K k => k, fun K k => k⟩
    · cases h
  case slice t x lo hi mx =>
    obtain ⟨x', hx, h⟩ := Option.bind_eq_some_iff.1 h
    obtain ⟨lo', hlo, h⟩ := Option.bind_eq_some_iff.1 h
    obtain ⟨hi', hhi, h⟩ := Option.bind_eq_some_iff.1 h
    obtain ⟨mx', hmx, h⟩ := Option.bind_eq_some_iff.1 h
    obtain ⟨u, hu, hk⟩ := slO_W h (eo_ok hf hg hx) (eoO_ok hf hg hlo) (eoO_ok hf hg hhi) (eoO_ok hf hg hmx)
    exact ⟨u, hu, fun K k => hk (K · w) k, fun K k => hk K k⟩
  case indexAddr t x i =>
    obtain ⟨x', hx, h⟩ := Option.bind_eq_some_iff.1 h
    obtain ⟨i', hi, h⟩ := Option.bind_eq_some_iff.1 h
    obtain ⟨u, hu, hk⟩ := ixaO_W h (eo_ok hf hg hx) (eo_ok hf hg hi)
    exact ⟨u, hu, fun K k => hk (K · w) k, fun K k => hk K k⟩
  case index t x i =>
    obtain ⟨x', hx, h⟩ := Option.bind_eq_some_iff.1 h
    obtain ⟨i', hi, h⟩ := Option.bind_eq_some_iff.1 h
    obtain ⟨u, hu, hk⟩ := ixO_W (ty := ty) h (eo_ok hf hg hx) (eo_ok hf hg hi) w
    refine ⟨u, hu, fun K k => hk K k, fun K k => ?_⟩
    clear hk
    have e1 := eo_ok hf hg hx
    have e2 := eo_ok hf hg hi
    unfold ixO at h
    split at h
    · rename_i l kd j hu2 _
      have e1' : ev g x = .string ⟨⟨l⟩⟩ := (Option.some.inj e1).symm
      have e2' : ev g i = .int kd j := (Option.some.inj e2).symm
      obtain ⟨hc, h⟩ := Conds.of h
      obtain ⟨c, hl, rfl⟩ := Option.map_eq_some_iff.1 h
      have hc := of_decide_eq_true hc
      obtain ⟨hlt, hl'⟩ := List.getElem?_eq_some_iff.1 hl
      cases hu
      simp only [pureW, hu2, e1', e2']
      refine ⟨hc, by rw [ba_size]; omega, ?_⟩
      have : byteAt ⟨⟨l⟩⟩ j.toNat = (c.toNat : Int) := by simp [byteAt, hl]
      rw [this]; exact k
    · cases h
  case build t ps =>
    obtain ⟨ps', hps, h⟩ := Option.bind_eq_some_iff.1 h
    obtain ⟨u, hu, hk⟩ := bldO_W h (partsE_ok hf hg hps)
    exact ⟨u, hu, fun K k => hk (K · w) k, fun K k => hk K k⟩
  case extract x i =>
    split at h
    · rename_i l hx
      obtain ⟨v', hv, h⟩ := Option.bind_eq_some_iff.1 h
      obtain ⟨hc, h⟩ := Conds.of h
      cases h
      have hx' := eo_ok hf hg hx
      obtain ⟨xs, hxs, e⟩ := Option.map_eq_some_iff.1 hx'
      obtain ⟨u, hu1, hu2⟩ := embL_get hxs hv
      exact ⟨u, hu2, fun K k => by simp only [opW, ← e, hu1]; exact okTy_cast hc hu2 k, fun K k => by simp only [pureW, ← e, hu1]; exact k⟩
    · cases h
  case call c =>
    split at h
    · rename_i b hb
      split at h
      · rename_i t ts x r hat hax
        obtain ⟨n, hn, rfl⟩ := Option.map_eq_some_iff.1 h
        obtain ⟨x', r', hx, hr, e⟩ := embL_cons.1 (eoL_ok hf hg hax)
        refine ⟨_, rfl, fun K k => ?_, fun K k => ?_⟩
        · simp only [opW, calW, hb, biW, hat, e]; exact lenO_W hn hx w k
        · simp only [pureW, hb, hat, e]
          unfold lenO at hn
          split at hn <;> rename_i hu <;> first | (cases hn; done) | (cases hn)
          · cases hx; simp only [lenP, hu, ba_size]; exact k
          · cases hx; simp only [lenP, hu]; exact k
          · obtain ⟨q, _, rfl⟩ := emb_sl.1 hx; simp only [lenP, hu]; exact k
          · obtain ⟨q, _, _, rfl⟩ := emb_su.1 hx; simp only [lenP, hu]; exact k
      · rename_i x r hax
        obtain ⟨x', r', hx, hr, e⟩ := embL_cons.1 (eoL_ok hf hg hax)
        obtain ⟨u, hu, hk⟩ := mmO_W true _ _ _ _ _ h hx hr
        refine ⟨u, hu, fun K k => ?_, fun K k => ?_⟩
        · simp only [opW, calW, hb, biW, e]; exact hk (K · w) k
        · simp only [pureW, hb, e]; exact hk K k
      · rename_i x r hax
        obtain ⟨x', r', hx, hr, e⟩ := embL_cons.1 (eoL_ok hf hg hax)
        obtain ⟨u, hu, hk⟩ := mmO_W false _ _ _ _ _ h hx hr
        refine ⟨u, hu, fun K k => ?_, fun K k => ?_⟩
        · simp only [opW, calW, hb, biW, e]; exact hk (K · w) k
        · simp only [pureW, hb, e]; exact hk K k
      · cases h
    · cases h
  all_goals cases h
end
end Go.Proofs.YtjbjooomagbfcaaGreatDoor.St

/- A machine that reckons closed calls: any operation, with what it does to blocks. It names no program. -/
namespace Go.Proofs.YtjbjooomagbfcaaGreatDoor.St
open Go

abbrev Outs := Option (List (AV × AH))
def one' (v : AV) (H : AH) : List (AV × AH) := [(v, H)]
def chk (P : Program) (ty : TypeId) (r : AV × AH) : Outs := bif okV P ty r.1 then some [r] else none
/-- An element of an array that is a value. -/
def aixO (P : Program) (t : TypeId) (l : List AV) (i : AV) : Option AV :=
  match P.underlying t, i with
  | some (.array n e), .i _ j => bif decide (0 ≤ j) && decide (j < n) then (match P.info? e, isAggO (P.underlying e) with
      | some inf, some true => some (.a ((l.take (j.toNat * inf.size + inf.size)).drop (j.toNat * inf.size)))
      | some inf, some false => l[j.toNat * inf.size]?
      | _, _ => none)
    else none
  | _, _ => none
/-- Any operation; 'cl' says what a call of a function value does. -/
def opM (P : Program) (gm : Nat → Option Nat) (cl : AV → List AV → AH → Outs) (op : Op) (ty : TypeId) (f : Tr AV) (H : AH) : Outs :=
  match op with
  | .load t a => (eo gm f a).bind fun a => (loadO P H t a).map fun v => one' v H
  | .store t a x => (eo gm f a).bind fun a => (eo gm f x).bind fun x => (storeO P H t a x).map fun H' => one' undA H'
  | .binOp o t x y _ => (binA P gm f o t x y).map fun v => one' v H
  | .alloc e => ((P.info? e).bind (·.zero)).bind fun z => (absL z.cells.toList).bind fun l => (newA H l).map fun H' => one' (.p H.nx 0) H'
  | .box _ x => (eo gm f x).bind fun x => (newA H (avCells x)).map fun H' => one' (.p H.nx 0) H'
  | .buildSlice t n ps => (partsE gm f ps.toList).bind fun ps => (bslO P H t n ps).map fun r => [r]
  | .makeMap t r => (match r with
    | none => bif Nat.blt H.nx tmax then some (one' (.m H.nx) (H.add (.m [] 0))) else none
    | some r => (match eo gm f r, mapT P t with
      | some (.i _ _), some _ => bif Nat.blt H.nx tmax then chk P ty (.m H.nx, H.add (.m [] 0)) else none
      | _, _ => none))
  | .makeSlice t l c => (eo gm f l).bind fun l => (eo gm f c).bind fun c => (mksO P H t l c).bind fun r => chk P ty r
  | .lookup t x i ok => (eo gm f x).bind fun x => (eo gm f i).bind fun i => (lookO P H t x i ok).bind fun v => chk P ty (v, H)
  | .mapUpdate t m k x => (eo gm f m).bind fun m => (eo gm f k).bind fun k => (eo gm f x).bind fun x => (updO P H t m k x).map fun H' => one' undA H'
  | .insert t m k x => (eo gm f m).bind fun m => (eo gm f k).bind fun k => (eo gm f x).bind fun x => (updO P H t m k x).map fun H' => one' undA H'
  | .range t x => (eo gm f x).bind fun x => (rngO P H t x).map fun r => [r]
  | .index t x i => (match eo gm f x with
    | some (.a l) => (eo gm f i).bind fun i => (aixO P t l i).bind fun v => chk P ty (v, H)
    | _ => (pureO P gm op ty f).map fun v => one' v H)
  | .next it s => (eo gm f it).bind fun it => nxtO H it s
  | .entry it => (eo gm f it).bind fun it => (entO H it).map fun v => one' v H
  | .call c => (match c.callee with
    | .value x => (eo gm f x).bind fun x => (eoL gm f c.args.toList).bind fun ags => (cl x ags H).bind fun outs => bif outs.all fun o => okV P ty o.1 then some outs else none
    | .builtin b => (match b, c.argTypes.toList, eoL gm f c.args.toList with
      | .append, ats, some (s :: x :: _) => (appO P H ats s x).bind fun r => chk P ty r
      | .delete, t :: _, some (m :: k :: _) => (delO P H t m k).bind fun H' => chk P ty (.t [], H')
      | .len, t :: _, some (.m n :: _) => (match getM H n, mapT P t with | some (es, _), some _ => some (one' (.i .i64 (es.length : Int)) H) | _, _ => none)
      | .len, t :: _, some (.nm :: _) => (match mapT P t with | some _ => some (one' (.i .i64 0) H) | _ => none)
      | _, _, _ => (pureO P gm op ty f).map fun v => one' v H)
    | _ => none)
  | _ => (pureO P gm op ty f).map fun v => one' v H
def AllK (B : World) (ρ : Rho) (outs : List (AV × AH)) (K : Value → World → Prop) : Prop := ∀ o ∈ outs, ∀ ρ' w' x, ρ.le ρ' → Rep B ρ' o.2 w' → emb ρ' o.1 = some x → K x w'
section
variable {P : Program} {B w : World} {ρ : Rho} {H : AH} {gm : Nat → Option Nat} {f : Tr AV} {g : Fr} (hf : FrR ρ f g) (hg : GmR ρ gm) (hR : Rep B ρ H w)
omit hf hg hR in
theorem aixO_W {t : TypeId} {l : List AV} {i v : AV} {xs : List Value} {i' : Value} (h : aixO P t l i = some v) (hx : embL ρ l = some xs) (hi : emb ρ i = some i') :
    ∃ u, emb ρ v = some u ∧ (Instr.index t (.agg ⟨xs⟩) i').run P w = .ok u w ∧ ∃ n e, P.underlying t = some (.array n e) := by
  unfold aixO at h
  split at h
  rotate_left
  · cases h
  rename_i n e kd j hu
  have hc := (Conds.of h).1
  replace h := (Conds.of h).2
  rw [Bool.and_eq_true, decide_eq_true_eq, decide_eq_true_eq] at hc
  cases hi
  split at h
  · rename_i inf hinf ha
    cases h
    refine ⟨.agg ⟨(xs.take (j.toNat * inf.size + inf.size)).drop (j.toNat * inf.size)⟩, by simp only [emb, embL_drop _ (embL_take _ hx)]; rfl, ?_, n, e, hu⟩
    have hg : (isAgg e).run P w = .ok true w := by
      unfold isAggO at ha
      split at ha
      · rename_i h'; simp [isAgg, run_underlying' h', Result.andThen]
      · rename_i h'; simp [isAgg, run_underlying' h', Result.andThen]
      · cases ha
      · cases ha
    have he : (⟨xs⟩ : Array Value).extract (j.toNat * inf.size) (j.toNat * inf.size + inf.size) = ⟨(xs.take (j.toNat * inf.size + inf.size)).drop (j.toNat * inf.size)⟩ := by
      apply Array.toList_inj.1
      simp [List.extract_eq_take_drop, List.drop_take]
    simp [Instr.index, asIntOf, run_underlying' hu, Result.andThen, hc.1, hc.2, run_sizeOf' hinf, part, hg, ← he]
  · rename_i inf hinf ha
    obtain ⟨c, hc', hv⟩ := embL_get hx h
    refine ⟨c, hv, ?_, n, e, hu⟩
    have hg : (isAgg e).run P w = .ok false w := by
      unfold isAggO at ha
      split at ha
      · cases ha
      · cases ha
      · rename_i d n1 n2 h'
        rw [isAgg_run h']
        cases d <;> first | rfl | exact absurd rfl (n1 _) | exact absurd rfl (n2 _ _)
      · cases ha
    simp [Instr.index, asIntOf, run_underlying' hu, Result.andThen, hc.1, hc.2, run_sizeOf' hinf, part, hg, hc']
  · cases h
theorem AllK.one {v : AV} {H' : AH} {K : Value → World → Prop} (h : AllK B ρ [(v, H')] K) {ρ' : Rho} {w' : World} {x : Value} (h1 : ρ.le ρ') (h2 : Rep B ρ' H' w') (h3 : emb ρ' v = some x) : K x w' :=
  h _ (List.mem_singleton.2 rfl) ρ' w' x h1 h2 h3
theorem AllK.does {outs : List (AV × AH)} {K : Value → World → Prop} {W : (Value → World → Prop) → Prop} (hd : Does B ρ outs W) (h : AllK B ρ outs K) : W K :=
  let ⟨_, ho, _, _, _, h1, h2, h3, h4⟩ := hd
  h4 K (h _ ho _ _ _ h1 h2 h3)
theorem chk_some {ty : TypeId} {r : AV × AH} {outs : List (AV × AH)} (h : chk P ty r = some outs) : okV P ty r.1 = true ∧ outs = [r] := by
  obtain ⟨hc, h⟩ := Conds.of h
  cases h
  exact ⟨hc, rfl⟩
include hf hg hR
theorem opM_W {cl : AV → List AV → AH → Outs} (hcl : ∀ fv ags outs fv' ags', cl fv ags H = some outs → emb ρ fv = some fv' → embL ρ ags = some ags' → ∀ K, AllK B ρ outs K → CaV P fv' ⟨ags'⟩ w K)
    {op : Op} {ty : TypeId} {outs : List (AV × AH)} (h : opM P gm cl op ty f H = some outs) {K : Value → World → Prop} (hK : AllK B ρ outs K) : opW P op ty g w K := by
  have pure1 : ∀ {op : Op}, ((pureO P gm op ty f).map fun v => one' v H) = some outs → opW P op ty g w K := fun {op} h => by
    obtain ⟨v, hv, rfl⟩ := Option.map_eq_some_iff.1 h
    obtain ⟨u, hu, hk, _⟩ := pureO_W hf hg hv w
    exact hk K (hK.one (Rho.le.refl _) hR hu)
  cases op <;> simp only [opM] at h
  case load t a =>
    obtain ⟨a', ha, h⟩ := Option.bind_eq_some_iff.1 h
    obtain ⟨v, hv, rfl⟩ := Option.map_eq_some_iff.1 h
    obtain ⟨u, hu, hk⟩ := loadO_W hR hv (eo_ok hf hg ha)
    exact hk (K · w) (hK.one (Rho.le.refl _) hR hu)
  case store t a x =>
    obtain ⟨a', ha, h⟩ := Option.bind_eq_some_iff.1 h
    obtain ⟨x', hx, h⟩ := Option.bind_eq_some_iff.1 h
    obtain ⟨H', hH, rfl⟩ := Option.map_eq_some_iff.1 h
    obtain ⟨w', hR', hk⟩ := storeO_W hR hH (eo_ok hf hg ha) (eo_ok hf hg hx)
    exact hk (K undef ·) (hK.one (Rho.le.refl _) hR' undA_emb)
  case binOp o t x y yt =>
    obtain ⟨v, hv, rfl⟩ := Option.map_eq_some_iff.1 h
    cases hn : isNilC y with
    | true => simp only [binA, hn, cond_true] at hv; cases hv
    | false =>
      simp only [binA, hn, cond_false] at hv
      obtain ⟨x', hx, hv⟩ := Option.bind_eq_some_iff.1 hv
      obtain ⟨y', hy, hv⟩ := Option.bind_eq_some_iff.1 hv
      obtain ⟨u, hu, hk⟩ := binO_W hv (eo_ok hf hg hx) (eo_ok hf hg hy) w
      simp only [opW, hn, cond_false]
      exact hk K (hK.one (Rho.le.refl _) hR hu)
  case alloc e =>
    obtain ⟨z, hz, h⟩ := Option.bind_eq_some_iff.1 h
    obtain ⟨l, hl, h⟩ := Option.bind_eq_some_iff.1 h
    obtain ⟨H', hH, rfl⟩ := Option.map_eq_some_iff.1 h
    obtain ⟨ρ', a1, a2, a3⟩ := newA_W (c := z.cells) (e := e) hR hH (absL_emb hl)
    simp only [opW, hz]
    exact fun w' e' => by subst e'; exact hK.one a1 a2 (emb_p.2 ⟨_, a3, rfl⟩)
  case box e x =>
    obtain ⟨x', hx, h⟩ := Option.bind_eq_some_iff.1 h
    obtain ⟨H', hH, rfl⟩ := Option.map_eq_some_iff.1 h
    obtain ⟨ρ', a1, a2, a3⟩ := newA_W (c := (ev g x).cells) (e := e) hR hH (avCells_emb (eo_ok hf hg hx))
    exact fun w' e' => by subst e'; exact hK.one a1 a2 (emb_p.2 ⟨_, a3, rfl⟩)
  case buildSlice t n ps =>
    obtain ⟨ps', hps, h⟩ := Option.bind_eq_some_iff.1 h
    obtain ⟨r, hr, rfl⟩ := Option.map_eq_some_iff.1 h
    exact AllK.does (bslO_W hR hr (partsE_ok hf hg hps)) hK
  case makeMap t r =>
    have key : Nat.blt H.nx tmax = true → ∃ ρ', ρ.le ρ' ∧ Rep B ρ' (H.add (.m [] 0)) (w.alloc (.map #[] 0)) ∧ ρ'.at_ H.nx = some ⟨w.heap.size, 0, 0⟩ := fun hc =>
      hR.add1 (x := .map #[] 0) (o := .m [] 0) hc rfl rfl fun ρ' _ => ⟨#[], new_at _ _, trivial⟩
    cases r with
    | none =>
      obtain ⟨hc, h⟩ := Conds.of h
      cases h
      obtain ⟨ρ', a1, a2, a3⟩ := key hc
      exact fun w' e' => by subst e'; exact hK.one a1 a2 (emb_m.2 ⟨_, a3, rfl⟩)
    | some r =>
      simp only at h
      split at h
      · rename_i kt et hr hm
        obtain ⟨hc, h⟩ := Conds.of h
        obtain ⟨hc2, rfl⟩ := chk_some h
        obtain ⟨ρ', a1, a2, a3⟩ := key hc
        have e1 := eo_ok hf hg hr
        have hu := mapT_W (k := (‹TypeId × TypeId›).1) (e := (‹TypeId × TypeId›).2) hm
        refine runV_in hc2 (emb_m.2 ⟨_, a3, rfl⟩) ?_ (hK.one a1 a2 (emb_m.2 ⟨_, a3, rfl⟩))
        simp only [emb, Option.some.injEq] at e1
        simp [Instr.makeMap, run_underlying' hu, Result.andThen, ← e1, asInt, asIntOf]
      · cases h
  case makeSlice t l c =>
    obtain ⟨l', hl, h⟩ := Option.bind_eq_some_iff.1 h
    obtain ⟨c', hc, h⟩ := Option.bind_eq_some_iff.1 h
    obtain ⟨r, hr, h⟩ := Option.bind_eq_some_iff.1 h
    obtain ⟨hc2, rfl⟩ := chk_some h
    obtain ⟨ρ', w', x, a1, a2, a3, a4⟩ := mksO_W hR hr (eo_ok hf hg hl) (eo_ok hf hg hc)
    exact runV_in hc2 a3 a4 (hK.one a1 a2 a3)
  case lookup t x i ok =>
    obtain ⟨x', hx, h⟩ := Option.bind_eq_some_iff.1 h
    obtain ⟨i', hi, h⟩ := Option.bind_eq_some_iff.1 h
    obtain ⟨v, hv, h⟩ := Option.bind_eq_some_iff.1 h
    obtain ⟨hc2, rfl⟩ := chk_some h
    obtain ⟨u, hu, hr⟩ := lookO_W hR hv (eo_ok hf hg hx) (eo_ok hf hg hi)
    exact runV_in hc2 hu hr (hK.one (Rho.le.refl _) hR hu)
  case mapUpdate t m k x =>
    obtain ⟨m', hm, h⟩ := Option.bind_eq_some_iff.1 h
    obtain ⟨k', hk, h⟩ := Option.bind_eq_some_iff.1 h
    obtain ⟨x', hx, h⟩ := Option.bind_eq_some_iff.1 h
    obtain ⟨H', hH, rfl⟩ := Option.map_eq_some_iff.1 h
    obtain ⟨w', hR', hr⟩ := updO_W hR hH (eo_ok hf hg hm) (eo_ok hf hg hk) (eo_ok hf hg hx)
    exact ⟨w', hr, hK.one (Rho.le.refl _) hR' undA_emb⟩
  case insert t m k x =>
    obtain ⟨m', hm, h⟩ := Option.bind_eq_some_iff.1 h
    obtain ⟨k', hk, h⟩ := Option.bind_eq_some_iff.1 h
    obtain ⟨x', hx, h⟩ := Option.bind_eq_some_iff.1 h
    obtain ⟨H', hH, rfl⟩ := Option.map_eq_some_iff.1 h
    obtain ⟨w', hR', hr⟩ := updO_W hR hH (eo_ok hf hg hm) (eo_ok hf hg hk) (eo_ok hf hg hx)
    exact ⟨w', hr, hK.one (Rho.le.refl _) hR' undA_emb⟩
  case range t x =>
    obtain ⟨x', hx, h⟩ := Option.bind_eq_some_iff.1 h
    obtain ⟨r, hr, rfl⟩ := Option.map_eq_some_iff.1 h
    exact AllK.does (rngO_W hR hr (eo_ok hf hg hx)) hK
  case index t x i =>
    split at h
    · rename_i l hx
      obtain ⟨i', hi, h⟩ := Option.bind_eq_some_iff.1 h
      obtain ⟨v, hv, h⟩ := Option.bind_eq_some_iff.1 h
      obtain ⟨hc2, rfl⟩ := chk_some h
      obtain ⟨xs, hxs, e⟩ := Option.map_eq_some_iff.1 (eo_ok hf hg hx)
      obtain ⟨u, hu, hr, hne⟩ := aixO_W (w := w) hv hxs (eo_ok hf hg hi)
      simp only [opW, ← e]
      unfold ixW
      split
      · rename_i he _; cases he
      · exact runV_in hc2 hu hr (hK.one (Rho.le.refl _) hR hu)
    · exact pure1 h
  case next it s =>
    obtain ⟨it', hit, h⟩ := Option.bind_eq_some_iff.1 h
    exact AllK.does (nxtO_W hR h (eo_ok hf hg hit) ty) hK
  case entry it =>
    obtain ⟨it', hit, h⟩ := Option.bind_eq_some_iff.1 h
    obtain ⟨v, hv, rfl⟩ := Option.map_eq_some_iff.1 h
    obtain ⟨u, hu, hk⟩ := entO_W hR hv (eo_ok hf hg hit)
    exact hk K (hK.one (Rho.le.refl _) hR hu)
  case call c =>
    split at h
    · rename_i x hx0
      obtain ⟨x', hx, h⟩ := Option.bind_eq_some_iff.1 h
      obtain ⟨ags, has, h⟩ := Option.bind_eq_some_iff.1 h
      obtain ⟨o, ho, h⟩ := Option.bind_eq_some_iff.1 h
      obtain ⟨hc, h⟩ := Conds.of h
      cases h
      rw [List.all_eq_true] at hc
      simp only [opW, calW, hx0]
      refine hcl _ _ _ _ _ ho (eo_ok hf hg hx) (eoL_ok hf hg has) _ fun o hoo ρ' w' v a1 a2 a3 => ?_
      exact okV_in (hc o hoo) a3 ⟨rfl, hK o hoo ρ' w' v a1 a2 a3⟩
    · rename_i b hb
      split at h
      · rename_i ats s x r hax
        obtain ⟨r', hr', h⟩ := Option.bind_eq_some_iff.1 h
        obtain ⟨hc2, rfl⟩ := chk_some h
        obtain ⟨s', r1, hs, hr1, e⟩ := embL_cons.1 (eoL_ok hf hg hax)
        obtain ⟨x', r2, hx, hr2, rfl⟩ := embL_cons.1 hr1
        obtain ⟨ρ', w', u, a1, a2, a3, a4⟩ := appO_W hR hr' hs hx ty r2
        simp only [opW, calW, hb, biW, e]
        exact runV_in hc2 a3 a4 (hK.one a1 a2 a3)
      · rename_i t ts m k r hat hax
        obtain ⟨H', hH, h⟩ := Option.bind_eq_some_iff.1 h
        obtain ⟨hc2, rfl⟩ := chk_some h
        obtain ⟨m', r1, hm, hr1, e⟩ := embL_cons.1 (eoL_ok hf hg hax)
        obtain ⟨k', r2, hk, hr2, rfl⟩ := embL_cons.1 hr1
        obtain ⟨w', hR', hr⟩ := delO_W (ty := ty) (ts := ts) (r := r2) hR hH hm hk
        have hat' : c.argTypes = ⟨t :: ts⟩ := by rw [← hat]
        simp only [opW, calW, hb, biW, e, hat']
        exact runV_in (ρ := ρ) hc2 rfl hr (hK.one (Rho.le.refl _) hR' rfl)
      · rename_i t ts n r hat hax
        split at h
        · rename_i es ck kt hgm hm
          cases h
          have hu := mapT_W (k := kt.1) (e := kt.2) hm
          obtain ⟨m', r1, hm', hr1, e⟩ := embL_cons.1 (eoL_ok hf hg hax)
          obtain ⟨q', hq', rfl⟩ := emb_m.1 hm'
          obtain ⟨hg1, q, hq, xs, hb', hE⟩ := getM_W hR hgm
          obtain rfl := Option.some.inj (hq.symm.trans hq')
          simp only [opW, calW, hb, biW, hat, e, lenW, hu, lenM]
          refine ⟨xs, ck, hb', ?_⟩
          have : xs.size = es.length := by rw [← hE.len]; simp
          rw [this]
          exact hK.one (Rho.le.refl _) hR rfl
        · cases h
      · rename_i t ts r hat hax
        split at h
        · rename_i kt hm
          cases h
          have hu := mapT_W (k := kt.1) (e := kt.2) hm
          obtain ⟨m', r1, hm', hr1, e⟩ := embL_cons.1 (eoL_ok hf hg hax)
          cases hm'
          simp only [opW, calW, hb, biW, hat, e, lenW, hu, lenM]
          exact hK.one (Rho.le.refl _) hR rfl
        · cases h
      · exact pure1 h
    · cases h
  all_goals exact pure1 h
end
end Go.Proofs.YtjbjooomagbfcaaGreatDoor.St

/- A machine that reckons closed calls: regions, in the text's order and by plans. It names no program. -/
namespace Go.Proofs.YtjbjooomagbfcaaGreatDoor.St
open Go

def flatM {α β : Type} (g : α → Option (List β)) : List α → Option (List β)
  | [] => some []
  | [a] => g a
  | a :: b :: l => (g a).bind fun x => (flatM g (b :: l)).map fun y => x ++ y
theorem flatM_mem {α β : Type} {g : α → Option (List β)} : ∀ {l : List α} {outs : List β}, flatM g l = some outs → ∀ a ∈ l, ∃ o, g a = some o ∧ ∀ x ∈ o, x ∈ outs
  | [], _, _, a, ha => by simp at ha
  | [a], outs, h, b, hb => by
    rw [List.mem_singleton] at hb
    subst hb
    exact ⟨_, h, fun _ h => h⟩
  | a :: c :: l, outs, h, b, hb => by
    simp only [flatM] at h
    obtain ⟨x, hx, h⟩ := Option.bind_eq_some_iff.1 h
    obtain ⟨y, hy, rfl⟩ := Option.map_eq_some_iff.1 h
    rcases List.mem_cons.1 hb with rfl | hb
    · exact ⟨x, hx, fun z hz => List.mem_append_left _ hz⟩
    · obtain ⟨o, ho, hm⟩ := flatM_mem hy b hb
      exact ⟨o, ho, fun z hz => List.mem_append_right _ (hm z hz)⟩

def wantE (ops : List Oper) (o : Oper) (f : Tr AV) : Option Bool :=
  match o.guard with
  | none => some true
  | some (j, want) => match (ops[j]?).bind (·.dst) with
    | some t => (match f.get t with
      | some (.b b) => some (b == want)
      | some (.t _) => some false
      | _ => none)
    | none => none
def okSrc (ops : List Oper) (i : Nat) (v : AV) : Bool :=
  match v with
  | .b _ => true
  | _ => !(isSrc ops i)
abbrev FOuts := Option (List (Tr AV × AH))
def wplE (P : Program) (gm : Nat → Option Nat) (cl : AV → List AV → AH → Outs) (ops : List Oper) : List Oper → Nat → Tr AV → AH → FOuts
  | [], _, f, H => some [(f, H)]
  | o :: rest, i, f, H => match wantE ops o f with
    | none => none
    | some true => (opM P gm cl o.op o.type f H).bind fun outs => flatM (fun r => bif okDst o.dst && okSrc ops i r.1 then wplE P gm cl ops rest (i + 1) (putA f o.dst r.1) r.2 else none) outs
    | some false => bif okDst o.dst then wplE P gm cl ops rest (i + 1) (putA f o.dst undA) H else none

def eqV : AV → AV → Bool
  | .b x, .b y => x == y
  | .i k x, .i k' y => sameK k k' && decide (x = y)
  | .s x, .s y => x == y
  | .np, .np => true
  | .p a b, .p c d => Nat.beq a c && Nat.beq b d
  | .ns, .ns => true
  | .sl a b c d, .sl a' b' c' d' => Nat.beq a a' && Nat.beq b b' && Nat.beq c c' && Nat.beq d d'
  | .su a b c d, .su a' b' c' d' => Nat.beq a a' && Nat.beq b b' && Nat.beq c c' && Nat.beq d d'
  | .nm, .nm => true
  | .m a, .m b => Nat.beq a b
  | .nf, .nf => true
  | .ni, .ni => true
  | .f a [] [], .f b [] [] => Nat.beq a b
  | .oi k a, .oi k' b => sameK k k' && Nat.beq a b
  | .ob a, .ob b => Nat.beq a b
  | .os a, .os b => Nat.beq a b
  | _, _ => false
def eqVs : List AV → List AV → Bool
  | [], [] => true
  | a :: l, b :: r => eqV a b && eqVs l r
  | _, _ => false
theorem eqV_eq {a b : AV} (h : eqV a b = true) : a = b := by
  unfold eqV at h
  split at h
  all_goals try (cases h; done)
  all_goals try rfl
  all_goals simp only [Bool.and_eq_true, beq_iff, beq_iff_eq, decide_eq_true_eq] at h
  · rw [h]
  · rw [sameK_eq h.1, h.2]
  · rw [h]
  · rw [h.1, h.2]
  · rw [h.1.1.1, h.1.1.2, h.1.2, h.2]
  · rw [h.1.1.1, h.1.1.2, h.1.2, h.2]
  · rw [h]
  · rw [h]
  · rw [sameK_eq h.1, h.2]
  · rw [h]
  · rw [h]
theorem eqVs_eq : ∀ {l r : List AV}, eqVs l r = true → l = r
  | [], [], _ => rfl
  | [], _ :: _, h => by cases h
  | _ :: _, [], h => by cases h
  | a :: l, b :: r, h => by
    simp only [eqVs, Bool.and_eq_true] at h
    rw [eqV_eq h.1, eqVs_eq h.2]
def partsA (P : Program) (t : TypeId) (v : AV) : List AV :=
  match ctU (P.underlying t) with
  | some none => avCells v
  | _ => [v]
def heldE (P : Program) (gm : Nat → Option Nat) (ops : List Oper) (f : Tr AV) (H : AH) : List Nat → Bool
  | [] => true
  | j :: js => (match ops[j]? with
    | some o => (match o.op, o.dst with
      | .load t a, some d => (match eo gm f a, f.get d with
        | some (.p n o'), some v => (match getC H n with
          | some (vs, _) => eqVs ((vs.drop o').take (partsA P t v).length) (partsA P t v)
          | none => false)
        | _, _ => false)
      | _, _ => false)
    | none => false) && heldE P gm ops f H js
/-- What may be asked at any moment. -/
def quietO (P : Program) (gm : Nat → Option Nat) (o : Oper) (f : Tr AV) (H : AH) : Option AV :=
  match o.op with
  | .load t a => (eo gm f a).bind fun a => loadO P H t a
  | .binOp op t x y _ => (eo gm f x).bind fun x => (eo gm f y).bind fun y => (match x with | .a _ => none | _ => binO P op t x y)
  | op => pureO P gm op o.type f
def plE (P : Program) (gm : Nat → Option Nat) (cl : AV → List AV → AH → Outs) (ops : List Oper) : Plan → Tr AV → AH → FOuts
  | .done, f, H => some [(f, H)]
  | .quiet i p, f, H => (match ops[i]? with
    | none => none
    | some o => (match wantE ops o f with
      | none => none
      | some true => (quietO P gm o f H).bind fun v => bif okDst o.dst && okSrc ops i v then plE P gm cl ops p (putA f o.dst v) H else none
      | some false => bif okDst o.dst then plE P gm cl ops p (putA f o.dst undA) H else none))
  | .eff i hold p, f, H => (match ops[i]? with
    | none => none
    | some o => (match wantE ops o f with
      | none => none
      | some true => (opM P gm cl o.op o.type f H).bind fun outs => flatM (fun r => bif okDst o.dst && (okSrc ops i r.1 && heldE P gm ops f r.2 hold) then plE P gm cl ops p (putA f o.dst r.1) r.2 else none) outs
      | some false => bif okDst o.dst then plE P gm cl ops p (putA f o.dst undA) H else none))
  | .fork p q, f, H => (plE P gm cl ops p f H).bind fun x => (plE P gm cl ops q f H).map fun y => x ++ y

def AllF (B : World) (ρ : Rho) (outs : List (Tr AV × AH)) (Q : Fr → World → Prop) : Prop := ∀ o ∈ outs, ∀ ρ' g' w', ρ.le ρ' → Rep B ρ' o.2 w' → FrR ρ' o.1 g' → Q g' w'
/-- What calls may lean on. -/
structure Env0 (gm : Nat → Option Nat) (E : Rho → Prop) : Prop where
  mono : ∀ ρ ρ', ρ.le ρ' → E ρ → E ρ'
  gm : ∀ ρ, E ρ → GmR ρ gm
def ClOK (P : Program) (B : World) (E : Rho → Prop) (cl : AV → List AV → AH → Outs) : Prop :=
  ∀ ρ H w, Rep B ρ H w → E ρ → ∀ fv ags outs fv' ags', cl fv ags H = some outs → emb ρ fv = some fv' → embL ρ ags = some ags' → ∀ K, AllK B ρ outs K → CaV P fv' ⟨ags'⟩ w K
section
variable {P : Program} {B : World} {gm : Nat → Option Nat} {E : Rho → Prop} (hE : Env0 gm E) {cl : AV → List AV → AH → Outs} (hcl : ClOK P B E cl) {ops : Array Oper}
theorem wantE_W {o : Oper} {f : Tr AV} {g : Fr} {ρ : Rho} (hf : FrR ρ f g) {b : Bool} (h : wantE ops.toList o f = some b) {X Y : Prop} (h1 : b = true → X) (h2 : b = false → Y) : ifWant ops o g X Y := by
  unfold wantE at h
  unfold ifWant
  split at h
  · rename_i hg; rw [hg]; cases h; exact h1 rfl
  · rename_i j want hg
    rw [hg]
    split at h
    · rename_i t ht
      have ht' : (ops[j]?).bind (·.dst) = some t := by rw [← ht]; simp
      simp only [ht']
      split at h
      · rename_i b' hb
        cases h
        have e : g t = .bool b' := by have := hf t _ hb; simpa [emb] using this.symm
        simp only [e]
        cases hc : (b' == want) with
        | true => exact h1 hc
        | false => exact h2 hc
      · rename_i l hb
        cases h
        have := hf t _ hb
        obtain ⟨xs, _, e⟩ := Option.map_eq_some_iff.1 this
        simp only [← e]
        exact h2 rfl
      · cases h
    · cases h
theorem partB_in {i : Nat} {v : AV} {x : Value} {ρ : Rho} (h : okSrc ops.toList i v = true) (hv : emb ρ v = some x) {K : Value → Prop} (hk : K x) : partB (isSrc ops.toList i) x K := by
  unfold partB
  unfold okSrc at h
  split at h
  · cases hv
    cases isSrc ops.toList i with
    | false => exact hk
    | true =>
      rename_i b
      cases b
      · exact hk
      · exact hk
  · simp only [Bool.not_eq_true'] at h
    rw [h]; exact hk
include hE hcl
theorem wplE_W : ∀ (l : List Oper) (i : Nat) {f : Tr AV} {g : Fr} {ρ : Rho} {H : AH} {w : World} {outs : List (Tr AV × AH)}, wplE P gm cl ops.toList l i f H = some outs → FrR ρ f g → Rep B ρ H w → E ρ → ∀ {Q : Fr → World → Prop}, AllF B ρ outs Q → wpL P ops Q l i g w
  | [], i, f, g, ρ, H, w, outs, h, hf, hR, he, Q, hQ => by
    cases h
    exact hQ _ (List.mem_singleton.2 rfl) ρ g w (Rho.le.refl _) hR hf
  | o :: rest, i, f, g, ρ, H, w, outs, h, hf, hR, he, Q, hQ => by
    unfold wplE at h
    unfold wpL
    split at h
    · cases h
    · rename_i hw
      refine wantE_W hf hw (fun _ => ?_) fun e => by cases e
      obtain ⟨os, hos, h⟩ := Option.bind_eq_some_iff.1 h
      refine opM_W hf (hE.gm _ he) hR (hcl ρ H w hR he) hos fun r hr ρ' w' x a1 a2 a3 => ?_
      obtain ⟨o2, ho2, hm⟩ := flatM_mem h r hr
      obtain ⟨hc, ho2⟩ := Conds.of ho2
      rw [Bool.and_eq_true] at hc
      exact partB_in hc.2 a3 (wplE_W rest (i + 1) ho2 ((hf.mono a1).put hc.1 a3) a2 (hE.mono _ _ a1 he) fun z hz ρ2 g2 w2 b1 b2 b3 => hQ z (hm z hz) ρ2 g2 w2 (a1.trans b1) b2 b3)
    · rename_i hw
      refine wantE_W hf hw (fun e => by cases e) fun _ => ?_
      obtain ⟨hc, h⟩ := Conds.of h
      exact wplE_W rest (i + 1) h (hf.put hc undA_emb) hR he hQ
omit hE hcl in
theorem heldE_W {f : Tr AV} {g : Fr} {ρ : Rho} {H : AH} {w : World} (hf : FrR ρ f g) (hg : GmR ρ gm) (hR : Rep B ρ H w) : ∀ {hold : List Nat}, heldE P gm ops.toList f H hold = true → ∀ {X : Prop}, X → heldL P ops g w hold X
  | [], _, _, hx => hx
  | j :: js, h, X, hx => by
    unfold heldE at h
    rw [Bool.and_eq_true] at h
    obtain ⟨h, h2⟩ := h
    have hrest := heldE_W hf hg hR h2 hx
    unfold heldL held1
    split at h
    · rename_i o ho
      have ho' : ops[j]? = some o := by rw [← ho]; simp
      rw [ho']
      simp only
      split at h
      · rename_i t a d hop hd
        rw [hop, hd]
        simp only
        split at h
        · rename_i n o' v hea hv
          split at h
          · rename_i vs rr hgc
            obtain ⟨al, ro, es⟩ := rr
            obtain ⟨q, hq, e⟩ := emb_p.1 (eo_ok hf hg hea)
            obtain ⟨q', c, el, fz, xs, _, hq', hb, _, _, hxs, _, hcell⟩ := getC_W hR hgc
            obtain rfl := Option.some.inj (hq.symm.trans hq')
            have hg' := hf d v hv
            have heq := eqVs_eq h
            have hparts : embL ρ (partsA P t v) = some (partsOf P t (g d)) := by
              unfold partsA partsOf
              have hc := avCells_emb hg'
              unfold ctU
              split <;> rename_i h1
              · split at h1
                · rename_i h2; rw [h2]; exact hc
                · rename_i h2; rw [h2]; exact hc
                · cases h1
                · cases h1
              · split
                · rename_i h2; rw [h2] at h1; simp at h1
                · rename_i h2; rw [h2] at h1; simp at h1
                · exact embL_cons.2 ⟨_, _, hg', rfl, rfl⟩
            have hcells := embL_take (partsA P t v).length (embL_drop o' hxs)
            rw [heq, hparts] at hcells
            have hcells := Option.some.inj hcells
            rw [e]
            simp only [onPtr, onP]
            have key : ∀ (cs : List Value) (i : Nat), (∀ k c', cs[k]? = some c' → w.cell? (Addr.add ⟨q.b, q.o + o', none⟩ (i + k)) = some c') → heldC ⟨q.b, q.o + o', none⟩ i cs w (heldL P ops g w js X) := by
              intro cs
              induction cs with
              | nil => intro i _; exact hrest
              | cons c' cs ih =>
                intro i hi
                refine ⟨by have := hi 0 c' rfl; simpa using this, ih (i + 1) fun k c2 hk => ?_⟩
                have := hi (k + 1) c2 (by simpa using hk)
                rw [show i + 1 + k = i + (k + 1) by omega]; exact this
            refine key _ 0 fun k c' hk => ?_
            rw [hcells] at hk
            rw [Nat.zero_add, add_lit, cl hb, Nat.add_assoc]
            exact hcell _ _ (drop_take_get hk)
          · cases h
        · cases h
      · cases h
    · cases h
end
end Go.Proofs.YtjbjooomagbfcaaGreatDoor.St

/- A machine that reckons closed calls: regions by plans. It names no program. -/
namespace Go.Proofs.YtjbjooomagbfcaaGreatDoor.St
open Go
section
variable {P : Program} {ρ : Rho}
theorem binO_P {op : BinOp} {t : TypeId} {x y v : AV} {x' y' : Value} (h : binO P op t x y = some v) (hn : ∀ l, x ≠ .a l) (hx : emb ρ x = some x') (hy : emb ρ y = some y') :
    ∃ u, emb ρ v = some u ∧ ∀ K : Value → Prop, K u → binP P op t x' y' K := by
  unfold binO at h
  split at h
  · cases hx; cases hy
    cases hs : isShift op with
    | true =>
      rw [hs] at h
      obtain ⟨u, hu, hk⟩ := shIO_W (ρ := ρ) h
      exact ⟨u, hu, fun K k => by simp only [binP, hs, cond_true]; exact hk K k⟩
    | false =>
      rw [hs] at h
      obtain ⟨c, h⟩ := Conds.of h
      obtain ⟨u, hu, hk⟩ := binIO_W (ρ := ρ) h
      exact ⟨u, hu, fun K k => by simp only [binP, hs, cond_false, c, cond_true]; exact hk K k⟩
  · cases hx; cases hy
    cases hs : isShift op with
    | true => rw [hs] at h; cases h
    | false =>
      rw [hs] at h
      obtain ⟨u, hu, hk⟩ := binSO_W (ρ := ρ) h
      exact ⟨u, hu, fun K k => by simp only [binP, hs, cond_false]; exact hk K k⟩
  · cases hx; cases hy
    split at h
    · rename_i hu
      obtain ⟨b, hb, u, hu', h⟩ := eqO_W (ρ := ρ) h
      cases hb
      refine ⟨u, hu', fun K k => ?_⟩
      rcases h with ⟨rfl, rfl⟩ | ⟨rfl, rfl⟩ <;> (simp only [binP, hu]; exact k)
    · cases h
  · cases hy
    split at h
    · rename_i hu
      obtain ⟨b, hb, u, hu', h⟩ := eqO_W (ρ := ρ) h
      obtain ⟨p, rfl, rfl⟩ := isNilP_W hb hx
      refine ⟨u, hu', fun K k => ?_⟩
      rcases h with ⟨rfl, rfl⟩ | ⟨rfl, rfl⟩ <;> (simp only [binP, hu]; exact k)
    · cases h
  · cases hy
    split at h
    · rename_i hu
      obtain ⟨b, hb, u, hu', h⟩ := eqO_W (ρ := ρ) h
      obtain ⟨p, l, c, rfl, rfl⟩ := isNilS_W hb hx
      refine ⟨u, hu', fun K k => ?_⟩
      rcases h with ⟨rfl, rfl⟩ | ⟨rfl, rfl⟩ <;> (simp only [binP, hu]; exact k)
    · cases h
  · cases hy
    split at h
    · rename_i hu
      obtain ⟨b, hb, u, hu', h⟩ := eqO_W (ρ := ρ) h
      obtain ⟨p, rfl, rfl⟩ := isNilM_W hb hx
      refine ⟨u, hu', fun K k => ?_⟩
      rcases h with ⟨rfl, rfl⟩ | ⟨rfl, rfl⟩ <;> (simp only [binP, hu]; exact k)
    · cases h
  · exact absurd rfl (hn _)
  · cases h
end
section
variable {P : Program} {B : World} {gm : Nat → Option Nat} {E : Rho → Prop} (hE : Env0 gm E) {cl : AV → List AV → AH → Outs} (hcl : ClOK P B E cl) {ops : Array Oper}
theorem quietO_W {o : Oper} {f : Tr AV} {g : Fr} {ρ : Rho} {H : AH} {w : World} {v : AV} (h : quietO P gm o f H = some v) (hf : FrR ρ f g) (hg : GmR ρ gm) (hR : Rep B ρ H w) :
    ∃ u, emb ρ v = some u ∧ ∀ K : Value → Prop, K u → (match o.op with
         | .load t a => ldW P t (ev g a) w K
         | op => pureW P op g K) := by
  unfold quietO at h
  split at h
  · rename_i t a ho
    obtain ⟨a', ha, h⟩ := Option.bind_eq_some_iff.1 h
    obtain ⟨u, hu, hk⟩ := loadO_W hR h (eo_ok hf hg ha)
    exact ⟨u, hu, fun K k => by simp only [ho]; exact hk K k⟩
  · rename_i op t x y yt ho
    obtain ⟨x', hx, h⟩ := Option.bind_eq_some_iff.1 h
    obtain ⟨y', hy, h⟩ := Option.bind_eq_some_iff.1 h
    split at h
    · cases h
    · rename_i hn
      obtain ⟨u, hu, hk⟩ := binO_P h (fun l e => hn l e) (eo_ok hf hg hx) (eo_ok hf hg hy)
      exact ⟨u, hu, fun K k => by simp only [ho]; exact hk K k⟩
  · rename_i n1 n2
    obtain ⟨u, hu, _, hk⟩ := pureO_W hf hg h w
    refine ⟨u, hu, fun K k => ?_⟩
    split
    · rename_i t a ho; exact absurd ho (n1 t a)
    · exact hk K k
include hE hcl
theorem plE_W : ∀ (p : Plan) {f : Tr AV} {g : Fr} {ρ : Rho} {H : AH} {w : World} {outs : List (Tr AV × AH)}, plE P gm cl ops.toList p f H = some outs → FrR ρ f g → Rep B ρ H w → E ρ → ∀ {Q : Fr → World → Prop}, AllF B ρ outs Q → plW P ops Q p g w
  | .done, f, g, ρ, H, w, outs, h, hf, hR, he, Q, hQ => by
    cases h
    exact hQ _ (List.mem_singleton.2 rfl) ρ g w (Rho.le.refl _) hR hf
  | .quiet i p, f, g, ρ, H, w, outs, h, hf, hR, he, Q, hQ => by
    unfold plE at h
    unfold plW
    split at h
    · cases h
    · rename_i o ho
      have ho' : ops[i]? = some o := by rw [← ho]; simp
      rw [ho']
      simp only
      split at h
      · cases h
      · rename_i hw
        refine wantE_W hf hw (fun _ => ?_) fun e => by cases e
        obtain ⟨v, hv, h⟩ := Option.bind_eq_some_iff.1 h
        obtain ⟨hc, h⟩ := Conds.of h
        rw [Bool.and_eq_true] at hc
        obtain ⟨u, hu, hk⟩ := quietO_W hv hf (hE.gm _ he) hR
        have := hk (fun v => partB (isSrc ops.toList i) v fun v => plW P ops Q p (putF g o.dst v) w) (partB_in hc.2 hu (plE_W p h (hf.put hc.1 hu) hR he hQ))
        revert this
        cases o.op <;> exact fun h => h
      · rename_i hw
        refine wantE_W hf hw (fun e => by cases e) fun _ => ?_
        obtain ⟨hc, h⟩ := Conds.of h
        exact plE_W p h (hf.put hc undA_emb) hR he hQ
  | .eff i hold p, f, g, ρ, H, w, outs, h, hf, hR, he, Q, hQ => by
    unfold plE at h
    unfold plW
    split at h
    · cases h
    · rename_i o ho
      have ho' : ops[i]? = some o := by rw [← ho]; simp
      rw [ho']
      simp only
      split at h
      · cases h
      · rename_i hw
        refine wantE_W hf hw (fun _ => ?_) fun e => by cases e
        obtain ⟨os, hos, h⟩ := Option.bind_eq_some_iff.1 h
        refine opM_W hf (hE.gm _ he) hR (hcl ρ H w hR he) hos fun r hr ρ' w' x a1 a2 a3 => ?_
        obtain ⟨o2, ho2, hm⟩ := flatM_mem h r hr
        obtain ⟨hc, ho2⟩ := Conds.of ho2
        rw [Bool.and_eq_true, Bool.and_eq_true] at hc
        exact heldE_W (hf.mono a1) (hE.gm _ (hE.mono _ _ a1 he)) a2 hc.2.2 (partB_in hc.2.1 a3 (plE_W p ho2 ((hf.mono a1).put hc.1 a3) a2 (hE.mono _ _ a1 he) fun z hz ρ2 g2 w2 b1 b2 b3 => hQ z (hm z hz) ρ2 g2 w2 (a1.trans b1) b2 b3))
      · rename_i hw
        refine wantE_W hf hw (fun e => by cases e) fun _ => ?_
        obtain ⟨hc, h⟩ := Conds.of h
        exact plE_W p h (hf.put hc undA_emb) hR he hQ
  | .fork p q, f, g, ρ, H, w, outs, h, hf, hR, he, Q, hQ => by
    simp only [plE] at h
    obtain ⟨x, hx, h⟩ := Option.bind_eq_some_iff.1 h
    obtain ⟨y, hy, rfl⟩ := Option.map_eq_some_iff.1 h
    exact ⟨plE_W p hx hf hR he fun z hz => hQ z (List.mem_append_left _ hz), plE_W q hy hf hR he fun z hz => hQ z (List.mem_append_right _ hz)⟩
end
end Go.Proofs.YtjbjooomagbfcaaGreatDoor.St

/- A machine that reckons closed calls: ends that differ by names alone are one. It names no program. -/
namespace Go.Proofs.YtjbjooomagbfcaaGreatDoor.St
open Go

abbrev Sg := List (Nat × Nat)
def simN (b : Nat) (s : Sg) (n m : Nat) : Bool := (Nat.blt n b && Nat.beq n m) || s.any fun p => Nat.beq p.1 n && Nat.beq p.2 m
mutual
def simV (b : Nat) (s : Sg) : AV → AV → Bool
  | .b x, .b y => x == y
  | .i k x, .i k' y => sameK k k' && decide (x = y)
  | .s x, .s y => x == y
  | .np, .np => true
  | .p n o, .p m o' => simN b s n m && Nat.beq o o'
  | .ns, .ns => true
  | .sl n o l c, .sl m o' l' c' => simN b s n m && (Nat.beq o o' && (Nat.beq l l' && Nat.beq c c'))
  | .su n o l c, .su m o' l' c' => simN b s n m && (Nat.beq o o' && (Nat.beq l l' && Nat.beq c c'))
  | .nm, .nm => true
  | .m n, .m m => simN b s n m
  | .f g x y, .f g' x' y' => Nat.beq g g' && (simVs b s x x' && simVs b s y y')
  | .y n, .y m => simN b s n m
  | .nf, .nf => true
  | .ni, .ni => true
  | .a x, .a y => simVs b s x y
  | .t x, .t y => simVs b s x y
  | .oi k i, .oi k' j => sameK k k' && Nat.beq i j
  | .ob i, .ob j => Nat.beq i j
  | .os i, .os j => Nat.beq i j
  | _, _ => false
def simVs (b : Nat) (s : Sg) : List AV → List AV → Bool
  | [], [] => true
  | x :: l, y :: r => simV b s x y && simVs b s l r
  | _, _ => false
end
def simE (b : Nat) (s : Sg) : List Ent → List Ent → Bool
  | [], [] => true
  | x :: l, y :: r => simV b s x.1 y.1 && (simV b s x.2.1 y.2.1 && (Nat.beq x.2.2 y.2.2 && simE b s l r))
  | _, _ => false
def simNO (b : Nat) (s : Sg) : Option Nat → Option Nat → Bool
  | none, none => true
  | some n, some m => simN b s n m
  | _, _ => false
def simO (b : Nat) (s : Sg) : AO → AO → Bool
  | .c vs al ro es, .c vs' al' ro' es' => simVs b s vs vs' && (simNO b s al al' && (ro == ro' && Nat.beq es es'))
  | .m es ck, .m es' ck' => simE b s es es' && Nat.beq ck ck'
  | .it m si l k, .it m' si' l' k' => simNO b s m m' && (Nat.beq si si' && (l == l' && Nat.beq k k'))
  | .si x p, .si y p' => x == y && Nat.beq p p'
  | .rf x, .rf y => x == y
  | .dn, .dn => true
  | _, _ => false
/-! ### The search for the names that answer one another (it need not be right) -/
def addN (b : Nat) (n m : Nat) (s : Sg) : Option Sg :=
  bif simN b s n m then some s else bif Nat.blt n b || (Nat.blt m b || s.any fun p => Nat.beq p.1 n || Nat.beq p.2 m) then none else some ((n, m) :: s)
mutual
def matV (b : Nat) : AV → AV → Sg → Option Sg
  | .p n _, .p m _, s => addN b n m s
  | .sl n _ _ _, .sl m _ _ _, s => addN b n m s
  | .su n _ _ _, .su m _ _ _, s => addN b n m s
  | .m n, .m m, s => addN b n m s
  | .y n, .y m, s => addN b n m s
  | .f _ x y, .f _ x' y', s => (matVs b x x' s).bind fun s => matVs b y y' s
  | .a x, .a y, s => matVs b x y s
  | .t x, .t y, s => matVs b x y s
  | _, _, s => some s
def matVs (b : Nat) : List AV → List AV → Sg → Option Sg
  | x :: l, y :: r, s => (matV b x y s).bind fun s => matVs b l r s
  | _, _, s => some s
end
def matE (b : Nat) : List Ent → List Ent → Sg → Option Sg
  | x :: l, y :: r, s => (matV b x.1 y.1 s).bind fun s => (matV b x.2.1 y.2.1 s).bind fun s => matE b l r s
  | _, _, s => some s
def matO (b : Nat) : Option AO → Option AO → Sg → Option Sg
  | some (.c vs al _ _), some (.c vs' al' _ _), s => (matVs b vs vs' s).bind fun s => (match al, al' with | some n, some m => addN b n m s | _, _ => some s)
  | some (.m es _), some (.m es' _), s => matE b es es' s
  | some (.it (some n) _ _ _), some (.it (some m) _ _ _), s => addN b n m s
  | _, _, s => some s
def matW (b : Nat) (H1 H2 : AH) : Nat → Sg → Sg → Option Sg
  | 0, _, _ => none
  | _ + 1, [], s => some s
  | k + 1, (n, m) :: todo, s => (matO b (H1.get n) (H2.get m) s).bind fun s' => matW b H1 H2 k (s'.take (s'.length - s.length) ++ todo) s'
def matR (H1 H2 : AH) (b : Nat) : Nat → Sg → Option Sg
  | 0, s => some s
  | i + 1, s => (matR H1 H2 b i s).bind fun s => matO b (H1.get i) (H2.get i) s
def matA (b : Nat) (o1 o2 : AV × AH) : Option Sg :=
  (matV b o1.1 o2.1 []).bind fun s => (matR o1.2 o2.2 b b s).bind fun s => matW b o1.2 o2.2 100000 s s
/-! ### The check -/
def nodupB : List Nat → Bool
  | [] => true
  | n :: l => !(l.any fun m => Nat.beq n m) && nodupB l
def okSg (b nx : Nat) (s : Sg) : Bool := (s.all fun p => Nat.ble b p.1 && (Nat.ble b p.2 && Nat.blt p.1 nx)) && (nodupB (s.map (·.1)) && nodupB (s.map (·.2)))
def imgN (b : Nat) (s : Sg) (n : Nat) : Option Nat := bif Nat.blt n b then some n else (s.find? fun p => Nat.beq p.1 n).map (·.2)
def okL (b : Nat) (s : Sg) (H2 : AH) (L : List (Nat × AO)) : Bool :=
  L.all fun p => match imgN b s p.1 with
    | some m => (match H2.get m with | some o2 => simO b s p.2 o2 | none => false)
    | none => false
def restL (H : AH) : List Nat → List (Nat × AO)
  | [] => []
  | n :: l => match H.get n with
    | some o => (n, o) :: restL H l
    | none => restL H l
def bldT : List (Nat × AO) → Tr AO
  | [] => .lf
  | p :: l => (bldT l).put (some p.2) dep p.1
def iso1 (b : Nat) (o1 : AV × AH) (L : List (Nat × AO)) (o2 : AV × AH) : Bool :=
  match matA b o1 o2 with
  | some s => okSg b o1.2.nx s && (simV b s o1.1 o2.1 && okL b s o2.2 L)
  | none => false
/-- One end in place of many, if they differ by names alone. -/
def mergeE (b : Nat) (outs : List (AV × AH)) : List (AV × AH) :=
  match outs with
  | o1 :: o2 :: r => (match matA b o1 o1 with
    | some s => (fun L => bif Nat.ble b o1.2.nx && (Nat.ble o1.2.nx tmax && ((L.all fun p => Nat.blt p.1 tmax) && ((o1 :: o2 :: r).all fun o => iso1 b o1 L o))) then [(o1.1, ⟨bldT L, o1.2.nx⟩)] else outs) (restL o1.2 (List.range b ++ s.map (·.1)))
    | none => outs)
  | _ => outs

section
mutual
theorem simV_W {b : Nat} {s : Sg} {ρ1 ρ2 : Rho} (hs : ∀ n m, simN b s n m = true → ρ1.at_ n = ρ2.at_ m) (h1 : ρ1.oi = ρ2.oi) (h2 : ρ1.ob = ρ2.ob) (h3 : ρ1.os = ρ2.os) : ∀ (v u : AV) {x : Value}, simV b s v u = true → emb ρ2 u = some x → emb ρ1 v = some x := by
  intro v u x h e
  unfold simV at h
  split at h
  · simp only [beq_iff_eq] at h; rw [h]; exact e
  · simp only [Bool.and_eq_true, decide_eq_true_eq] at h; rw [sameK_eq h.1, h.2]; exact e
  · simp only [beq_iff_eq] at h; rw [h]; exact e
  · exact e
  · simp only [Bool.and_eq_true, beq_iff] at h; simp only [emb, hs _ _ h.1, h.2]; exact e
  · exact e
  · simp only [Bool.and_eq_true, beq_iff] at h; simp only [emb, hs _ _ h.1, h.2.1, h.2.2.1, h.2.2.2]; exact e
  · simp only [Bool.and_eq_true, beq_iff] at h; simp only [emb, hs _ _ h.1, h.2.1, h.2.2.1, h.2.2.2]; exact e
  · exact e
  · simp only [emb, hs _ _ h]; exact e
  · rename_i g x y g' x' y'
    simp only [Bool.and_eq_true, beq_iff] at h
    simp only [emb, Option.bind_eq_some_iff, Option.map_eq_some_iff] at e ⊢
    obtain ⟨a, ha, c, hc, e⟩ := e
    exact ⟨a, simVs_W hs h1 h2 h3 x x' h.2.1 ha, c, simVs_W hs h1 h2 h3 y y' h.2.2 hc, by rw [h.1]; exact e⟩
  · simp only [emb, hs _ _ h]; exact e
  · exact e
  · exact e
  · rename_i x y
    simp only [emb, Option.map_eq_some_iff] at e ⊢
    obtain ⟨l, hl, e⟩ := e
    exact ⟨l, simVs_W hs h1 h2 h3 x y h hl, e⟩
  · rename_i x y
    simp only [emb, Option.map_eq_some_iff] at e ⊢
    obtain ⟨l, hl, e⟩ := e
    exact ⟨l, simVs_W hs h1 h2 h3 x y h hl, e⟩
  · simp only [Bool.and_eq_true, beq_iff] at h; simp only [emb, h1, sameK_eq h.1, h.2]; exact e
  · simp only [beq_iff] at h; simp only [emb, h2, h]; exact e
  · simp only [beq_iff] at h; simp only [emb, h3, h]; exact e
  · cases h
termination_by v => SizeOf.sizeOf v
theorem simVs_W {b : Nat} {s : Sg} {ρ1 ρ2 : Rho} (hs : ∀ n m, simN b s n m = true → ρ1.at_ n = ρ2.at_ m) (h1 : ρ1.oi = ρ2.oi) (h2 : ρ1.ob = ρ2.ob) (h3 : ρ1.os = ρ2.os) : ∀ (l r : List AV) {xs : List Value}, simVs b s l r = true → embL ρ2 r = some xs → embL ρ1 l = some xs
  | [], [], _, _, e => e
  | x :: l, y :: r, _, h, e => by
    simp only [simVs, Bool.and_eq_true] at h
    obtain ⟨a, c, ha, hc, rfl⟩ := embL_cons.1 e
    exact embL_cons.2 ⟨a, c, simV_W hs h1 h2 h3 x y h.1 ha, simVs_W hs h1 h2 h3 l r h.2 hc, rfl⟩
  | [], _ :: _, _, h, _ => by cases h
  | _ :: _, [], _, h, _ => by cases h
termination_by l => SizeOf.sizeOf l
end
variable {b : Nat} {s : Sg} {ρ1 ρ2 : Rho} (hs : ∀ n m, simN b s n m = true → ρ1.at_ n = ρ2.at_ m) (h1 : ρ1.oi = ρ2.oi) (h2 : ρ1.ob = ρ2.ob) (h3 : ρ1.os = ρ2.os)
include hs h1 h2 h3
theorem simE_W : ∀ (l r : List Ent) {xs : List MapEntry}, simE b s l r = true → EntE ρ2 r xs → EntE ρ1 l xs
  | [], [], [], _, _ => trivial
  | [], [], _ :: _, _, e => e.elim
  | x :: l, y :: r, [], _, e => e.elim
  | x :: l, y :: r, z :: xs, h, e => by
    simp only [simE, Bool.and_eq_true, beq_iff] at h
    exact ⟨⟨simV_W hs h1 h2 h3 _ _ h.1 e.1.1, simV_W hs h1 h2 h3 _ _ h.2.1 e.1.2.1, by rw [h.2.2.1]; exact e.1.2.2⟩, simE_W l r h.2.2.2 e.2⟩
  | [], _ :: _, _, h, _ => by cases h
  | _ :: _, [], _, h, _ => by cases h
theorem simO_W {o1 o2 : AO} {n m : Nat} {q : Pl} {w : World} (h : simO b s o1 o2 = true) (hr : ρ1.rd n = ρ2.rd m ∧ ρ1.bs n = ρ2.bs m) (ho : OkO ρ2 m q w o2) : OkO ρ1 n q w o1 := by
  unfold simO at h
  split at h
  · simp only [Bool.and_eq_true, beq_iff, beq_iff_eq] at h
    obtain ⟨c, e, fz, a1, a2, a3, xs, a4, a5, a6⟩ := ho
    exact ⟨c, e, fz, a1, by rw [h.2.2.1]; exact a2, by rw [h.2.2.2]; exact a3, xs, simVs_W hs h1 h2 h3 _ _ h.1 a4, a5, a6⟩
  · simp only [Bool.and_eq_true, beq_iff] at h
    obtain ⟨xs, a1, a2⟩ := ho
    exact ⟨xs, by rw [h.2]; exact a1, simE_W hs h1 h2 h3 _ _ h.1 a2⟩
  · rename_i m1 _ _ _ m2 _ _ _
    simp only [Bool.and_eq_true, beq_iff, beq_iff_eq] at h
    obtain ⟨r, a1, a2, a3, a4⟩ := ho
    refine ⟨r, fun k hk => ?_, fun hk => ?_, by rw [h.2.1, h.2.2.1, h.2.2.2]; exact a3, a4⟩
    · subst hk
      cases m2 with
      | none => cases h.1
      | some k2 =>
        obtain ⟨q', b1, b2⟩ := a1 k2 rfl
        exact ⟨q', by rw [hs _ _ h.1]; exact b1, b2⟩
    · subst hk
      cases m2 with
      | none => exact a2 rfl
      | some k2 => cases h.1
  · simp only [Bool.and_eq_true, beq_iff, beq_iff_eq] at h
    exact ⟨by rw [h.1, h.2]; exact ho.1, ho.2⟩
  · simp only [beq_iff_eq] at h
    subst h
    simp only [OkO, hr.1, hr.2]; exact ho
  · exact ho
  · cases h
end
section
variable {B w : World} {b : Nat} {s : Sg}
theorem simO_al {o1 o2 : AO} (h : simO b s o1 o2 = true) : simNO b s o1.al o2.al = true ∧ o1.ro = o2.ro ∧ o1.isRf = o2.isRf := by
  unfold simO at h
  split at h
  · simp only [Bool.and_eq_true, beq_iff_eq] at h; exact ⟨h.2.1, h.2.2.1, rfl⟩
  · exact ⟨rfl, rfl, rfl⟩
  · exact ⟨rfl, rfl, rfl⟩
  · exact ⟨rfl, rfl, rfl⟩
  · exact ⟨rfl, rfl, rfl⟩
  · exact ⟨rfl, rfl, rfl⟩
  · cases h
theorem nodupB_W : ∀ {l : List Nat}, nodupB l = true → l.Nodup
  | [], _ => List.nodup_nil
  | n :: l, h => by
    simp only [nodupB, Bool.and_eq_true, Bool.not_eq_true', List.any_eq_false, beq_iff] at h
    exact List.nodup_cons.2 ⟨fun hm => h.1 n hm rfl, nodupB_W h.2⟩
theorem nodup_fst : ∀ {s : Sg}, (s.map (·.1)).Nodup → ∀ {n m m' : Nat}, (n, m) ∈ s → (n, m') ∈ s → m = m'
  | [], _, _, _, _, h, _ => by simp at h
  | (a, c) :: s, hn, n, m, m', h, h' => by
    simp only [List.map_cons, List.nodup_cons] at hn
    rcases List.mem_cons.1 h with h | h
    · rcases List.mem_cons.1 h' with h' | h'
      · cases h; cases h'; rfl
      · cases h; exact absurd (List.mem_map.2 ⟨_, h', rfl⟩) hn.1
    · rcases List.mem_cons.1 h' with h' | h'
      · cases h'; exact absurd (List.mem_map.2 ⟨_, h, rfl⟩) hn.1
      · exact nodup_fst hn.2 h h'
theorem nodup_snd : ∀ {s : Sg}, (s.map (·.2)).Nodup → ∀ {n n' m : Nat}, (n, m) ∈ s → (n', m) ∈ s → n = n'
  | [], _, _, _, _, h, _ => by simp at h
  | (a, c) :: s, hn, n, n', m, h, h' => by
    simp only [List.map_cons, List.nodup_cons] at hn
    rcases List.mem_cons.1 h with h | h
    · rcases List.mem_cons.1 h' with h' | h'
      · cases h; cases h'; rfl
      · cases h; exact absurd (List.mem_map.2 ⟨_, h', rfl⟩) hn.1
    · rcases List.mem_cons.1 h' with h' | h'
      · cases h'; exact absurd (List.mem_map.2 ⟨_, h, rfl⟩) hn.1
      · exact nodup_snd hn.2 h h'
theorem simN_iff {n m : Nat} : simN b s n m = true ↔ (n < b ∧ n = m) ∨ (n, m) ∈ s := by
  simp only [simN, Bool.or_eq_true, Bool.and_eq_true, Nat.blt_eq, beq_iff, List.any_eq_true]
  constructor
  · rintro (h | ⟨p, hp, rfl, rfl⟩)
    · exact .inl h
    · exact .inr hp
  · rintro (h | h)
    · exact .inl h
    · exact .inr ⟨_, h, rfl, rfl⟩
theorem bldT_get : ∀ {L : List (Nat × AO)} {n : Nat} {o : AO}, (L.all fun p => Nat.blt p.1 tmax) = true → (bldT L).get n = some o → (n, o) ∈ L
  | [], _, _, _, h => by cases h
  | p :: L, n, o, hL, h => by
    simp only [List.all_cons, Bool.and_eq_true] at hL
    simp only [bldT] at h
    rw [Tr.get_dep _ _ hL.1] at h
    by_cases hn : n = p.1
    · rw [if_pos hn] at h; cases h; rw [hn]; exact List.mem_cons_self
    · rw [if_neg hn] at h; exact List.mem_cons_of_mem _ (bldT_get hL.2 h)
/-- An end is one of the kept one's. -/
theorem iso1_W {ρ ρ2 : Rho} {nx : Nat} {o1 o2 : AV × AH} {L : List (Nat × AO)} (hfr : ∀ n q, ρ.at_ n = some q → n < b) (hle : ρ.le ρ2) (hR : Rep B ρ2 o2.2 w) {x : Value} (hx : emb ρ2 o2.1 = some x) (hnx : o1.2.nx = nx) (hb : b ≤ nx) (hmx : nx ≤ tmax)
    (hL : (L.all fun p => Nat.blt p.1 tmax) = true) (h : iso1 b o1 L o2 = true) : ∃ ρ1, ρ.le ρ1 ∧ Rep B ρ1 ⟨bldT L, nx⟩ w ∧ emb ρ1 o1.1 = some x := by
  unfold iso1 at h
  split at h
  rotate_left
  · cases h
  rename_i s _
  rw [Bool.and_eq_true, Bool.and_eq_true] at h
  obtain ⟨hs, hv, hl⟩ := h
  simp only [okSg, Bool.and_eq_true, List.all_eq_true, Nat.ble_eq, Nat.blt_eq] at hs
  obtain ⟨hs1, hs2, hs3⟩ := hs
  have n1 := nodupB_W hs2
  have n2 := nodupB_W hs3
  have fnd : ∀ {n m : Nat}, (n, m) ∈ s → (s.find? fun p => Nat.beq p.1 n) = some (n, m) := by
    intro n m hm
    cases hf : (s.find? fun p => Nat.beq p.1 n) with
    | none =>
      have := List.find?_eq_none.1 hf _ hm
      simp at this
    | some p =>
      have hp := List.mem_of_find?_eq_some hf
      have he := List.find?_some hf
      simp only [beq_iff] at he
      obtain ⟨a, c⟩ := p
      simp only at he
      subst he
      rw [nodup_fst n1 hm hp]
  have img : ∀ {n m : Nat}, simN b s n m = true → imgN b s n = some m := fun {n m} h => by
    unfold imgN
    rcases simN_iff.1 h with ⟨h5, rfl⟩ | h
    · rw [show Nat.blt n b = true by rw [Nat.blt_eq]; exact h5]; rfl
    · have : Nat.blt n b = false := by
        cases hc : Nat.blt n b with
        | false => rfl
        | true => rw [Nat.blt_eq] at hc; have := (hs1 _ h).1; simp only at this; omega
      rw [this, fnd h]; rfl
  have gmi : ∀ {n m : Nat}, imgN b s n = some m → simN b s n m = true := fun {n m} h => by
    unfold imgN at h
    rw [simN_iff]
    cases hc : Nat.blt n b with
    | true => rw [hc] at h; cases h; rw [Nat.blt_eq] at hc; exact .inl ⟨hc, rfl⟩
    | false =>
      rw [hc] at h
      obtain ⟨p, hp, rfl⟩ := Option.map_eq_some_iff.1 h
      have he := List.find?_some hp
      simp only [beq_iff] at he
      subst he
      exact .inr (List.mem_of_find?_eq_some hp)
  have inj : ∀ {n n' m : Nat}, simN b s n m = true → simN b s n' m = true → n = n' := fun {n n' m} h h' => by
    rcases simN_iff.1 h with ⟨h1, rfl⟩ | h1 <;> rcases simN_iff.1 h' with ⟨h2, rfl⟩ | h2
    · rfl
    · have := (hs1 _ h2).2.1; simp only at this; omega
    · have := (hs1 _ h1).2.1; simp only at this; omega
    · exact nodup_snd n2 h1 h2
  let ρ1 : Rho := { at_ := fun n => (imgN b s n).bind ρ2.at_, oi := ρ2.oi, ob := ρ2.ob, os := ρ2.os, rd := fun n => ρ2.rd ((imgN b s n).getD 0), bs := fun n => ρ2.bs ((imgN b s n).getD 0) }
  have hat : ∀ n m, simN b s n m = true → ρ1.at_ n = ρ2.at_ m := fun n m h => by simp only [ρ1, img h]; rfl
  have hrd : ∀ n m, simN b s n m = true → ρ1.rd n = ρ2.rd m ∧ ρ1.bs n = ρ2.bs m := fun n m h => by simp only [ρ1, img h]; exact ⟨rfl, rfl⟩
  have hold : ∀ n, n < b → simN b s n n = true := fun n h => simN_iff.2 (.inl ⟨h, rfl⟩)
  refine ⟨ρ1, ⟨fun n q hq => ?_, hle.oi, hle.ob, hle.os⟩, ?_, simV_W hat rfl rfl rfl _ _ hv hx⟩
  · have hn := hold n (hfr n q hq)
    obtain ⟨a, c, d⟩ := hle.at_ n q hq
    exact ⟨(hat _ _ hn).trans a, (hrd _ _ hn).1.trans c, (hrd _ _ hn).2.trans d⟩
  · have ent : ∀ {n : Nat} {o : AO}, (AH.get ⟨bldT L, nx⟩ n) = some o → ∃ m o', simN b s n m = true ∧ o2.2.get m = some o' ∧ simO b s o o' = true := fun {n o} h => by
      have hm := bldT_get hL h
      have := List.all_eq_true.1 hl _ hm
      simp only at this
      split at this
      · rename_i m him
        split at this
        · rename_i o' ho'
          exact ⟨m, o', gmi him, ho', this⟩
        · cases this
      · cases this
    refine ⟨fun n o h => ?_, fun n q h => ?_, hmx, fun n o j h hj => ?_, fun i j o o' q q' hi hj hq hq' hij hal k hk hk' => ?_, fun i o q h hq hro k hk => ?_, hR.md⟩
    · obtain ⟨m, o', a1, a2, a3⟩ := ent h
      obtain ⟨q, b1, b2⟩ := hR.ok m o' a2
      exact ⟨q, (hat _ _ a1).trans b1, simO_W hat rfl rfl rfl a3 (hrd _ _ a1) b2⟩
    · show n < nx
      obtain ⟨m, hm, _⟩ := Option.bind_eq_some_iff.1 h
      rcases simN_iff.1 (gmi hm) with ⟨h1, _⟩ | h1
      · omega
      · have := (hs1 _ h1).2.2; simp only at this; omega
    · show j < nx
      obtain ⟨m, o', a1, a2, a3⟩ := ent h
      have := (simO_al a3).1
      rw [hj] at this
      unfold simNO at this
      split at this
      · rename_i he _; cases he
      · rename_i n1 m1 he _
        cases he
        rcases simN_iff.1 this with ⟨h1, _⟩ | h1
        · omega
        · have := (hs1 _ h1).2.2; simp only at this; omega
      · cases this
    · obtain ⟨m, p, a1, a2, a3⟩ := ent hi
      obtain ⟨m', p', c1, c2, c3⟩ := ent hj
      have hmm : m ≠ m' := fun e => hij (inj a1 (e ▸ c1))
      have hq2 := (hat _ _ a1).symm.trans hq
      have hq2' := (hat _ _ c1).symm.trans hq'
      have hb1 : ∀ {o o' : AO} {q : Pl} {k : Nat}, simO b s o o' = true → Bk o q k → Bk o' q k := fun {o o' q k} h hk => by
        rcases hk with h' | ⟨h', h2⟩
        · exact .inl h'
        · exact .inr ⟨by rw [← (simO_al h).2.2]; exact h', h2⟩
      refine hR.sep m m' p p' q q' a2 c2 hq2 hq2' hmm (fun e => hal ?_) k (hb1 a3 hk) (hb1 c3 hk')
      have := (simO_al a3).1
      rw [e] at this
      unfold simNO at this
      split at this
      · rename_i he; cases he
      · rename_i n1 m1 he1 he2
        cases he2
        rw [he1, inj this c1]
      · cases this
    · obtain ⟨m, p, a1, a2, a3⟩ := ent h
      have hq2 := (hat _ _ a1).symm.trans hq
      refine hR.new m p q a2 hq2 (by rw [← (simO_al a3).2.1]; exact hro) k ?_
      rcases hk with h' | ⟨h', h2⟩
      · exact .inl h'
      · exact .inr ⟨by rw [← (simO_al a3).2.2]; exact h', h2⟩
/-- What holds of the ends that are left holds of all. -/
theorem mergeE_W {ρ : Rho} {outs : List (AV × AH)} {K : Value → World → Prop} (hfr : ∀ n q, ρ.at_ n = some q → n < b) (h : AllK B ρ (mergeE b outs) K) : AllK B ρ outs K := by
  unfold mergeE at h
  split at h
  · rename_i o1 o2 r
    split at h
    · rename_i s _
      generalize restL o1.2 (List.range b ++ s.map (·.1)) = L at h
      simp only at h
      cases hc : (Nat.ble b o1.2.nx && (Nat.ble o1.2.nx tmax && ((L.all fun p => Nat.blt p.1 tmax) && ((o1 :: o2 :: r).all fun o => iso1 b o1 L o)))) with
      | false => rw [hc] at h; exact h
      | true =>
        rw [hc] at h
        simp only [cond_true] at h
        simp only [Bool.and_eq_true, Nat.ble_eq] at hc
        obtain ⟨c1, c2, c3, c4⟩ := hc
        intro o ho ρ2 w2 x a1 a2 a3
        obtain ⟨ρ1, b1, b2, b3⟩ := iso1_W hfr a1 a2 a3 rfl c1 c2 c3 (List.all_eq_true.1 c4 o ho)
        exact h _ (List.mem_singleton.2 rfl) ρ1 w2 x b1 b2 b3
    · exact h
  · exact h
end
end Go.Proofs.YtjbjooomagbfcaaGreatDoor.St

/- A machine that reckons closed calls: codes and calls. It names no program. -/
namespace Go.Proofs.YtjbjooomagbfcaaGreatDoor.St
open Go

inductive AX
  | nm
  | ex (i : Nat)
  | rt
abbrev COuts := Option (List (AX × Tr AV × List Nat × AH))
/-- A loop over a function: its rounds. -/
structure YE where
  n : Nat
  pl : Nat → Plan
  x : Code
  y : Code
  p : List Nat
  f : Tr AV
abbrev EnvL := List (Nat × YE)
structure FC where
  n : Nat
  pl : Nat → Plan
  inR : Bool
abbrev EvT := EnvL → FC → Code → Tr AV → List Nat → AH → COuts
def okRg (n : Nat) (id : Nat) (ops : List Oper) (draw : Bool) (pl : Nat → Plan) : Bool :=
  match draw with
  | false => ops.all fun o => match o.dst with | some d => Nat.blt d n | none => true
  | true => okRegion n ops (pl id)
def mkF : List AV → Nat → Tr AV → Tr AV
  | [], _, f => f
  | v :: l, i, f => mkF l (i + 1) (f.put (some v) dep i)
def putL (f : Tr AV) : List Nat → List AV → Tr AV
  | p :: ps, v :: vs => putL (putA f (some p) v) ps vs
  | _, _ => f
def updL (g : Fr) : List Nat → List Value → Fr
  | p :: ps, v :: vs => updL (upd g p v) ps vs
  | _, _ => g
def isRf (H : AH) (n : Nat) (busy : Bool) : Bool :=
  match H.get n with
  | some (.rf b) => b == busy
  | _ => false
def endE : List Nat → AH → Option AH
  | [], H => some H
  | n :: ds, H => match H.get n with
    | some .dn => endE ds (H.put n none)
    | _ => none
def resE (P : Program) (f : Tr AV) (H : AH) : List ResultVar → Option (List AV)
  | [] => some []
  | .tmp t :: rs => (f.get t).bind fun v => (resE P f H rs).map fun l => v :: l
  | .cell a t :: rs => ((f.get a).bind fun p => loadO P H t p).bind fun v => (resE P f H rs).map fun l => v :: l
def oneA : List AV → AV
  | [v] => v
  | vs => .t vs
def retE (P : Program) (rs : List ResultVar) (o : AX × Tr AV × List Nat × AH) : Outs :=
  match o with
  | (.ex _, _) => none
  | (_, f, ds, H) => (endE ds H).bind fun H => (resE P f H rs).map fun l => [(oneA l, H)]
def lookY (N : Nat) : EnvL → Option YE
  | [] => none
  | (M, y) :: l => bif Nat.beq M N then some y else lookY N l
def callE (P : Program) (pls : Nat → Nat → Plan) (ev : EvT) (env : EnvL) (fv : AV) (args : List AV) (H : AH) : Outs :=
  match fv with
  | .f g x y => (match P.funcs[g]? with
    | none => none
    | some fn => (match fn.body with
      | none => none
      | some c => bif !(fn.name == "runtime.NumGoroutine") && (Nat.ble (x ++ (args ++ y)).length fn.ntmps && Nat.ble fn.ntmps tmax) then
          (ev env ⟨fn.ntmps, pls g, false⟩ c (mkF (x ++ (args ++ y)) 0 .lf) [] H).bind fun outs => (flatM (retE P fn.results.toList) outs).map (mergeE H.nx)
        else none))
  | .y N => (match lookY N env with
    | some ye => bif isRf H N false && Nat.beq args.length ye.p.length then
        (ev env ⟨ye.n, ye.pl, true⟩ ye.x (putL ye.f ye.p args) [] H).bind fun outs => flatM (fun o => match o with
          | (.nm, f, [], H) => bif isRf H N false then
              (ev env ⟨ye.n, ye.pl, true⟩ ye.y f [] (H.put N (some (.rf true)))).bind fun outs => flatM (fun o => match o with
                | (.nm, _, _, H) => bif isRf H N true then some [(.b true, H.put N (some (.rf false)))] else none
                | _ => none) outs
            else none
          | _ => none) outs
      else none
    | _ => none)
  | _ => none
def loopE (body : Tr AV → List Nat → AH → COuts) : Nat → Tr AV → List Nat → AH → COuts
  | 0, _, _, _ => none
  | m + 1, f, ds, H => (body f ds H).bind fun outs => flatM (fun o => match o with
    | (.nm, f, ds, H) => loopE body m f ds H
    | o => some [o]) outs
def outB (id : Nat) (o : AX × Tr AV × List Nat × AH) : AX × Tr AV × List Nat × AH :=
  match o with
  | (.ex i, r) => bif Nat.beq i id then (.nm, r) else (.ex i, r)
  | o => o
def stepE (P : Program) (gm : Nat → Option Nat) (pls : Nat → Nat → Plan) (k : Nat) (ih : EvT) : EvT := fun env fc c f ds H =>
  match c with
  | .skip => some [(.nm, f, ds, H)]
  | .region id ops draw => bif okRg fc.n id ops.toList draw fc.pl then
      Option.map (fun l : List (Tr AV × AH) => l.map fun r => (AX.nm, r.1, ds, r.2)) (match draw with
      | false => wplE P gm (callE P pls ih env) ops.toList ops.toList 0 f H
      | true => plE P gm (callE P pls ih env) ops.toList (fc.pl id) f H)
    else none
  | .seq a b => (ih env fc a f ds H).bind fun outs => flatM (fun o => match o with
    | (.nm, f, ds, H) => ih env fc b f ds H
    | o => some [o]) outs
  | .cond c a b => (match eo gm f c with
    | some (.b t) => bif t then ih env fc a f ds H else ih env fc b f ds H
    | _ => none)
  | .block id c => (ih env fc c f ds H).map fun l => l.map (outB id)
  | .loop c => loopE (ih env fc c) k f ds H
  | .rangeFunc g ps x y => (match fc.inR, eo gm f g with
    | false, some (.f gf u v) => bif (ps.toList.all fun p => Nat.blt p fc.n && Nat.blt p tmax) && Nat.blt H.nx tmax then
        (callE P pls ih ((H.nx, ⟨fc.n, fc.pl, x, y, ps.toList, f⟩) :: env) (.f gf u v) [.y H.nx] (H.add (.rf false))).bind fun outs => flatM (fun r => bif isRf r.2 H.nx false then some [(.nm, f, H.nx :: ds, r.2.put H.nx (some .dn))] else none) outs
      else none
    | _, _ => none)
  | .exit id => some [(.ex id, f, ds, H)]
  | .ret => some [(.rt, f, ds, H)]
  | .scope c => ih env fc c f ds H
  | .label _ => some [(.nm, f, ds, H)]
  | _ => none
def evC (P : Program) (gm : Nat → Option Nat) (pls : Nat → Nat → Plan) : Nat → EvT
  | 0 => fun _ _ _ _ _ _ => none
  | k + 1 => stepE P gm pls k (evC P gm pls k)

/-! ### What it says is so -/
def DsR (ρ : Rho) : List Nat → List Deferred → Prop
  | [], [] => True
  | n :: ds, d :: r => (∃ q, ρ.at_ n = some q ∧ 0 < q.b ∧ d.target = .collected (q.b - 1)) ∧ DsR ρ ds r
  | _, _ => False
theorem DsR.mono {ρ ρ' : Rho} (h : ρ.le ρ') : ∀ {ds : List Nat} {r : List Deferred}, DsR ρ ds r → DsR ρ' ds r
  | [], [], _ => trivial
  | _ :: _, _ :: _, ⟨⟨q, a, b⟩, r⟩ => ⟨⟨q, (h.at_ _ _ a).1, b⟩, r.mono h⟩
  | [], _ :: _, h => h.elim
  | _ :: _, [], h => h.elim
/-- A round of a loop over a function may be asked for. -/
def YOK (P : Program) (ρ : Rho) (N : Nat) (ye : YE) : Prop :=
  ∃ q g, ρ.at_ N = some q ∧ FrR ρ ye.f g ∧ (ye.p.all fun p => Nat.blt p tmax) = true ∧ ∀ (xs : List Value) (w2 : World) (K : World → Prop), xs.length = ye.p.length → ρ.rd N w2 →
    SW (some q.b) P ye.n ye.x (fun e f1 ds1 wa => (e = .normal ∧ ρ.rd N wa ∧ ∀ wb, ρ.bs N wb → Mod (fun k => k = q.b) wa wb → wb.heap.size = wa.heap.size →
      SW (some q.b) P ye.n ye.y (fun e _ _ wc => e = .normal ∧ ρ.bs N wc ∧ ∀ w3, ρ.rd N w3 → Mod (fun k => k = q.b) wc w3 → w3.heap.size = wc.heap.size → K w3) f1 [] wb) ∧ ds1 = []) (updL g ye.p xs) [] w2 →
    CaV P (.func (.yield q.b) #[] #[]) ⟨xs⟩ w2 (fun v w3 => v = .bool true ∧ K w3)
theorem YOK.mono {P : Program} {ρ ρ' : Rho} (h : ρ.le ρ') {N : Nat} {ye : YE} (hy : YOK P ρ N ye) : YOK P ρ' N ye := by
  obtain ⟨q, g, h1, h2, h3, h4⟩ := hy
  obtain ⟨a, b, c⟩ := h.at_ _ _ h1
  refine ⟨q, g, a, h2.mono h, h3, ?_⟩
  rw [b, c]; exact h4
def EnvOK (P : Program) (gm : Nat → Option Nat) (env : EnvL) (ρ : Rho) : Prop := GmR ρ gm ∧ ∀ N ye, lookY N env = some ye → YOK P ρ N ye
theorem env0 (P : Program) (gm : Nat → Option Nat) (env : EnvL) : Env0 gm (EnvOK P gm env) :=
  ⟨fun _ _ h he => ⟨he.1.mono h, fun N ye hy => (he.2 N ye hy).mono h⟩, fun _ h => h.1⟩
def AX.to : AX → Exit
  | .nm => .normal
  | .ex i => .exit i
  | .rt => .ret
def AllC (B : World) (ρ : Rho) (outs : List (AX × Tr AV × List Nat × AH)) (Q : Post) : Prop :=
  ∀ o ∈ outs, ∀ ρ' g' ds' w', ρ.le ρ' → Rep B ρ' o.2.2.2 w' → FrR ρ' o.2.1 g' → DsR ρ' o.2.2.1 ds' → Q o.1.to g' ds' w'
/-- An evaluation that is right. -/
def EvOK (P : Program) (gm : Nat → Option Nat) (B : World) (ev : EvT) : Prop :=
  ∀ env fc c f ds H outs, ev env fc c f ds H = some outs → ∀ ρ g dsc w, Rep B ρ H w → FrR ρ f g → DsR ρ ds dsc → EnvOK P gm env ρ → ∀ r, (fc.inR = false → r = none) → ∀ Q, AllC B ρ outs Q → SW r P fc.n c Q g dsc w
section
variable {P : Program} {B : World} {gm : Nat → Option Nat} {pls : Nat → Nat → Plan}
theorem putL_W {ρ : Rho} : ∀ (ps : List Nat) {vs : List AV} {xs : List Value} {f : Tr AV} {g : Fr}, (ps.all fun p => Nat.blt p tmax) = true → embL ρ vs = some xs → FrR ρ f g → FrR ρ (putL f ps vs) (updL g ps xs)
  | [], vs, xs, _, _, _, _, hf => by cases vs <;> cases xs <;> exact hf
  | p :: ps, [], xs, f, g, _, he, hf => by rw [embL_nil.1 he]; exact hf
  | p :: ps, v :: vs, _, f, g, hp, he, hf => by
    obtain ⟨x, r, hx, hr, rfl⟩ := embL_cons.1 he
    simp only [List.all_cons, Bool.and_eq_true] at hp
    exact putL_W ps hp.2 hr (hf.put (d := some p) hp.1 hx)
theorem mkF_W {ρ : Rho} : ∀ {l : List AV} {xs : List Value} (i : Nat) {f : Tr AV} {g : Fr}, embL ρ l = some xs → Nat.ble (i + l.length) tmax = true → FrR ρ f g → (∀ t, i ≤ t → t < i + l.length → g t = (xs[t - i]?).getD undef) → FrR ρ (mkF l i f) g
  | [], _, _, _, _, _, _, hf, _ => hf
  | v :: l, _, i, f, g, he, hl, hf, hg => by
    obtain ⟨x, r, hx, hr, rfl⟩ := embL_cons.1 he
    rw [Nat.ble_eq, List.length_cons] at hl
    have hi : Nat.blt i tmax = true := by rw [Nat.blt_eq]; omega
    refine mkF_W (i + 1) hr (by rw [Nat.ble_eq]; omega) ?_ fun t h1 h2 => ?_
    · intro t u e
      rw [Tr.get_dep _ _ hi] at e
      by_cases ht : t = i
      · rw [if_pos ht] at e; cases e
        have := hg t (by omega) (by rw [List.length_cons]; omega)
        rw [this, ht, Nat.sub_self]; exact hx
      · rw [if_neg ht] at e; exact hf t u e
    · have := hg t (by omega) (by rw [List.length_cons]; omega)
      rw [this, show t - i = (t - (i + 1)) + 1 by omega]; rfl
theorem endE_W : ∀ (ds : List Nat) {H H' : AH} {ρ : Rho} {w : World} {dsc : List Deferred} {K : World → Prop}, endE ds H = some H' → Rep B ρ H w → DsR ρ ds dsc → (∀ w', Rep B ρ H' w' → K w') → endD dsc w K
  | [], H, H', ρ, w, [], K, h, hR, _, hk => by cases h; exact hk w hR
  | [], _, _, _, _, _ :: _, _, _, _, hd, _ => hd.elim
  | _ :: _, _, _, _, _, [], _, _, _, hd, _ => hd.elim
  | n :: ds, H, H', ρ, w, d :: dsc, K, h, hR, hd, hk => by
    obtain ⟨⟨q, hq, hb, ht⟩, hd⟩ := hd
    unfold endE at h
    split at h
    · rename_i hg
      obtain ⟨q', hq', ho⟩ := hR.ok _ _ hg
      obtain rfl := Option.some.inj (hq.symm.trans hq')
      unfold endD
      rw [ht]
      refine ⟨ho.1, fun w' e => ?_⟩
      subst e
      refine endE_W ds h (hR.drop hg hq rfl rfl ((Mod.putObj w (q.b - 1) _).mono fun k _ hk => .inr ⟨rfl, ?_⟩)) hd hk
      rw [show k = q.b - 1 from hk]; omega
    · cases h
theorem resE_W {ρ : Rho} {H : AH} {w : World} {f : Tr AV} {g : Fr} (hf : FrR ρ f g) (hR : Rep B ρ H w) : ∀ {rs : List ResultVar} {l : List AV} {acc : List Value} {K : List Value → Prop}, resE P f H rs = some l → (∀ xs, embL ρ l = some xs → K (acc.reverse ++ xs)) → resVs P rs g w acc K
  | [], _, acc, K, h, hk => by cases h; have := hk [] rfl; rw [List.append_nil] at this; exact this
  | .tmp t :: rs, _, acc, K, h, hk => by
    simp only [resE, Option.bind_eq_some_iff, Option.map_eq_some_iff] at h
    obtain ⟨v, hv, l, hl, rfl⟩ := h
    refine resE_W hf hR (acc := g t :: acc) hl fun xs hxs => ?_
    have := hk (g t :: xs) (embL_cons.2 ⟨_, _, hf t v hv, hxs, rfl⟩)
    simpa using this
  | .cell a t :: rs, _, acc, K, h, hk => by
    simp only [resE, Option.bind_eq_some_iff, Option.map_eq_some_iff] at h
    obtain ⟨v, ⟨p, hp, hv⟩, l, hl, rfl⟩ := h
    obtain ⟨u, hu, hld⟩ := loadO_W hR hv (hf a p hp)
    refine hld _ (resE_W hf hR (acc := u :: acc) hl fun xs hxs => ?_)
    have := hk (u :: xs) (embL_cons.2 ⟨_, _, hu, hxs, rfl⟩)
    simpa using this
theorem oneA_W {ρ : Rho} {l : List AV} {xs : List Value} (h : embL ρ l = some xs) : emb ρ (oneA l) = some (one xs) := by
  cases l with
  | nil => rw [embL_nil.1 h]; rfl
  | cons v l =>
    obtain ⟨x, r, hx, hr, rfl⟩ := embL_cons.1 h
    cases l with
    | nil => rw [embL_nil.1 hr]; exact hx
    | cons u l =>
      obtain ⟨y, r2, hy, hr2, rfl⟩ := embL_cons.1 hr
      show (embL ρ (v :: u :: l)).map _ = _
      rw [h]; rfl
theorem isRf_W {H : AH} {n : Nat} {b : Bool} (h : isRf H n b = true) : H.get n = some (.rf b) := by
  unfold isRf at h
  split at h
  · rename_i hg; rw [beq_iff_eq] at h; rw [hg, h]
  · cases h
end
end Go.Proofs.YtjbjooomagbfcaaGreatDoor.St

/- A machine that reckons closed calls: what it says of codes and calls is so. It names no program. -/
namespace Go.Proofs.YtjbjooomagbfcaaGreatDoor.St
open Go
section
variable {P : Program} {n : Nat}
/-- The record of a range over a function, with any number of slots. -/
def rfRec2 (fn : FuncId) (tmps : Array Value) (ps : Array Tmp) (x y : Code) (D : Nat) (st : LoopState) : Loop :=
  { state := st, pending := none, fn, tmps, params := ps, assign := x, body := y, defers := D }
def rfV (P : Program) (fv : Value) (np : Nat) (w : World) (B : List Value → World → ((World → Prop) → World → Prop) → (World → Prop) → Prop) (Q : World → Prop) : Prop :=
  (∃ g first cap, fv = .func (.func g) first cap) ∧
  ∀ (Rdy Bsy : World → Prop),
    (∀ w1 w2, Rdy w1 → w2.heap[w.heap.size]? = w1.heap[w.heap.size]? → w2.heap[w.heap.size + 1]? = w1.heap[w.heap.size + 1]? → Rdy w2) →
    (∀ w1 w2, Bsy w1 → w2.heap[w.heap.size]? = w1.heap[w.heap.size]? → w2.heap[w.heap.size + 1]? = w1.heap[w.heap.size + 1]? → Bsy w2) →
    ∀ w1, Mod (fun _ => False) w w1 → w1.heap.size = w.heap.size + 2 → Rdy w1 →
    (∀ (xs : List Value) (w2 : World) (K : World → Prop), xs.length = np → Rdy w2 →
      B xs w2 (fun body wa => Rdy wa ∧ ∀ wb, Bsy wb → Mod (fun k => k = w.heap.size + 1) wa wb → wb.heap.size = wa.heap.size → body wb)
        (fun wc => Bsy wc ∧ ∀ w3, Rdy w3 → Mod (fun k => k = w.heap.size + 1) wc w3 → w3.heap.size = wc.heap.size → K w3) →
      CaV P (.func (.yield (w.heap.size + 1)) #[] #[]) ⟨xs⟩ w2 (fun v w3 => v = .bool true ∧ K w3)) →
    CaV P fv #[.func (.yield (w.heap.size + 1)) #[] #[]] w1 fun _ w2 => Rdy w2 ∧
      ∀ w3, Mod (fun k => k = w.heap.size ∨ k = w.heap.size + 1) w2 w3 → w3.heap.size = w2.heap.size → w3.heap[w.heap.size]? = some (.deferred (some [])) → Q w3
theorem Rl.updL : ∀ (ps : List Nat) {xs : List Value} {tm : Array Value} {ds : List Deferred} {f : Fr}, (ps.all fun p => Nat.blt p n) = true → Rl n { tmps := tm, defers := ds } f ds →
    Rl n { tmps := (ps.zip xs).foldl (fun tmps (t, a) => tmps.setIfInBounds t a) tm, defers := ds } (updL f ps xs) ds
  | [], xs, tm, ds, f, _, h => by cases xs <;> exact h
  | p :: ps, [], tm, ds, f, _, h => h
  | p :: ps, x :: xs, tm, ds, f, hp, h => by
    simp only [List.all_cons, Bool.and_eq_true, Nat.blt_eq] at hp
    exact Rl.updL ps hp.2 (Rl.upd (a := { tmps := tm, defers := ds }) h x hp.1)
theorem rf_sound2 {g : Operand} {ps : Array Tmp} {x y : Code} {K : World → Prop} {Q : Post} {f : Fr} {ds : List Deferred} {w : World} {BX : Post → Fr → List Deferred → World → Prop} {BY : Post → Fr → List Deferred → World → Prop}
    (hpn : (ps.toList.all fun p => Nat.blt p n) = true)
    (hx : ∀ (Q : Post) (f : Fr) (w' : World), BX Q f [] w' → SW (some (w.heap.size + 1)) P n x (fun e f' ds' w' => Q e f' ds' w' ∧ ds' = []) f [] w')
    (hy : ∀ (Q : Post) (f : Fr) (w' : World), BY Q f [] w' → SW (some (w.heap.size + 1)) P n y Q f [] w')
    (h : rfV P (ev f g) ps.size w (fun xs w1 bg en => BX (onlyP fun f1 wa => bg (BY (onlyP fun _ wc => en wc) f1 []) wa) (St.updL f ps.toList xs) [] w1) K)
    (hQ : ∀ w3, K w3 → Q .normal f ({ target := .collected w.heap.size, args := #[] } :: ds) w3) :
    SW none P n (.rangeFunc g ps x y) Q f ds w := by
  intro a hR
  obtain ⟨⟨gf, first, cap, hfv⟩, h⟩ := h
  refine wpIn_rangeFunc ?_
  intro fn hfn
  let w1 : World := (w.alloc (.deferred (some []))).alloc (.loop (rfRec2 fn a.tmps ps x y w.heap.size .ready))
  have hD1 : w1.heap[w.heap.size]? = some (.deferred (some [])) := (heap_alloc_old (w.alloc (.deferred (some []))) _ (by rw [World.size_alloc]; omega)).trans (heap_alloc_new w _)
  have hL1 : w1.heap[w.heap.size + 1]? = some (.loop (rfRec2 fn a.tmps ps x y w.heap.size .ready)) := by
    have := heap_alloc_new (w.alloc (.deferred (some []))) (.loop (rfRec2 fn a.tmps ps x y w.heap.size .ready))
    rwa [World.size_alloc] at this
  have hs1 : w1.heap.size = w.heap.size + 2 := by
    show ((w.alloc (.deferred (some []))).alloc (.loop (rfRec2 fn a.tmps ps x y w.heap.size .ready))).heap.size = _
    rw [World.size_alloc, World.size_alloc]
  have hm1 : Mod (fun _ => False) w w1 := ⟨rfl, rfl, rfl, by omega, fun k hk _ =>
    (heap_alloc_old (w.alloc (.deferred (some []))) _ (by rw [World.size_alloc]; omega)).trans (heap_alloc_old w _ hk)⟩
  have put_l : ∀ (w' : World) (o o' : Obj), w'.heap[w.heap.size + 1]? = some o → w'.heap[w.heap.size]? = some (.deferred (some [])) →
      (w'.putObj (w.heap.size + 1) o').heap[w.heap.size + 1]? = some o' ∧ (w'.putObj (w.heap.size + 1) o').heap[w.heap.size]? = some (.deferred (some [])) ∧
      Mod (fun k => k = w.heap.size + 1) w' (w'.putObj (w.heap.size + 1) o') ∧ (w'.putObj (w.heap.size + 1) o').heap.size = w'.heap.size := by
    intro w' o o' h1 h2
    have hlt : w.heap.size + 1 < w'.heap.size := (Array.getElem?_eq_some_iff.1 h1).1
    refine ⟨?_, ?_, ⟨rfl, rfl, rfl, by simp [World.putObj], fun k _ hk => ?_⟩, by simp [World.putObj]⟩
    · simp only [World.putObj]; rw [Array.getElem?_setIfInBounds_self_of_lt hlt]
    · simp only [World.putObj]; rw [Array.getElem?_setIfInBounds_ne (by omega)]; exact h2
    · simp only [World.putObj]; rw [Array.getElem?_setIfInBounds_ne (fun e => hk e.symm)]
  have hca := h (fun w' => w'.heap[w.heap.size + 1]? = some (.loop (rfRec2 fn a.tmps ps x y w.heap.size .ready)) ∧ w'.heap[w.heap.size]? = some (.deferred (some [])))
    (fun w' => w'.heap[w.heap.size + 1]? = some (.loop (rfRec2 fn a.tmps ps x y w.heap.size .busy)) ∧ w'.heap[w.heap.size]? = some (.deferred (some [])))
    (fun w1 w2 h h1 h2 => ⟨by rw [h2]; exact h.1, by rw [h1]; exact h.2⟩) (fun w1 w2 h h1 h2 => ⟨by rw [h2]; exact h.1, by rw [h1]; exact h.2⟩)
    w1 hm1 hs1 ⟨hL1, hD1⟩
    (fun xs w2 K' hxl hr hB => ?_)
  · rw [hfv] at hca
    have hca : Ca P gf ⟨first.toList ++ ([.func (.yield (w.heap.size + 1)) #[] #[]] ++ cap.toList)⟩ w1 _ := hca
    refine ⟨w.heap.size + 1, [{ target := .collected w.heap.size, args := #[] }], w1, { target := .fn (.func gf) cap, args := first ++ #[.func (.yield (w.heap.size + 1)) #[] #[]] }, w1, gf,
      first ++ #[.func (.yield (w.heap.size + 1)) #[] #[]] ++ cap, w1, ?_, ?_, fun _ _ => trivial, ?_, (fun h => by cases h), ?_⟩
    · exact run_enterLoop_outer fn a.tmps ps x y
    · rw [hR.eval]
      exact resolve_val (c := rangeCall g (w.heap.size + 1)) (ty := 0) rfl hfv (by simp [ev])
    · have := hca.1 w1
      have e : first ++ #[.func (.yield (w.heap.size + 1)) #[] #[]] ++ cap = ⟨first.toList ++ ([.func (.yield (w.heap.size + 1)) #[] #[]] ++ cap.toList)⟩ := by apply Array.toList_inj.1; simp
      rw [invoke_func, e]
      exact this
    · have e : first ++ #[.func (.yield (w.heap.size + 1)) #[] #[]] ++ cap = ⟨first.toList ++ ([.func (.yield (w.heap.size + 1)) #[] #[]] ++ cap.toList)⟩ := by apply Array.toList_inj.1; simp
      rw [e]
      refine (callsIn_wide.2 (hca.2.mono fun e w2 ⟨v, he, hr, hk⟩ => ?_) : CallsIn Fence.wide 0 P gf _ w1 _)
      subst he
      obtain ⟨h1, h2, h3, h4⟩ := put_l w2 _ (.loop { rfRec2 fn a.tmps ps x y w.heap.size .ready with state := .exhausted }) hr.1 hr.2
      refine ⟨none, _, run_endLoop (P := P) hr.1 (by simp [rfRec2]), ?_⟩
      exact ⟨f, _, ⟨hR.size, by simp [hR.defs], hR.get⟩, hQ _ (hk _ ⟨h3.os, h3.tape, h3.output, h3.size, fun k hk hn => h3.keep k hk fun e => hn (.inr e)⟩ h4 h2)⟩
  · -- a round
    show Yi P (w.heap.size + 1) ⟨[] ++ xs⟩ w2 _
    have hyl := run_yield (P := P) (args := ⟨xs⟩) hr.1 (by simpa [rfRec2] using hxl)
    have hfold : (ps.zip (⟨xs⟩ : Array Value)).foldl (fun tmps (t, a) => tmps.setIfInBounds t a) a.tmps = (ps.toList.zip xs).foldl (fun tmps (t, a) => tmps.setIfInBounds t a) a.tmps := by
      rw [← Array.foldl_toList, Array.toList_zip]
    refine ⟨fn, (ps.toList.zip xs).foldl (fun tmps (t, a) => tmps.setIfInBounds t a) a.tmps, x, y, by rw [← hfold]; simpa [rfRec2] using hyl, ?_⟩
    refine roundIn_of_wpIn (F := wide none) trivial ?_
    have hR0 := Rl.updL (n := n) ps.toList (xs := xs) (tm := a.tmps) (ds := []) (f := f) hpn ⟨hR.size, rfl, hR.get⟩
    refine wpIn_mono (hx _ _ _ hB _ hR0) fun e a' wa ⟨f1, ds1, hR1, hq, hs⟩ => ?_
    cases e with
    | normal =>
      have hd : ds1 = [] := hs
      subst hd
      obtain ⟨hra, hbody⟩ := hq
      obtain ⟨h1, h2, h3, h4⟩ := put_l wa _ (.loop { rfRec2 fn a.tmps ps x y w.heap.size .ready with state := .busy }) hra.1 hra.2
      refine ⟨_, run_beginRound (P := P) hra.1 rfl, ?_⟩
      have hb := hbody _ ⟨h1, h2⟩ h3 h4
      refine wpIn_mono (hy _ _ _ hb a' hR1) fun e a'' wc ⟨f2, ds2, hR2, hq2⟩ => ?_
      cases e with
      | normal =>
        obtain ⟨hbc, hk⟩ := hq2
        obtain ⟨h1, h2, h3, h4⟩ := put_l wc _ (.loop { rfRec2 fn a.tmps ps x y w.heap.size .busy with state := .ready, pending := none }) hbc.1 hbc.2
        refine ⟨_, _, run_endRound (P := P) none hbc.1, _, rfl, rfl, hk _ ⟨h1, h2⟩ h3 h4⟩
      | _ => exact hq2.elim
    | _ => exact hq.elim

end
section
variable {P : Program} {B : World} {gm : Nat → Option Nat} {pls : Nat → Nat → Plan}
theorem SW.mono {r : Option Nat} {n : Nat} {c : Code} {Q Q' : Post} {f : Fr} {ds : List Deferred} {w : World} (h : SW r P n c Q f ds w) (hq : ∀ e f ds w, Q e f ds w → Q' e f ds w) : SW r P n c Q' f ds w :=
  fun a hR => wpIn_mono (h a hR) fun _ _ _ ⟨f', ds', hR', hq'⟩ => ⟨f', ds', hR', hq _ _ _ _ hq'⟩
theorem lookY_cons {N M : Nat} {y ye : YE} {env : EnvL} (h : lookY N ((M, y) :: env) = some ye) : (M = N ∧ ye = y) ∨ lookY N env = some ye := by
  unfold lookY at h
  cases hb : Nat.beq M N with
  | true => rw [hb] at h; cases h; exact .inl ⟨(beq_iff _ _).1 hb, rfl⟩
  | false => rw [hb] at h; exact .inr h
/-- The record of a loop changes. -/
theorem Rep.turn {ρ : Rho} {H : AH} {w w' : World} (h : Rep B ρ H w) {N : Nat} {b b' : Bool} {q : Pl} (hg : H.get N = some (.rf b)) (hq : ρ.at_ N = some q) (hm : Mod (fun k => k = q.b) w w') (hb : cond b' (ρ.bs N w') (ρ.rd N w')) : Rep B ρ (H.put N (some (.rf b'))) w' := by
  obtain ⟨q', hq', ho⟩ := h.ok _ _ hg
  obtain rfl := Option.some.inj (hq.symm.trans hq')
  exact h.put hg hq rfl (hm.mono fun k _ hk => .inl hk) ⟨hb, ho.2.1, Nat.lt_of_lt_of_le ho.2.2.1 hm.size, ho.2.2.2.1, ho.2.2.2.2⟩ rfl fun k hk => hk
theorem callE_W {ev : EvT} (hev : EvOK P gm B ev) (env : EnvL) : ClOK P B (EnvOK P gm env) (callE P pls ev env) := by
  intro ρ H w hR hE fv ags outs fv' ags' h hfv has K hK
  unfold callE at h
  split at h
  · rename_i g x y
    simp only [emb, Option.bind_eq_some_iff, Option.map_eq_some_iff] at hfv
    obtain ⟨xs, hx, ys, hy, rfl⟩ := hfv
    split at h
    · cases h
    · rename_i fn hfn
      split at h
      · cases h
      · rename_i c hc
        obtain ⟨hok, h⟩ := Conds.of h
        simp only [Bool.and_eq_true, Bool.not_eq_true'] at hok
        obtain ⟨hn, hl, hl2⟩ := hok
        obtain ⟨os, hos, h⟩ := Option.bind_eq_some_iff.1 h
        obtain ⟨outs0, h0, hout⟩ := Option.map_eq_some_iff.1 h
        subst hout
        replace hK := mergeE_W hR.fr hK
        have hargs := embL_app hx (embL_app has hy)
        show Ca P g ⟨xs ++ (ags' ++ ys)⟩ w K
        rw [Nat.ble_eq] at hl hl2
        have hlen := embL_len hargs
        refine ⟨fun w => callFunc_run hfn hc hn _ w, ?_⟩
        refine callsIn_wide.1 (callsIn_of_wp_marks (F := Fence.wide) (n := 0) hfn hc trivial ?_ rfl)
        have hRl : Rl fn.ntmps { tmps := (⟨xs ++ (ags' ++ ys)⟩ : Array Value) ++ Array.replicate (fn.ntmps - (xs ++ (ags' ++ ys)).length) undef, defers := [] } (fr0 (xs ++ (ags' ++ ys))) [] := by
          generalize hargs' : xs ++ (ags' ++ ys) = args at hlen
          refine ⟨by simp; omega, rfl, fun t => ?_⟩
          simp only [fr0, Array.getD_eq_getD_getElem?]
          by_cases ht : t < args.length
          · rw [Array.getElem?_append_left (by simpa using ht)]; simp [ht]
          · rw [Array.getElem?_append_right (by simpa using ht)]
            simp only [List.size_toArray]
            rw [List.getElem?_eq_none (by omega)]
            by_cases h2 : t - args.length < fn.ntmps - args.length
            · simp [h2]
            · rw [Array.getElem?_eq_none (by simp; omega)]
        have hfr : FrR ρ (mkF (x ++ (ags ++ y)) 0 .lf) (fr0 (xs ++ (ags' ++ ys))) :=
          mkF_W 0 hargs (by rw [Nat.ble_eq]; omega) (fun t v e => by cases e) fun t _ _ => rfl
        have hsw := hev env ⟨fn.ntmps, pls g, false⟩ c _ _ _ os hos ρ _ [] w hR hfr trivial hE none (fun _ => rfl) (endP P fn.results.toList K) fun o ho ρ' g' ds' w' a1 a2 a3 a4 => by
          obtain ⟨e, f, ds, H'⟩ := o
          obtain ⟨o2, ho2, hmem⟩ := flatM_mem h0 _ ho
          have fin : ∀ r, ((endE ds H').bind fun H => (resE P f H fn.results.toList).map fun l => [(oneA l, H)]) = some r → (∀ z ∈ r, z ∈ outs0) → endD ds' w' fun w'' => resVs P fn.results.toList g' w'' [] fun vs => K (one vs) w'' := fun r hr hmem => by
            obtain ⟨H2, hH2, hr⟩ := Option.bind_eq_some_iff.1 hr
            obtain ⟨l, hl, rfl⟩ := Option.map_eq_some_iff.1 hr
            refine endE_W ds hH2 a2 a4 fun w'' hR'' => resE_W a3 hR'' hl fun vs hvs => ?_
            exact hK _ (hmem _ (List.mem_singleton.2 rfl)) ρ' w'' _ a1 hR'' (oneA_W (by simpa using hvs))
          cases e with
          | nm => exact fin o2 ho2 hmem
          | rt => exact fin o2 ho2 hmem
          | ex i => cases ho2
        have hsw := hsw _ hRl
        refine wpIn_mono hsw fun e a' w' ⟨f', ds', hR', he⟩ => ?_
        cases e with
        | normal =>
          show LeavesInM _ _ _ _ _ _ _ _ _
          rw [hR'.defs]
          refine endD_leaves ds' w' _ he fun w'' h => ?_
          obtain ⟨v, hk, hr⟩ := results_run (P := P) (fn := fn) (K := fun v => K v w'') hR'.get h
          exact ⟨v, hr, v, rfl, hk⟩
        | ret =>
          show LeavesInM _ _ _ _ _ _ _ _ _
          rw [hR'.defs]
          refine endD_leaves ds' w' _ he fun w'' h => ?_
          obtain ⟨v, hk, hr⟩ := results_run (P := P) (fn := fn) (K := fun v => K v w'') hR'.get h
          exact ⟨v, hr, v, rfl, hk⟩
        | exit id => exact he.elim
        | goto id => exact he.elim
        | panic id => exact he.elim
        | outgrown => exact he.elim
  · rename_i N
    split at h
    · rename_i ye hye
      obtain ⟨hr1, h⟩ := Conds.of h
      rw [Bool.and_eq_true, beq_iff] at hr1
      obtain ⟨hr1, hlen⟩ := hr1
      obtain ⟨os, hos, h⟩ := Option.bind_eq_some_iff.1 h
      obtain ⟨q, g, hq, hf, hp, hy⟩ := hE.2 N ye hye
      simp only [emb, hq, Option.map_some, Option.some.injEq] at hfv
      subst hfv
      have hg1 := isRf_W hr1
      obtain ⟨q0, hq0, ho0⟩ := hR.ok _ _ hg1
      obtain rfl := Option.some.inj (hq.symm.trans hq0)
      refine CaV.mono (hy ags' w (fun w3 => K (.bool true) w3) ((embL_len has).trans hlen) ho0.1 ?_) fun v w' ⟨e, hk⟩ => by subst e; exact hk
      refine hev env ⟨ye.n, ye.pl, true⟩ ye.x _ _ _ os hos ρ (updL g ye.p ags') [] w hR (putL_W ye.p hp has hf) trivial hE _ (fun e => by cases e) _ fun o ho ρ' g' ds' w' a1 a2 a3 a4 => ?_
      obtain ⟨o2, ho2, hmem⟩ := flatM_mem h _ ho
      split at ho2
      · rename_i f1 H1
        obtain ⟨hr2, ho2⟩ := Conds.of ho2
        obtain ⟨os2, hos2, ho2⟩ := Option.bind_eq_some_iff.1 ho2
        have hg2 := isRf_W hr2
        obtain ⟨b1, b2, b3⟩ := a1.at_ _ _ hq
        have hds : ds' = [] := by cases ds' with | nil => rfl | cons _ _ => exact a4.elim
        obtain ⟨q2, hq2, ho2'⟩ := a2.ok _ _ hg2
        obtain rfl := Option.some.inj (b1.symm.trans hq2)
        refine ⟨⟨rfl, by rw [← b2]; exact ho2'.1, fun wb hbs hmb _ => ?_⟩, hds⟩
        have hRb := a2.turn (b' := true) hg2 b1 hmb (by rw [b3]; exact hbs)
        refine hev env ⟨ye.n, ye.pl, true⟩ ye.y _ _ _ os2 hos2 ρ' g' [] wb hRb a3 trivial ((env0 P gm env).mono _ _ a1 hE) _ (fun e => by cases e) _ fun o3 ho3 ρ3 g3 ds3 w3 c1 c2 c3 c4 => ?_
        obtain ⟨o4, ho4, hmem4⟩ := flatM_mem ho2 _ ho3
        split at ho4
        · rename_i f3 ds3' H3
          obtain ⟨hr3, ho4⟩ := Conds.of ho4
          cases ho4
          have hg3 := isRf_W hr3
          obtain ⟨d1, d2, d3⟩ := c1.at_ _ _ b1
          obtain ⟨q3, hq3, ho3'⟩ := c2.ok _ _ hg3
          obtain rfl := Option.some.inj (d1.symm.trans hq3)
          refine ⟨rfl, by rw [← b3, ← d3]; exact ho3'.1, fun w4 hrd hm4 _ => ?_⟩
          have hR4 := c2.turn (b' := false) hg3 d1 hm4 (by rw [d2, b2]; exact hrd)
          exact hK _ (hmem _ (hmem4 _ (List.mem_singleton.2 rfl))) ρ3 w4 _ (a1.trans c1) hR4 rfl
        · cases ho4
      · cases ho2
    · cases h
  · cases h
end
end Go.Proofs.YtjbjooomagbfcaaGreatDoor.St

/- A machine that reckons closed calls: it is right. It names no program. -/
namespace Go.Proofs.YtjbjooomagbfcaaGreatDoor.St
open Go
section
variable {P : Program} {B : World} {gm : Nat → Option Nat} {pls : Nat → Nat → Plan}
theorem fr_eta {n : Nat} {a : Act} {f : Fr} {ds : List Deferred} (h : Rl n a f ds) : Rl n a (fun t => a.tmps.getD t undef) a.defers ∧ (fun t => a.tmps.getD t undef) = f ∧ a.defers = ds := ⟨⟨h.size, rfl, fun _ => rfl⟩, funext h.get, h.defs⟩
theorem loopE_W {r : Option Nat} {n : Nat} {c : Code} {body : Tr AV → List Nat → AH → COuts} {E : Rho → Prop} (hE : ∀ ρ ρ', ρ.le ρ' → E ρ → E ρ')
    (hb : ∀ f ds H outs, body f ds H = some outs → ∀ ρ g dsc w, Rep B ρ H w → FrR ρ f g → DsR ρ ds dsc → E ρ → ∀ Q, AllC B ρ outs Q → SW r P n c Q g dsc w) {Q : Post} :
    ∀ (m : Nat) {f : Tr AV} {ds : List Nat} {H : AH} {outs : List (AX × Tr AV × List Nat × AH)}, loopE body m f ds H = some outs → ∀ {ρ : Rho} {g : Fr} {dsc : List Deferred} {w : World}, Rep B ρ H w → FrR ρ f g → DsR ρ ds dsc → E ρ → AllC B ρ outs Q →
      ∀ a, Rl n a g dsc → Code.roundsIn (wide r) 0 P c (fun e a' w' => ∃ f' ds', Rl n a' f' ds' ∧ Q e f' ds' w') m a w
  | 0, _, _, _, _, h, _, _, _, _, _, _, _, _, _, _, _ => by cases h
  | m + 1, f, ds, H, outs, h, ρ, g, dsc, w, hR, hf, hd, he, hQ, a, hRl => by
    unfold loopE at h
    obtain ⟨os, hos, h⟩ := Option.bind_eq_some_iff.1 h
    rw [roundsIn_succ]
    have hsw := hb f ds H os hos ρ g dsc w hR hf hd he (fun e f' ds' w' => match e with
      | .normal => ∀ a, Rl n a f' ds' → Code.roundsIn (wide r) 0 P c (fun e a' w' => ∃ f' ds', Rl n a' f' ds' ∧ Q e f' ds' w') m a w'
      | e => Q e f' ds' w') fun o ho ρ' g' ds' w' a1 a2 a3 a4 => by
        obtain ⟨o2, ho2, hmem⟩ := flatM_mem h _ ho
        split at ho2
        · exact loopE_W hE hb m ho2 a2 a3 a4 (hE _ _ a1 he) fun z hz ρ2 g2 d2 w2 b1 b2 b3 b4 => hQ z (hmem z hz) ρ2 g2 d2 w2 (a1.trans b1) b2 b3 b4
        · rename_i hne
          cases ho2
          have := hQ _ (hmem _ (List.mem_singleton.2 rfl)) ρ' g' ds' w' a1 a2 a3 a4
          obtain ⟨e, f1, ds1, H1⟩ := o
          cases e with
          | nm => exact absurd rfl (hne _ _ _)
          | ex i => exact this
          | rt => exact this
    refine wpIn_mono (hsw a hRl) fun e a' w' ⟨f', ds', hR', hq⟩ => ?_
    cases e with
    | normal => exact hq a' hR'
    | _ => exact ⟨f', ds', hR', hq⟩
theorem stepE_W (hm : P.follows .mixedOrders = true) {k : Nat} {ih : EvT} (hev : EvOK P gm B ih) : EvOK P gm B (stepE P gm pls k ih) := by
  intro env fc c f ds H outs h ρ g dsc w hR hf hd hE r hr Q hQ
  have h0 := env0 P gm env
  have hcl := callE_W (pls := pls) hev env
  have here : ∀ {x : AX}, outs = [(x, f, ds, H)] → Q x.to g dsc w := fun {x} e => by
    subst e; exact hQ _ (List.mem_singleton.2 rfl) ρ g dsc w (Rho.le.refl _) hR hf hd
  cases c with
  | skip => cases h; exact fun a hRl => wpIn_skip ⟨g, dsc, hRl, here rfl⟩
  | region id ops draw =>
    unfold stepE at h
    obtain ⟨hok, h⟩ := Conds.of h
    obtain ⟨l, hl, rfl⟩ := Option.map_eq_some_iff.1 h
    have hF : AllF B ρ l fun f' w' => Q .normal f' dsc w' := fun o ho ρ' g' w' a1 a2 a3 =>
      hQ _ (List.mem_map.2 ⟨o, ho, rfl⟩) ρ' g' dsc w' a1 a2 a3 (hd.mono a1)
    intro a hRl
    cases draw with
    | false =>
      refine wpIn_region ?_
      have := wpL_sound (r := r) (P := P) (g := g) (Q := fun f' w' => Q .normal f' dsc w') (Qe := fun e a' w' => ∃ f' ds', Rl fc.n a' f' ds' ∧ Q e f' ds' w')
        (fun a f' w hR hs h => ⟨f', dsc, hR, h⟩) ops.toList 0 (by simp) hok 0 g a w hRl (fun _ _ => rfl) (wplE_W h0 hcl ops.toList 0 hl hf hR hE hF)
      rwa [List.range_eq_range', ← Array.length_toList]
    | true => exact plan_region hm hok hRl (fun a f' w hR hs h => ⟨f', dsc, hR, h⟩) (plE_W h0 hcl (fc.pl id) hl hf (hR.grow (Mod.drew w)) hE hF)
  | seq x y =>
    unfold stepE at h
    obtain ⟨os, hos, h⟩ := Option.bind_eq_some_iff.1 h
    intro a hRl
    have hx := hev env fc x f ds H os hos ρ g dsc w hR hf hd hE r hr (thenP (SW r P fc.n y Q) Q) fun o ho ρ' g' ds' w' a1 a2 a3 a4 => by
      obtain ⟨o2, ho2, hmem⟩ := flatM_mem h _ ho
      split at ho2
      · exact hev env fc y _ _ _ o2 ho2 ρ' g' ds' w' a2 a3 a4 (h0.mono _ _ a1 hE) r hr Q fun z hz ρ2 g2 d2 w2 b1 b2 b3 b4 => hQ z (hmem z hz) ρ2 g2 d2 w2 (a1.trans b1) b2 b3 b4
      · rename_i hne
        cases ho2
        have := hQ _ (hmem _ (List.mem_singleton.2 rfl)) ρ' g' ds' w' a1 a2 a3 a4
        obtain ⟨e, f1, ds1, H1⟩ := o
        cases e with
        | nm => exact absurd rfl (hne _ _ _)
        | ex i => exact this
        | rt => exact this
    exact wpIn_seq (wpIn_mono (hx a hRl) fun e a' w' h' => thenP_act (fun a f ds w hR h => h a hR) e a' w' h')
  | cond c x y =>
    simp only [stepE] at h
    split at h
    · rename_i b hb
      have e := eo_ok hf hE.1 hb
      have e : ev g c = .bool b := by simpa [emb] using e.symm
      intro a hRl
      have hb' : a.eval c = .bool b := by rw [hRl.eval]; exact e
      cases b with
      | true => exact wpIn_cond_true hb' (hev env fc x f ds H outs h ρ g dsc w hR hf hd hE r hr Q hQ a hRl)
      | false => exact wpIn_cond_false hb' (hev env fc y f ds H outs h ρ g dsc w hR hf hd hE r hr Q hQ a hRl)
    · cases h
  | block id c =>
    unfold stepE at h
    obtain ⟨os, hos, rfl⟩ := Option.map_eq_some_iff.1 h
    intro a hRl
    have hx := hev env fc c f ds H os hos ρ g dsc w hR hf hd hE r hr (inBlockP id Q) fun o ho ρ' g' ds' w' a1 a2 a3 a4 => by
      have := hQ _ (List.mem_map.2 ⟨o, ho, rfl⟩) ρ' g' ds' w'
      obtain ⟨e, f1, ds1, H1⟩ := o
      cases e with
      | nm => exact this a1 a2 a3 a4
      | rt => exact this a1 a2 a3 a4
      | ex i =>
        simp only [AX.to, inBlockP]
        cases hb : Nat.beq i id with
        | true => simp only [outB, hb, cond_true] at this; exact this a1 a2 a3 a4
        | false => simp only [outB, hb, cond_false] at this; exact this a1 a2 a3 a4
    exact wpIn_block (wpIn_mono (hx a hRl) fun e a' w' h' => inBlockP_act e a' w' h')
  | loop c =>
    unfold stepE at h
    intro a hRl
    exact wpIn_loop_rounds k (loopE_W (E := EnvOK P gm env) h0.mono (fun f ds H outs hb ρ g dsc w hR hf hd hE Q hQ => hev env fc c f ds H outs hb ρ g dsc w hR hf hd hE r hr Q hQ) k h hR hf hd hE hQ a hRl)
  | rangeFunc gv ps x y =>
    simp only [stepE] at h
    split at h
    · rename_i gf u v hin hgv
      obtain ⟨hc, h⟩ := Conds.of h
      rw [Bool.and_eq_true, List.all_eq_true] at hc
      obtain ⟨hpp, hnx⟩ := hc
      have hpn : (ps.toList.all fun p => Nat.blt p fc.n) = true := List.all_eq_true.2 fun p hp => by have := hpp p hp; rw [Bool.and_eq_true] at this; exact this.1
      have hpt : (ps.toList.all fun p => Nat.blt p tmax) = true := List.all_eq_true.2 fun p hp => by have := hpp p hp; rw [Bool.and_eq_true] at this; exact this.2
      obtain ⟨os, hos, h⟩ := Option.bind_eq_some_iff.1 h
      cases hr hin
      have hgv' := eo_ok hf hE.1 hgv
      have hgv2 := hgv'
      simp only [emb, Option.bind_eq_some_iff, Option.map_eq_some_iff] at hgv2
      obtain ⟨us, hu, vs, hv, hev0⟩ := hgv2
      refine rf_sound2 (K := fun w3 => Q .normal g ({ target := .collected w.heap.size, args := #[] } :: dsc) w3)
        (BX := fun Q f _ w' => SW (some (w.heap.size + 1)) P fc.n x (fun e f' ds' w' => Q e f' ds' w' ∧ ds' = []) f [] w')
        (BY := fun Q f _ w' => SW (some (w.heap.size + 1)) P fc.n y Q f [] w') hpn (fun Q f w' h => h) (fun Q f w' h => h) ?_ fun w3 hk => hk
      refine ⟨⟨gf, ⟨us⟩, ⟨vs⟩, hev0.symm⟩, ?_⟩
      intro Rdy Bsy hRs hBs w1 hm1 hs1 hr1 hy
      have hbk : ∀ {o : AO} {k : Nat}, Bk o ⟨w.heap.size + 1, 0, 0⟩ k → k = w.heap.size + 1 ∨ k = w.heap.size := fun {o k} hk => by
        rcases hk with h | ⟨_, h⟩
        · exact .inl h
        · exact .inr (by simpa using h)
      have hle : ρ.le (ρ.ext H.nx ⟨w.heap.size + 1, 0, 0⟩ Rdy Bsy) := Rho.ext_le hR.none_at
      have hR1 : Rep B (ρ.ext H.nx ⟨w.heap.size + 1, 0, 0⟩ Rdy Bsy) (H.add (.rf false)) w1 := hR.add hm1 hnx rfl
        ⟨by simpa [Rho.ext] using hr1, by simp, by simp only; omega, by simpa [Rho.ext, Shut] using fun a b c d e => hRs a b c e d, by simpa [Rho.ext, Shut] using fun a b c d e => hBs a b c e d⟩
        (fun k hk => by rcases hbk hk with h | h <;> omega)
      have hE1 : EnvOK P gm ((H.nx, ⟨fc.n, fc.pl, x, y, ps.toList, f⟩) :: env) (ρ.ext H.nx ⟨w.heap.size + 1, 0, 0⟩ Rdy Bsy) := by
        refine ⟨hE.1.mono hle, fun N ye hy' => ?_⟩
        rcases lookY_cons hy' with ⟨rfl, rfl⟩ | hy'
        · refine ⟨_, g, Rho.ext_at, hf.mono hle, hpt, fun x' w2 K' hxl hrd hsw => hy x' w2 K' (by simpa using hxl) (by simpa [Rho.ext] using hrd) ?_⟩
          refine SW.mono hsw fun e f1 ds1 wa ⟨⟨he, h1, h2⟩, h3⟩ => ⟨?_, h3⟩
          subst he
          refine ⟨by simpa [Rho.ext] using h1, fun wb hb hmb hsb => SW.mono (h2 wb (by simpa [Rho.ext] using hb) hmb hsb) fun e f2 ds2 wc ⟨he, h4, h5⟩ => ?_⟩
          subst he
          exact ⟨by simpa [Rho.ext] using h4, fun w3 hr3 => h5 w3 (by simpa [Rho.ext] using hr3)⟩
        · exact (hE.2 N ye hy').mono hle
      have e0 : ev g gv = .func (.func gf) ⟨us⟩ ⟨vs⟩ := hev0.symm
      rw [e0]
      have hcl1 := callE_W (pls := pls) hev ((H.nx, ⟨fc.n, fc.pl, x, y, ps.toList, f⟩) :: env) _ _ w1 hR1 hE1 (.f gf u v) [.y H.nx] os (.func (.func gf) ⟨us⟩ ⟨vs⟩) [.func (.yield (w.heap.size + 1)) #[] #[]] hos
        (by simp only [emb, embL_mono hle _ hu, embL_mono hle _ hv]; rfl) (embL_cons.2 ⟨_, _, by simp only [emb, Rho.ext_at]; rfl, rfl, rfl⟩)
      refine hcl1 _ fun o ho ρ2 w2 x2 a1 a2 a3 => ?_
      obtain ⟨o2, ho2, hmem⟩ := flatM_mem h _ ho
      obtain ⟨hr2, ho2⟩ := Conds.of ho2
      cases ho2
      have hg2 := isRf_W hr2
      obtain ⟨b1, b2, b3⟩ := a1.at_ _ _ (Rho.ext_at (ρ := ρ) (n := H.nx) (q := ⟨w.heap.size + 1, 0, 0⟩) (rd := Rdy) (bs := Bsy))
      obtain ⟨q2, hq2, ho2'⟩ := a2.ok _ _ hg2
      obtain rfl := Option.some.inj (b1.symm.trans hq2)
      refine ⟨by have := ho2'.1; rw [b2] at this; simpa [Rho.ext] using this, fun w3 hm3 hs3 hd3 => ?_⟩
      have hR3 : Rep B ρ2 (o.2.put H.nx (some .dn)) w3 := a2.put hg2 b1 rfl (hm3.mono fun k _ hk => by
        rcases hk with h | h
        · exact .inr ⟨rfl, by simp only; omega⟩
        · exact .inl h) ⟨by simpa using hd3, by simp, by have := ho2'.2.2.1; rw [hs3]; exact this⟩ rfl fun k hk => hk
      exact hQ _ (hmem _ (List.mem_singleton.2 rfl)) ρ2 g _ w3 (hle.trans a1) hR3 (hf.mono (hle.trans a1)) ⟨⟨_, b1, by simp, by simp⟩, hd.mono (hle.trans a1)⟩
    · cases h
  | exit id => cases h; exact fun a hRl => wpIn_exit ⟨g, dsc, hRl, here (x := .ex id) rfl⟩
  | ret => cases h; exact fun a hRl => wpIn_ret ⟨g, dsc, hRl, here (x := .rt) rfl⟩
  | scope c =>
    unfold stepE at h
    intro a hRl
    have hx := hev env fc c f ds H outs h ρ g dsc w hR hf hd hE r hr (noGotoP Q) fun o ho ρ' g' ds' w' a1 a2 a3 a4 => by
      have := hQ o ho ρ' g' ds' w' a1 a2 a3 a4
      obtain ⟨e, f1, ds1, H1⟩ := o
      cases e <;> exact this
    refine wpIn_scope (wpIn_mono (hx a hRl) fun e a' w' ⟨f', ds', hR', hq⟩ => ?_)
    cases e with
    | goto l => exact hq.elim
    | normal => exact ⟨f', ds', hR', hq⟩
    | exit i => exact ⟨f', ds', hR', hq⟩
    | ret => exact ⟨f', ds', hR', hq⟩
    | panic i => exact ⟨f', ds', hR', hq⟩
    | outgrown => exact ⟨f', ds', hR', hq⟩
  | label l => cases h; exact fun a hRl => wpIn_label ⟨g, dsc, hRl, here (x := .nm) rfl⟩
  | goto l => cases h
  | refuse s => cases h
theorem evC_W (hm : P.follows .mixedOrders = true) : ∀ k : Nat, EvOK P gm B (evC P gm pls k)
  | 0 => fun _ _ _ _ _ _ _ h => by cases h
  | k + 1 => stepE_W hm (evC_W hm k)
/-- A call whose reckoning ends always so. -/
theorem call_reckoned (hm : P.follows .mixedOrders = true) {k : Nat} {g : FuncId} {args : List AV} {args' : List Value} {H : AH} {outs : List (AV × AH)} (h : callE P pls (evC P gm pls k) [] (.f g [] []) args H = some outs) {ρ : Rho} {w : World} (hR : Rep B ρ H w) (hG : GmR ρ gm) (ha : embL ρ args = some args')
    {K : Value → World → Prop} (hK : AllK B ρ outs K) : Ca P g ⟨args'⟩ w K := by
  have := callE_W (pls := pls) (evC_W (B := B) (gm := gm) hm k) [] ρ H w hR ⟨hG, fun N ye e => by cases e⟩ (.f g [] []) args outs (.func (.func g) #[] #[]) args' h rfl ha K hK
  simpa [CaV] using this
end
end Go.Proofs.YtjbjooomagbfcaaGreatDoor.St

/- Plans of regions, printed by a program of mine (plans.py). -/
namespace Go.Proofs.YtjbjooomagbfcaaGreatDoor
open Go Go.Proofs.YtjbjooomagbfcaaGreatDoor.St
def pl11 : Nat → Plan
  | 4 => (.quiet 0 (.quiet 1 (.fork (.eff 2 [1] (.fork (.eff 3 [1] (.fork (.eff 4 [1] (.eff 5 [1] (.quiet 6 (.eff 7 [] (.quiet 8 .done))))) (.eff 5 [1] (.eff 4 [1] (.quiet 6 (.eff 7 [] (.quiet 8 .done))))))) (.fork (.eff 4 [1] (.fork (.eff 3 [1] (.eff 5 [1] (.quiet 6 (.eff 7 [] (.quiet 8 .done))))) (.eff 5 [1] (.eff 3 [1] (.quiet 6 (.eff 7 [] (.quiet 8 .done))))))) (.eff 5 [1] (.fork (.eff 3 [1] (.eff 4 [1] (.quiet 6 (.eff 7 [] (.quiet 8 .done))))) (.eff 4 [1] (.eff 3 [1] (.quiet 6 (.eff 7 [] (.quiet 8 .done)))))))))) (.fork (.eff 3 [1] (.fork (.eff 2 [1] (.fork (.eff 4 [1] (.eff 5 [1] (.quiet 6 (.eff 7 [] (.quiet 8 .done))))) (.eff 5 [1] (.eff 4 [1] (.quiet 6 (.eff 7 [] (.quiet 8 .done))))))) (.eff 5 [1] (.eff 2 [1] (.eff 4 [1] (.quiet 6 (.eff 7 [] (.quiet 8 .done)))))))) (.eff 5 [1] (.fork (.eff 2 [1] (.fork (.eff 3 [1] (.eff 4 [1] (.quiet 6 (.eff 7 [] (.quiet 8 .done))))) (.eff 4 [1] (.eff 3 [1] (.quiet 6 (.eff 7 [] (.quiet 8 .done))))))) (.eff 3 [1] (.eff 2 [1] (.eff 4 [1] (.quiet 6 (.eff 7 [] (.quiet 8 .done))))))))))))
  | _ => .done
def pl13 : Nat → Plan
  | 5 => (.quiet 0 (.quiet 1 (.quiet 3 (.quiet 4 (.eff 2 [4] (.eff 5 [] (.quiet 6 (.quiet 7 (.quiet 8 (.quiet 9 .done))))))))))
  | _ => .done
def pl17 : Nat → Plan
  | 3 => (.quiet 0 (.quiet 1 (.quiet 2 (.quiet 3 (.quiet 4 (.quiet 5 (.quiet 6 (.quiet 7 (.quiet 8 (.quiet 9 (.quiet 10 (.quiet 11 (.quiet 13 (.quiet 14 (.quiet 15 (.quiet 16 (.fork (.eff 12 [3, 7, 16] (.fork (.eff 17 [3, 7] (.quiet 18 (.eff 19 [3, 7, 11, 16] (.eff 20 [] .done)))) (.eff 19 [3, 7, 11, 16] (.eff 17 [3, 7] (.quiet 18 (.eff 20 [] .done)))))) (.eff 19 [3, 7, 11, 16] (.eff 12 [3, 7, 16] (.eff 17 [3, 7] (.quiet 18 (.eff 20 [] .done))))))))))))))))))))))
  | 13 => (.quiet 0 (.quiet 1 (.quiet 2 (.quiet 3 (.quiet 4 (.quiet 5 (.quiet 6 (.quiet 7 (.eff 8 [1] (.quiet 9 (.eff 10 [1] (.eff 11 [] (.quiet 12 (.eff 13 [] .done))))))))))))))
  | _ => .done
def pl18 : Nat → Plan
  | 1 => (.quiet 0 (.eff 1 [] (.quiet 2 (.quiet 3 (.quiet 4 (.quiet 5 (.quiet 6 (.quiet 7 (.eff 8 [] (.quiet 9 (.quiet 10 .done)))))))))))
  | _ => .done
def pl24 : Nat → Plan
  | 4 => (.quiet 0 (.quiet 1 (.quiet 2 (.quiet 3 (.quiet 5 (.quiet 6 (.quiet 7 (.quiet 8 (.eff 4 [8] (.eff 9 [] (.quiet 10 (.eff 11 [] (.quiet 12 (.eff 13 [] .done))))))))))))))
  | 9 => (.quiet 0 (.quiet 1 (.quiet 2 (.quiet 3 (.eff 4 [1] (.eff 5 [] .done))))))
  | 13 => (.quiet 0 (.quiet 1 (.quiet 2 (.quiet 3 (.quiet 4 (.eff 5 [1] (.eff 6 [] .done)))))))
  | _ => .done
def pl27 : Nat → Plan
  | 5 => (.quiet 0 (.quiet 1 (.quiet 2 (.quiet 3 (.quiet 4 (.eff 5 [3] (.quiet 6 (.eff 7 [] .done))))))))
  | 24 => (.quiet 0 (.quiet 1 (.quiet 2 (.quiet 3 (.quiet 4 (.eff 5 [3] (.quiet 6 (.eff 7 [] .done))))))))
  | 27 => (.quiet 0 (.quiet 1 (.quiet 2 (.quiet 3 (.quiet 4 (.eff 5 [3] (.quiet 6 (.eff 7 [] .done))))))))
  | _ => .done
def pl35 : Nat → Plan
  | 5 => (.quiet 0 (.quiet 1 (.quiet 3 (.quiet 4 (.eff 2 [] (.quiet 5 (.eff 6 [] .done)))))))
  | _ => .done
def pl37 : Nat → Plan
  | 7 => (.quiet 0 (.quiet 1 (.quiet 2 (.quiet 3 (.quiet 4 (.eff 5 [] (.quiet 6 (.quiet 7 (.quiet 8 (.eff 9 [] (.quiet 10 .done)))))))))))
  | _ => .done
def pl64 : Nat → Plan
  | 1 => (.quiet 0 (.quiet 1 (.quiet 2 (.quiet 4 (.quiet 5 (.eff 3 [5] (.eff 6 [] (.quiet 7 .done))))))))
  | _ => .done
def pl67 : Nat → Plan
  | 7 => (.quiet 0 (.quiet 1 (.quiet 2 (.quiet 3 (.eff 4 [] (.quiet 5 (.quiet 6 (.quiet 7 (.quiet 8 (.quiet 9 (.quiet 10 (.eff 11 [] (.quiet 12 (.quiet 13 (.quiet 14 (.quiet 15 (.quiet 16 (.quiet 17 (.quiet 18 (.quiet 19 (.quiet 20 (.quiet 21 (.quiet 22 (.quiet 23 (.quiet 24 (.quiet 25 (.quiet 26 (.quiet 27 (.quiet 28 (.quiet 29 .done))))))))))))))))))))))))))))))
  | 9 => (.quiet 0 (.quiet 1 (.quiet 2 (.quiet 3 (.quiet 4 (.quiet 5 (.eff 6 [] .done)))))))
  | _ => .done
def pl75 : Nat → Plan
  | 3 => (.quiet 0 (.quiet 1 (.quiet 2 (.quiet 3 (.quiet 5 (.quiet 6 (.quiet 7 (.quiet 8 (.eff 4 [8] (.eff 9 [] (.quiet 10 (.eff 11 [] (.quiet 12 .done)))))))))))))
  | _ => .done
def pl76 : Nat → Plan
  | 7 => (.quiet 0 (.quiet 1 (.quiet 2 (.quiet 4 (.quiet 5 (.eff 3 [0] (.quiet 6 (.eff 7 [] .done))))))))
  | _ => .done
def pl77 : Nat → Plan
  | 3 => (.quiet 0 (.quiet 1 (.quiet 2 (.quiet 3 (.quiet 4 (.quiet 5 (.quiet 6 (.quiet 7 (.quiet 8 (.quiet 10 (.quiet 11 (.quiet 12 (.quiet 13 (.eff 9 [3, 7, 13] (.eff 14 [3, 7] (.quiet 15 (.eff 16 [] (.quiet 17 .done))))))))))))))))))
  | _ => .done
def pl91 : Nat → Plan
  | 4 => (.quiet 0 (.quiet 1 (.quiet 2 (.eff 3 [0] (.eff 4 [] (.quiet 5 .done))))))
  | 7 => (.quiet 0 (.quiet 1 (.quiet 2 (.quiet 3 (.quiet 4 (.quiet 5 (.quiet 6 (.quiet 7 (.quiet 8 (.eff 9 [0, 6] (.quiet 10 (.quiet 11 (.eff 12 [6] (.quiet 13 .done))))))))))))))
  | 10 => (.quiet 0 (.quiet 1 (.quiet 2 (.quiet 3 (.eff 4 [2] (.quiet 5 .done))))))
  | 13 => (.quiet 0 (.quiet 1 (.quiet 2 (.quiet 3 (.quiet 4 (.quiet 5 (.quiet 6 (.quiet 7 (.quiet 8 (.eff 9 [6] (.quiet 10 .done)))))))))))
  | 16 => (.quiet 0 (.quiet 1 (.quiet 2 (.eff 3 [0] (.eff 4 [] (.quiet 5 .done))))))
  | 19 => (.quiet 0 (.quiet 1 (.quiet 2 (.quiet 3 (.eff 4 [0] (.quiet 5 (.quiet 6 (.quiet 7 (.quiet 8 (.eff 9 [0] (.quiet 10 (.quiet 11 (.quiet 12 (.quiet 13 (.quiet 14 (.quiet 15 (.quiet 16 (.quiet 17 (.eff 18 [14] (.quiet 19 .done))))))))))))))))))))
  | 21 => (.quiet 0 (.quiet 1 (.quiet 2 (.eff 3 [0] (.eff 4 [] (.quiet 5 .done))))))
  | _ => .done
def pl92 : Nat → Plan
  | 1 => (.quiet 0 (.quiet 1 (.quiet 2 (.quiet 3 (.quiet 4 (.quiet 5 (.eff 6 [] (.quiet 7 .done))))))))
  | 2 => (.quiet 0 (.quiet 1 (.quiet 2 (.quiet 3 (.quiet 5 (.quiet 6 (.eff 4 [6] (.quiet 7 (.quiet 8 (.quiet 9 .done))))))))))
  | 8 => (.quiet 0 (.quiet 1 (.quiet 2 (.quiet 3 (.quiet 4 (.quiet 5 (.quiet 6 (.quiet 7 (.eff 8 [3, 5] (.eff 9 [] .done))))))))))
  | _ => .done
def pl93 : Nat → Plan
  | 1 => (.quiet 0 (.quiet 1 (.quiet 2 (.quiet 3 (.quiet 4 (.quiet 5 (.eff 6 [] (.quiet 7 .done))))))))
  | 3 => (.quiet 0 (.quiet 1 (.quiet 2 (.quiet 3 (.quiet 4 (.quiet 5 (.eff 6 [] .done)))))))
  | 4 => (.quiet 0 (.quiet 1 (.quiet 2 (.quiet 3 (.quiet 4 (.quiet 5 (.eff 6 [] .done)))))))
  | _ => .done
def pl94 : Nat → Plan
  | 3 => (.quiet 0 (.quiet 1 (.quiet 2 (.quiet 3 (.quiet 4 (.quiet 5 (.eff 6 [] (.quiet 7 (.quiet 8 .done)))))))))
  | 5 => (.quiet 0 (.quiet 1 (.quiet 2 (.quiet 3 (.quiet 4 (.quiet 5 (.eff 6 [] (.quiet 7 (.quiet 8 .done)))))))))
  | 6 => (.quiet 0 (.quiet 1 (.quiet 2 (.quiet 3 (.quiet 4 (.quiet 5 (.eff 6 [] (.quiet 7 (.quiet 8 .done)))))))))
  | _ => .done
def pl95 : Nat → Plan
  | 1 => (.quiet 0 (.quiet 1 (.quiet 2 (.quiet 3 (.quiet 4 (.quiet 5 (.quiet 6 (.eff 7 [] (.quiet 8 .done)))))))))
  | 3 => (.quiet 0 (.quiet 1 (.quiet 2 (.quiet 3 (.quiet 4 (.quiet 5 (.eff 6 [] (.quiet 7 (.quiet 8 .done)))))))))
  | _ => .done
def pl96 : Nat → Plan
  | 3 => (.quiet 0 (.quiet 1 (.quiet 2 (.quiet 3 (.quiet 4 (.quiet 5 (.quiet 6 (.quiet 7 .done))))))))
  | 11 => (.quiet 0 (.quiet 1 (.quiet 2 (.quiet 3 (.quiet 4 (.quiet 5 (.quiet 6 (.quiet 7 (.quiet 8 (.quiet 9 (.quiet 10 (.eff 11 [] (.quiet 12 .done)))))))))))))
  | 14 => (.quiet 0 (.quiet 1 (.quiet 2 (.quiet 3 (.quiet 4 (.quiet 5 (.eff 6 [] .done)))))))
  | 15 => (.quiet 0 (.quiet 1 (.quiet 2 (.quiet 3 (.quiet 4 (.quiet 5 (.quiet 6 (.quiet 7 .done))))))))
  | 20 => (.quiet 0 (.quiet 1 (.quiet 2 (.quiet 3 (.quiet 4 (.quiet 6 (.eff 5 [6] (.eff 7 [] .done))))))))
  | 26 => (.quiet 0 (.quiet 1 (.quiet 2 (.quiet 3 (.quiet 4 (.quiet 5 (.quiet 6 (.quiet 7 (.quiet 8 (.quiet 9 (.quiet 11 (.fork (.eff 10 [0, 3, 11] (.eff 12 [0, 3, 5, 8] (.eff 13 [0, 3] (.eff 14 [] .done)))) (.eff 12 [0, 3, 5, 8] (.eff 10 [0, 3, 11] (.eff 13 [0, 3] (.eff 14 [] .done))))))))))))))))
  | _ => .done
def pl97 : Nat → Plan
  | 1 => (.quiet 0 (.quiet 1 (.quiet 2 (.quiet 3 (.quiet 4 (.quiet 5 (.quiet 6 (.quiet 7 (.quiet 9 (.quiet 10 (.eff 8 [10] (.eff 11 [] (.quiet 12 (.quiet 13 .done))))))))))))))
  | 3 => (.quiet 0 (.quiet 1 (.quiet 2 (.quiet 3 (.quiet 4 (.quiet 5 (.quiet 8 (.quiet 9 (.eff 6 [9] (.quiet 7 (.quiet 10 (.quiet 11 .done))))))))))))
  | 5 => (.quiet 0 (.quiet 1 (.quiet 2 (.quiet 3 (.quiet 4 (.quiet 5 (.quiet 6 (.quiet 7 (.quiet 8 (.quiet 9 (.quiet 10 (.quiet 11 (.quiet 13 (.quiet 14 (.eff 12 [3, 5, 14] (.quiet 15 (.eff 16 [3, 5] (.eff 17 [] .done))))))))))))))))))
  | _ => .done
def pl99 : Nat → Plan
  | 1 => (.quiet 0 (.quiet 1 (.quiet 2 (.quiet 3 (.quiet 4 (.quiet 5 (.eff 6 [] (.quiet 7 .done))))))))
  | _ => .done
def pl121 : Nat → Plan
  | 1 => (.quiet 0 (.quiet 1 (.quiet 2 (.quiet 3 (.quiet 5 (.quiet 6 (.quiet 7 (.quiet 8 (.quiet 10 (.quiet 11 (.quiet 12 (.quiet 13 (.eff 4 [6, 8, 11, 13] (.eff 9 [11, 13] (.eff 14 [] (.eff 15 [] (.eff 16 [] (.quiet 17 .done))))))))))))))))))
  | _ => .done
def pl147 : Nat → Plan
  | 5 => (.quiet 0 (.quiet 1 (.quiet 2 (.quiet 3 (.quiet 4 (.quiet 5 (.fork (.eff 6 [] (.quiet 7 (.quiet 8 (.quiet 9 (.eff 10 [3, 5] (.eff 11 [] (.quiet 12 .done))))))) (.eff 10 [3, 5] (.eff 6 [] (.quiet 7 (.quiet 8 (.quiet 9 (.eff 11 [] (.quiet 12 .done))))))))))))))
  | 12 => (.quiet 0 (.quiet 1 (.quiet 2 (.quiet 3 (.quiet 4 (.quiet 5 (.quiet 6 (.eff 7 [] .done))))))))
  | _ => .done
def pl148 : Nat → Plan
  | 3 => (.quiet 0 (.quiet 1 (.quiet 2 (.quiet 3 (.quiet 4 (.quiet 5 (.fork (.eff 6 [] (.quiet 7 (.quiet 8 (.quiet 9 (.eff 10 [3, 5] (.eff 11 [] (.quiet 12 .done))))))) (.eff 10 [3, 5] (.eff 6 [] (.quiet 7 (.quiet 8 (.quiet 9 (.eff 11 [] (.quiet 12 .done))))))))))))))
  | 4 => (.quiet 0 (.quiet 1 (.quiet 2 (.quiet 3 (.quiet 4 (.fork (.eff 5 [] (.quiet 6 (.quiet 7 (.quiet 8 (.eff 9 [3, 4] (.eff 10 [] (.quiet 11 .done))))))) (.eff 9 [3, 4] (.eff 5 [] (.quiet 6 (.quiet 7 (.quiet 8 (.eff 10 [] (.quiet 11 .done)))))))))))))
  | 13 => (.quiet 0 (.quiet 1 (.quiet 2 (.quiet 3 (.quiet 4 (.quiet 5 (.eff 6 [] .done)))))))
  | _ => .done
def pl162 : Nat → Plan
  | 3 => (.quiet 0 (.quiet 1 (.quiet 2 (.quiet 3 (.quiet 4 (.fork (.eff 5 [] (.quiet 6 (.quiet 7 (.quiet 8 (.eff 9 [3, 4] (.eff 10 [] (.quiet 11 .done))))))) (.eff 9 [3, 4] (.eff 5 [] (.quiet 6 (.quiet 7 (.quiet 8 (.eff 10 [] (.quiet 11 .done)))))))))))))
  | 6 => (.quiet 0 (.quiet 1 (.quiet 2 (.quiet 3 (.quiet 4 (.eff 5 [] .done))))))
  | _ => .done
def pl164 : Nat → Plan
  | 1 => (.quiet 0 (.quiet 1 (.quiet 2 (.quiet 3 (.quiet 4 (.quiet 5 (.eff 6 [] .done)))))))
  | 3 => (.quiet 0 (.quiet 1 (.quiet 2 (.quiet 3 (.quiet 4 (.quiet 5 (.quiet 6 (.quiet 7 (.quiet 8 (.quiet 9 (.quiet 10 (.eff 11 [] (.quiet 12 .done)))))))))))))
  | _ => .done
def pl165 : Nat → Plan
  | 1 => (.quiet 0 (.quiet 1 (.quiet 2 (.quiet 3 (.quiet 4 (.quiet 5 (.fork (.eff 6 [] (.quiet 7 (.quiet 8 (.quiet 9 (.eff 10 [3, 5] (.eff 11 [] (.quiet 12 .done))))))) (.eff 10 [3, 5] (.eff 6 [] (.quiet 7 (.quiet 8 (.quiet 9 (.eff 11 [] (.quiet 12 .done))))))))))))))
  | 4 => (.quiet 0 (.quiet 1 (.quiet 2 (.quiet 3 (.quiet 4 (.quiet 5 (.quiet 6 (.quiet 7 (.quiet 8 (.quiet 9 .done))))))))))
  | _ => .done
def pl166 : Nat → Plan
  | 1 => (.quiet 0 (.quiet 1 (.quiet 2 (.quiet 3 (.quiet 4 (.quiet 5 (.quiet 6 (.quiet 7 (.quiet 9 (.eff 8 [] (.eff 10 [] (.quiet 11 .done))))))))))))
  | _ => .done
def pl169 : Nat → Plan
  | 1 => (.quiet 0 (.quiet 1 (.quiet 2 (.quiet 4 (.quiet 5 (.eff 3 [5] (.eff 6 [] (.quiet 7 .done))))))))
  | _ => .done
def pl170 : Nat → Plan
  | 7 => (.quiet 0 (.quiet 1 (.quiet 2 (.quiet 3 (.quiet 4 (.quiet 5 (.quiet 6 (.quiet 7 (.quiet 8 (.quiet 9 (.quiet 10 (.eff 11 [4] (.eff 12 [] (.quiet 13 (.quiet 14 (.eff 15 [] .done))))))))))))))))
  | _ => .done
def pl173 : Nat → Plan
  | 5 => (.quiet 0 (.quiet 1 (.quiet 2 (.quiet 3 (.quiet 4 (.quiet 6 (.quiet 7 (.fork (.eff 5 [0, 7] (.eff 8 [0, 1, 4] (.eff 9 [0] (.quiet 10 (.quiet 11 (.eff 12 [] .done)))))) (.eff 8 [0, 1, 4] (.eff 5 [0, 7] (.eff 9 [0] (.quiet 10 (.quiet 11 (.eff 12 [] .done))))))))))))))
  | _ => .done
def pl174 : Nat → Plan
  | 5 => (.quiet 0 (.quiet 1 (.quiet 2 (.quiet 3 (.quiet 4 (.quiet 5 (.quiet 6 (.eff 7 [] .done))))))))
  | _ => .done
def pl189 : Nat → Plan
  | 17 => (.quiet 0 (.quiet 1 (.quiet 2 (.quiet 3 (.quiet 4 (.quiet 5 (.quiet 6 (.quiet 7 (.quiet 8 (.quiet 9 (.quiet 10 (.quiet 11 (.eff 12 [] (.quiet 13 (.quiet 14 .done)))))))))))))))
  | _ => .done
def pl196 : Nat → Plan
  | 17 => (.quiet 0 (.quiet 1 (.quiet 2 (.quiet 3 (.quiet 4 (.quiet 5 (.quiet 6 (.quiet 7 (.quiet 8 (.quiet 9 (.quiet 10 (.quiet 11 (.eff 12 [] (.quiet 13 (.quiet 14 .done)))))))))))))))
  | _ => .done
def pl225 : Nat → Plan
  | 3 => (.quiet 0 (.quiet 1 (.quiet 2 (.quiet 3 (.quiet 4 (.quiet 5 (.quiet 6 (.quiet 7 (.quiet 8 (.quiet 9 (.quiet 10 (.quiet 11 (.quiet 12 (.quiet 13 (.eff 14 [3, 7] (.quiet 15 (.quiet 16 .done)))))))))))))))))
  | _ => .done
def pl230 : Nat → Plan
  | 1 => (.quiet 0 (.quiet 1 (.quiet 2 (.quiet 3 (.quiet 4 (.quiet 5 (.quiet 6 (.quiet 7 (.quiet 8 (.quiet 9 (.quiet 10 .done)))))))))))
  | _ => .done
def pl231 : Nat → Plan
  | 11 => (.quiet 0 (.quiet 1 (.quiet 2 (.quiet 3 (.quiet 4 (.quiet 5 (.quiet 6 (.quiet 7 (.eff 8 [] .done)))))))))
  | 15 => (.quiet 0 (.quiet 1 (.quiet 2 (.quiet 3 (.quiet 4 (.quiet 5 (.quiet 6 (.quiet 7 (.eff 8 [] .done)))))))))
  | _ => .done
def pl234 : Nat → Plan
  | 17 => (.quiet 0 (.quiet 1 (.quiet 2 (.quiet 3 (.quiet 4 (.quiet 5 (.quiet 6 (.quiet 7 (.quiet 8 (.quiet 9 (.quiet 10 (.quiet 11 (.quiet 12 (.eff 13 [] (.quiet 14 (.quiet 15 (.quiet 16 .done)))))))))))))))))
  | _ => .done
def pl236 : Nat → Plan
  | 17 => (.quiet 0 (.quiet 1 (.quiet 2 (.quiet 3 (.quiet 4 (.quiet 5 (.quiet 6 (.quiet 7 (.quiet 8 (.quiet 9 (.quiet 10 (.quiet 11 (.quiet 12 (.eff 13 [] (.quiet 14 (.quiet 15 (.quiet 16 .done)))))))))))))))))
  | _ => .done
def pl237 : Nat → Plan
  | 4 => (.quiet 0 (.quiet 1 (.quiet 2 (.quiet 3 (.quiet 4 (.quiet 5 (.quiet 6 (.quiet 7 (.quiet 8 (.quiet 9 (.quiet 10 (.quiet 11 (.quiet 12 (.eff 13 [] (.quiet 14 .done)))))))))))))))
  | 6 => (.quiet 0 (.quiet 1 (.quiet 2 (.quiet 3 (.quiet 4 (.quiet 5 (.quiet 6 (.quiet 7 (.quiet 8 (.quiet 9 (.quiet 10 (.quiet 11 (.quiet 12 (.quiet 13 (.quiet 14 (.eff 15 [] (.quiet 16 (.eff 17 [] .done))))))))))))))))))
  | _ => .done
def pl238 : Nat → Plan
  | 10 => (.quiet 0 (.quiet 1 (.quiet 2 (.quiet 3 (.quiet 4 (.quiet 5 (.quiet 6 (.quiet 7 (.quiet 8 (.quiet 9 (.quiet 10 (.quiet 11 (.quiet 12 (.quiet 13 (.quiet 14 (.quiet 15 (.quiet 16 (.eff 17 [] (.quiet 18 (.eff 19 [] .done))))))))))))))))))))
  | _ => .done
def pl239 : Nat → Plan
  | 10 => (.quiet 0 (.quiet 1 (.quiet 2 (.quiet 3 (.quiet 4 (.quiet 5 (.quiet 6 (.quiet 7 (.quiet 8 (.quiet 9 (.quiet 10 (.quiet 11 (.quiet 12 (.quiet 13 (.quiet 14 (.quiet 15 (.quiet 16 (.eff 17 [] (.quiet 18 (.eff 19 [] .done))))))))))))))))))))
  | _ => .done
def pl241 : Nat → Plan
  | 3 => (.quiet 0 (.quiet 1 (.quiet 2 (.quiet 3 (.quiet 4 (.quiet 5 (.quiet 6 (.quiet 7 (.quiet 8 (.quiet 9 (.quiet 10 (.quiet 11 (.quiet 12 (.eff 13 [] (.quiet 14 (.eff 15 [] .done))))))))))))))))
  | _ => .done
def pl242 : Nat → Plan
  | 5 => (.quiet 0 (.quiet 1 (.quiet 2 (.quiet 3 (.quiet 4 (.quiet 5 (.quiet 6 (.quiet 7 (.quiet 8 (.quiet 9 (.quiet 10 (.quiet 11 (.quiet 12 (.eff 13 [] (.quiet 14 (.quiet 15 .done))))))))))))))))
  | 11 => (.quiet 0 (.quiet 1 (.quiet 2 (.quiet 3 (.quiet 4 (.quiet 5 (.quiet 6 (.quiet 7 (.quiet 8 (.quiet 9 (.quiet 10 (.quiet 11 (.quiet 12 (.quiet 13 (.quiet 14 (.eff 15 [] (.quiet 16 (.eff 17 [] .done))))))))))))))))))
  | 16 => (.quiet 0 (.quiet 1 (.quiet 2 (.quiet 3 (.quiet 4 (.quiet 5 (.quiet 6 (.quiet 7 (.quiet 8 (.eff 9 [] (.quiet 10 .done)))))))))))
  | 17 => (.quiet 0 (.quiet 1 (.quiet 2 (.quiet 3 (.quiet 4 (.quiet 5 (.quiet 6 (.quiet 7 (.quiet 8 (.quiet 9 (.quiet 10 (.quiet 11 (.quiet 12 (.quiet 13 (.quiet 14 (.eff 15 [] (.quiet 16 (.eff 17 [] .done))))))))))))))))))
  | 22 => (.quiet 0 (.quiet 1 (.quiet 2 (.quiet 3 (.quiet 4 (.quiet 5 (.quiet 6 (.quiet 7 (.quiet 8 (.eff 9 [] (.quiet 10 .done)))))))))))
  | 23 => (.quiet 0 (.quiet 1 (.quiet 2 (.quiet 3 (.quiet 4 (.quiet 5 (.quiet 6 (.quiet 7 (.quiet 8 (.quiet 9 (.quiet 10 (.quiet 11 (.quiet 12 (.quiet 13 (.quiet 14 (.eff 15 [] (.quiet 16 (.eff 17 [] .done))))))))))))))))))
  | _ => .done
def pl244 : Nat → Plan
  | 1 => (.quiet 0 (.quiet 1 (.quiet 2 (.quiet 3 (.quiet 4 (.quiet 5 (.quiet 6 (.quiet 7 (.quiet 8 (.quiet 9 (.quiet 10 (.quiet 11 (.quiet 12 (.eff 13 [] (.quiet 14 (.eff 15 [] .done))))))))))))))))
  | 3 => (.quiet 0 (.quiet 1 (.quiet 2 (.quiet 3 (.quiet 4 (.quiet 5 (.quiet 6 (.quiet 7 (.quiet 8 (.quiet 9 (.quiet 10 (.quiet 11 (.eff 12 [] (.quiet 13 (.quiet 14 .done)))))))))))))))
  | 5 => (.quiet 0 (.quiet 1 (.quiet 2 (.quiet 3 (.quiet 4 (.quiet 5 (.quiet 6 (.quiet 7 (.quiet 8 (.quiet 9 (.quiet 10 (.quiet 11 (.eff 12 [] (.quiet 13 .done))))))))))))))
  | 8 => (.quiet 0 (.quiet 1 (.quiet 2 (.quiet 3 (.quiet 4 (.quiet 5 (.quiet 6 (.quiet 7 (.quiet 8 (.quiet 9 (.quiet 10 (.quiet 11 (.quiet 12 (.eff 13 [] (.quiet 14 (.eff 15 [] .done))))))))))))))))
  | _ => .done
def pl245 : Nat → Plan
  | 1 => (.quiet 0 (.quiet 1 (.quiet 2 (.quiet 3 (.quiet 4 (.quiet 5 (.quiet 6 (.quiet 7 (.quiet 8 (.quiet 9 (.quiet 10 (.quiet 11 (.quiet 12 (.eff 13 [] (.quiet 14 (.eff 15 [] .done))))))))))))))))
  | 3 => (.quiet 0 (.quiet 1 (.quiet 2 (.quiet 3 (.quiet 4 (.quiet 5 (.quiet 6 (.quiet 7 (.quiet 8 (.quiet 9 (.quiet 10 (.quiet 11 (.eff 12 [] (.quiet 13 .done))))))))))))))
  | 5 => (.quiet 0 (.quiet 1 (.quiet 2 (.quiet 3 (.quiet 4 (.quiet 5 (.quiet 6 (.quiet 7 (.quiet 8 (.quiet 9 (.quiet 10 (.quiet 11 (.eff 12 [] (.quiet 13 (.quiet 14 .done)))))))))))))))
  | 8 => (.quiet 0 (.quiet 1 (.quiet 2 (.quiet 3 (.quiet 4 (.quiet 5 (.quiet 6 (.quiet 7 (.quiet 8 (.quiet 9 (.quiet 10 (.quiet 11 (.quiet 12 (.eff 13 [] (.quiet 14 (.eff 15 [] .done))))))))))))))))
  | 10 => (.quiet 0 (.quiet 1 (.quiet 2 (.quiet 3 (.quiet 4 (.quiet 5 (.quiet 6 (.quiet 7 (.quiet 8 (.quiet 9 (.quiet 10 (.quiet 11 (.quiet 12 (.eff 13 [] (.quiet 14 (.eff 15 [] .done))))))))))))))))
  | 13 => (.quiet 0 (.quiet 1 (.quiet 2 (.quiet 3 (.quiet 4 (.quiet 5 (.quiet 6 (.quiet 7 (.quiet 8 (.quiet 9 (.quiet 10 (.quiet 11 (.eff 12 [] (.quiet 13 .done))))))))))))))
  | 15 => (.quiet 0 (.quiet 1 (.quiet 2 (.quiet 3 (.quiet 4 (.quiet 5 (.quiet 6 (.quiet 7 (.quiet 8 (.quiet 9 (.quiet 10 (.quiet 11 (.eff 12 [] (.quiet 13 (.quiet 14 .done)))))))))))))))
  | 18 => (.quiet 0 (.quiet 1 (.quiet 2 (.quiet 3 (.quiet 4 (.quiet 5 (.quiet 6 (.quiet 7 (.quiet 8 (.quiet 9 (.quiet 10 (.quiet 11 (.quiet 12 (.eff 13 [] (.quiet 14 (.eff 15 [] .done))))))))))))))))
  | 21 => (.quiet 0 (.quiet 1 (.quiet 2 (.quiet 3 (.quiet 4 (.quiet 5 (.quiet 6 (.quiet 7 (.quiet 8 (.quiet 9 (.quiet 10 (.quiet 11 (.quiet 12 (.eff 13 [] (.quiet 14 (.eff 15 [] .done))))))))))))))))
  | _ => .done
def pl248 : Nat → Plan
  | 4 => (.quiet 0 (.quiet 1 (.quiet 2 (.quiet 3 (.quiet 4 (.quiet 5 (.quiet 6 (.quiet 7 (.quiet 8 (.quiet 9 (.quiet 10 (.quiet 11 (.quiet 12 (.eff 13 [] (.quiet 14 .done)))))))))))))))
  | 6 => (.quiet 0 (.quiet 1 (.quiet 2 (.quiet 3 (.quiet 4 (.quiet 5 (.quiet 6 (.quiet 7 (.quiet 8 (.quiet 9 (.quiet 10 (.quiet 11 (.quiet 12 (.quiet 13 (.quiet 14 (.eff 15 [] (.quiet 16 (.eff 17 [] .done))))))))))))))))))
  | _ => .done
def pl249 : Nat → Plan
  | 10 => (.quiet 0 (.quiet 1 (.quiet 2 (.quiet 3 (.quiet 4 (.quiet 5 (.quiet 6 (.quiet 7 (.quiet 8 (.quiet 9 (.quiet 10 (.quiet 11 (.quiet 12 (.quiet 13 (.quiet 14 (.quiet 15 (.quiet 16 (.eff 17 [] (.quiet 18 (.eff 19 [] .done))))))))))))))))))))
  | _ => .done
def pl250 : Nat → Plan
  | 10 => (.quiet 0 (.quiet 1 (.quiet 2 (.quiet 3 (.quiet 4 (.quiet 5 (.quiet 6 (.quiet 7 (.quiet 8 (.quiet 9 (.quiet 10 (.quiet 11 (.quiet 12 (.quiet 13 (.quiet 14 (.quiet 15 (.quiet 16 (.eff 17 [] (.quiet 18 (.eff 19 [] .done))))))))))))))))))))
  | _ => .done
def pl252 : Nat → Plan
  | 3 => (.quiet 0 (.quiet 1 (.quiet 2 (.quiet 3 (.quiet 4 (.quiet 5 (.quiet 6 (.quiet 7 (.quiet 8 (.quiet 9 (.quiet 10 (.quiet 11 (.quiet 12 (.eff 13 [] (.quiet 14 (.eff 15 [] .done))))))))))))))))
  | _ => .done
def pl253 : Nat → Plan
  | 5 => (.quiet 0 (.quiet 1 (.quiet 2 (.quiet 3 (.quiet 4 (.quiet 5 (.quiet 6 (.quiet 7 (.quiet 8 (.quiet 9 (.quiet 10 (.quiet 11 (.quiet 12 (.eff 13 [] (.quiet 14 (.quiet 15 .done))))))))))))))))
  | 11 => (.quiet 0 (.quiet 1 (.quiet 2 (.quiet 3 (.quiet 4 (.quiet 5 (.quiet 6 (.quiet 7 (.quiet 8 (.quiet 9 (.quiet 10 (.quiet 11 (.quiet 12 (.quiet 13 (.quiet 14 (.eff 15 [] (.quiet 16 (.eff 17 [] .done))))))))))))))))))
  | 16 => (.quiet 0 (.quiet 1 (.quiet 2 (.quiet 3 (.quiet 4 (.quiet 5 (.quiet 6 (.quiet 7 (.quiet 8 (.eff 9 [] (.quiet 10 .done)))))))))))
  | 17 => (.quiet 0 (.quiet 1 (.quiet 2 (.quiet 3 (.quiet 4 (.quiet 5 (.quiet 6 (.quiet 7 (.quiet 8 (.quiet 9 (.quiet 10 (.quiet 11 (.quiet 12 (.quiet 13 (.quiet 14 (.eff 15 [] (.quiet 16 (.eff 17 [] .done))))))))))))))))))
  | 22 => (.quiet 0 (.quiet 1 (.quiet 2 (.quiet 3 (.quiet 4 (.quiet 5 (.quiet 6 (.quiet 7 (.quiet 8 (.eff 9 [] (.quiet 10 .done)))))))))))
  | 23 => (.quiet 0 (.quiet 1 (.quiet 2 (.quiet 3 (.quiet 4 (.quiet 5 (.quiet 6 (.quiet 7 (.quiet 8 (.quiet 9 (.quiet 10 (.quiet 11 (.quiet 12 (.quiet 13 (.quiet 14 (.eff 15 [] (.quiet 16 (.eff 17 [] .done))))))))))))))))))
  | _ => .done
def pl255 : Nat → Plan
  | 1 => (.quiet 0 (.quiet 1 (.quiet 2 (.quiet 3 (.quiet 4 (.quiet 5 (.quiet 6 (.quiet 7 (.quiet 8 (.quiet 9 (.quiet 10 (.quiet 11 (.quiet 12 (.eff 13 [] (.quiet 14 (.eff 15 [] .done))))))))))))))))
  | 3 => (.quiet 0 (.quiet 1 (.quiet 2 (.quiet 3 (.quiet 4 (.quiet 5 (.quiet 6 (.quiet 7 (.quiet 8 (.quiet 9 (.quiet 10 (.quiet 11 (.eff 12 [] (.quiet 13 (.quiet 14 .done)))))))))))))))
  | 5 => (.quiet 0 (.quiet 1 (.quiet 2 (.quiet 3 (.quiet 4 (.quiet 5 (.quiet 6 (.quiet 7 (.quiet 8 (.quiet 9 (.quiet 10 (.quiet 11 (.eff 12 [] (.quiet 13 .done))))))))))))))
  | 8 => (.quiet 0 (.quiet 1 (.quiet 2 (.quiet 3 (.quiet 4 (.quiet 5 (.quiet 6 (.quiet 7 (.quiet 8 (.quiet 9 (.quiet 10 (.quiet 11 (.quiet 12 (.eff 13 [] (.quiet 14 (.eff 15 [] .done))))))))))))))))
  | _ => .done
def pl256 : Nat → Plan
  | 1 => (.quiet 0 (.quiet 1 (.quiet 2 (.quiet 3 (.quiet 4 (.quiet 5 (.quiet 6 (.quiet 7 (.quiet 8 (.quiet 9 (.quiet 10 (.quiet 11 (.quiet 12 (.eff 13 [] (.quiet 14 (.eff 15 [] .done))))))))))))))))
  | 3 => (.quiet 0 (.quiet 1 (.quiet 2 (.quiet 3 (.quiet 4 (.quiet 5 (.quiet 6 (.quiet 7 (.quiet 8 (.quiet 9 (.quiet 10 (.quiet 11 (.eff 12 [] (.quiet 13 .done))))))))))))))
  | 5 => (.quiet 0 (.quiet 1 (.quiet 2 (.quiet 3 (.quiet 4 (.quiet 5 (.quiet 6 (.quiet 7 (.quiet 8 (.quiet 9 (.quiet 10 (.quiet 11 (.eff 12 [] (.quiet 13 (.quiet 14 .done)))))))))))))))
  | 8 => (.quiet 0 (.quiet 1 (.quiet 2 (.quiet 3 (.quiet 4 (.quiet 5 (.quiet 6 (.quiet 7 (.quiet 8 (.quiet 9 (.quiet 10 (.quiet 11 (.quiet 12 (.eff 13 [] (.quiet 14 (.eff 15 [] .done))))))))))))))))
  | 10 => (.quiet 0 (.quiet 1 (.quiet 2 (.quiet 3 (.quiet 4 (.quiet 5 (.quiet 6 (.quiet 7 (.quiet 8 (.quiet 9 (.quiet 10 (.quiet 11 (.quiet 12 (.eff 13 [] (.quiet 14 (.eff 15 [] .done))))))))))))))))
  | 13 => (.quiet 0 (.quiet 1 (.quiet 2 (.quiet 3 (.quiet 4 (.quiet 5 (.quiet 6 (.quiet 7 (.quiet 8 (.quiet 9 (.quiet 10 (.quiet 11 (.eff 12 [] (.quiet 13 .done))))))))))))))
  | 15 => (.quiet 0 (.quiet 1 (.quiet 2 (.quiet 3 (.quiet 4 (.quiet 5 (.quiet 6 (.quiet 7 (.quiet 8 (.quiet 9 (.quiet 10 (.quiet 11 (.eff 12 [] (.quiet 13 (.quiet 14 .done)))))))))))))))
  | 18 => (.quiet 0 (.quiet 1 (.quiet 2 (.quiet 3 (.quiet 4 (.quiet 5 (.quiet 6 (.quiet 7 (.quiet 8 (.quiet 9 (.quiet 10 (.quiet 11 (.quiet 12 (.eff 13 [] (.quiet 14 (.eff 15 [] .done))))))))))))))))
  | 21 => (.quiet 0 (.quiet 1 (.quiet 2 (.quiet 3 (.quiet 4 (.quiet 5 (.quiet 6 (.quiet 7 (.quiet 8 (.quiet 9 (.quiet 10 (.quiet 11 (.quiet 12 (.eff 13 [] (.quiet 14 (.eff 15 [] .done))))))))))))))))
  | _ => .done
def pl257 : Nat → Plan
  | 1 => (.quiet 0 (.quiet 1 (.quiet 2 (.quiet 3 (.quiet 4 (.quiet 5 (.quiet 6 (.quiet 7 .done))))))))
  | _ => .done
def pl259 : Nat → Plan
  | 17 => (.quiet 0 (.quiet 1 (.quiet 2 (.quiet 3 (.quiet 4 (.quiet 5 (.quiet 6 (.quiet 7 (.quiet 8 (.quiet 9 (.quiet 10 (.quiet 11 (.eff 12 [] (.quiet 13 (.quiet 14 .done)))))))))))))))
  | _ => .done
def pl270 : Nat → Plan
  | 3 => (.quiet 0 (.quiet 1 (.quiet 2 (.quiet 3 (.quiet 4 (.quiet 5 (.quiet 6 (.quiet 7 (.quiet 8 (.quiet 9 (.quiet 10 (.quiet 11 (.quiet 12 (.quiet 13 (.quiet 14 (.quiet 15 (.quiet 16 .done)))))))))))))))))
  | 6 => (.quiet 0 (.quiet 1 (.quiet 2 (.quiet 3 (.quiet 4 (.quiet 5 (.quiet 6 (.quiet 7 (.quiet 8 (.quiet 9 (.quiet 10 (.quiet 11 (.quiet 12 (.quiet 13 (.quiet 14 (.quiet 15 (.quiet 16 (.quiet 17 (.quiet 18 (.quiet 19 (.quiet 20 .done)))))))))))))))))))))
  | 10 => (.quiet 0 (.quiet 1 (.quiet 2 (.quiet 3 (.quiet 4 (.quiet 5 (.quiet 6 (.quiet 7 (.quiet 8 (.quiet 11 (.eff 9 [4] (.eff 10 [] (.eff 12 [] (.quiet 13 (.quiet 14 (.eff 15 [] .done))))))))))))))))
  | _ => .done
def pl273 : Nat → Plan
  | 4 => (.quiet 0 (.quiet 1 (.quiet 2 (.quiet 3 (.quiet 4 (.quiet 5 (.quiet 6 (.quiet 7 (.quiet 8 (.quiet 9 (.quiet 10 (.quiet 11 (.quiet 12 (.quiet 13 (.eff 14 [] (.quiet 15 (.quiet 16 .done)))))))))))))))))
  | 6 => (.quiet 0 (.quiet 1 (.quiet 2 (.quiet 3 (.quiet 4 (.quiet 5 (.quiet 6 (.quiet 7 (.quiet 8 (.quiet 9 (.quiet 10 (.quiet 11 (.quiet 12 (.quiet 13 (.quiet 14 (.eff 15 [] (.quiet 16 (.eff 17 [] .done))))))))))))))))))
  | _ => .done
def pl274 : Nat → Plan
  | 10 => (.quiet 0 (.quiet 1 (.quiet 2 (.quiet 3 (.quiet 4 (.quiet 5 (.quiet 6 (.quiet 7 (.quiet 8 (.quiet 9 (.quiet 10 (.quiet 11 (.quiet 12 (.quiet 13 (.quiet 14 (.quiet 15 (.quiet 16 (.eff 17 [] (.quiet 18 (.eff 19 [] .done))))))))))))))))))))
  | _ => .done
def pl275 : Nat → Plan
  | 10 => (.quiet 0 (.quiet 1 (.quiet 2 (.quiet 3 (.quiet 4 (.quiet 5 (.quiet 6 (.quiet 7 (.quiet 8 (.quiet 9 (.quiet 10 (.quiet 11 (.quiet 12 (.quiet 13 (.quiet 14 (.quiet 15 (.quiet 16 (.eff 17 [] (.quiet 18 (.eff 19 [] .done))))))))))))))))))))
  | _ => .done
def pl277 : Nat → Plan
  | 3 => (.quiet 0 (.quiet 1 (.quiet 2 (.quiet 3 (.quiet 4 (.quiet 5 (.quiet 6 (.quiet 7 (.quiet 8 (.quiet 9 (.quiet 10 (.quiet 11 (.quiet 12 (.eff 13 [] (.quiet 14 (.eff 15 [] .done))))))))))))))))
  | _ => .done
def pl278 : Nat → Plan
  | 5 => (.quiet 0 (.quiet 1 (.quiet 2 (.quiet 3 (.quiet 4 (.quiet 5 (.quiet 6 (.quiet 7 (.quiet 8 (.quiet 9 (.quiet 10 (.quiet 11 (.quiet 12 (.quiet 13 (.eff 14 [] (.quiet 15 (.quiet 16 (.quiet 17 .done))))))))))))))))))
  | 11 => (.quiet 0 (.quiet 1 (.quiet 2 (.quiet 3 (.quiet 4 (.quiet 5 (.quiet 6 (.quiet 7 (.quiet 8 (.quiet 9 (.quiet 10 (.quiet 11 (.quiet 12 (.quiet 13 (.quiet 14 (.eff 15 [] (.quiet 16 (.eff 17 [] .done))))))))))))))))))
  | 16 => (.quiet 0 (.quiet 1 (.quiet 2 (.quiet 3 (.quiet 4 (.quiet 5 (.quiet 6 (.quiet 7 (.quiet 8 (.quiet 9 (.eff 10 [] (.quiet 11 (.quiet 12 .done)))))))))))))
  | 17 => (.quiet 0 (.quiet 1 (.quiet 2 (.quiet 3 (.quiet 4 (.quiet 5 (.quiet 6 (.quiet 7 (.quiet 8 (.quiet 9 (.quiet 10 (.quiet 11 (.quiet 12 (.quiet 13 (.quiet 14 (.eff 15 [] (.quiet 16 (.eff 17 [] .done))))))))))))))))))
  | 22 => (.quiet 0 (.quiet 1 (.quiet 2 (.quiet 3 (.quiet 4 (.quiet 5 (.quiet 6 (.quiet 7 (.quiet 8 (.quiet 9 (.eff 10 [] (.quiet 11 (.quiet 12 .done)))))))))))))
  | 23 => (.quiet 0 (.quiet 1 (.quiet 2 (.quiet 3 (.quiet 4 (.quiet 5 (.quiet 6 (.quiet 7 (.quiet 8 (.quiet 9 (.quiet 10 (.quiet 11 (.quiet 12 (.quiet 13 (.quiet 14 (.eff 15 [] (.quiet 16 (.eff 17 [] .done))))))))))))))))))
  | _ => .done
def pl279 : Nat → Plan
  | 1 => (.quiet 0 (.quiet 1 (.quiet 2 (.quiet 3 (.quiet 4 (.quiet 5 (.quiet 6 (.quiet 7 (.quiet 8 (.quiet 9 (.quiet 10 (.quiet 11 (.quiet 12 (.eff 13 [] (.quiet 14 (.eff 15 [] .done))))))))))))))))
  | 3 => (.quiet 0 (.quiet 1 (.quiet 2 (.quiet 3 (.quiet 4 (.quiet 5 (.quiet 6 (.quiet 7 (.quiet 8 (.quiet 9 (.quiet 10 (.quiet 11 (.quiet 12 (.eff 13 [] (.quiet 14 (.quiet 15 (.quiet 16 .done)))))))))))))))))
  | 5 => (.quiet 0 (.quiet 1 (.quiet 2 (.quiet 3 (.quiet 4 (.quiet 5 (.quiet 6 (.quiet 7 (.quiet 8 (.quiet 9 (.quiet 10 (.quiet 11 (.quiet 12 (.eff 13 [] (.quiet 14 (.quiet 15 .done))))))))))))))))
  | 8 => (.quiet 0 (.quiet 1 (.quiet 2 (.quiet 3 (.quiet 4 (.quiet 5 (.quiet 6 (.quiet 7 (.quiet 8 (.quiet 9 (.quiet 10 (.quiet 11 (.quiet 12 (.eff 13 [] (.quiet 14 (.eff 15 [] .done))))))))))))))))
  | _ => .done
def pl280 : Nat → Plan
  | 1 => (.quiet 0 (.quiet 1 (.quiet 2 (.quiet 3 (.quiet 4 (.quiet 5 (.quiet 6 (.quiet 7 (.quiet 8 (.quiet 9 (.quiet 10 (.quiet 11 (.quiet 12 (.eff 13 [] (.quiet 14 (.eff 15 [] .done))))))))))))))))
  | 3 => (.quiet 0 (.quiet 1 (.quiet 2 (.quiet 3 (.quiet 4 (.quiet 5 (.quiet 6 (.quiet 7 (.quiet 8 (.quiet 9 (.quiet 10 (.quiet 11 (.quiet 12 (.eff 13 [] (.quiet 14 (.quiet 15 .done))))))))))))))))
  | 5 => (.quiet 0 (.quiet 1 (.quiet 2 (.quiet 3 (.quiet 4 (.quiet 5 (.quiet 6 (.quiet 7 (.quiet 8 (.quiet 9 (.quiet 10 (.quiet 11 (.quiet 12 (.eff 13 [] (.quiet 14 (.quiet 15 (.quiet 16 .done)))))))))))))))))
  | 8 => (.quiet 0 (.quiet 1 (.quiet 2 (.quiet 3 (.quiet 4 (.quiet 5 (.quiet 6 (.quiet 7 (.quiet 8 (.quiet 9 (.quiet 10 (.quiet 11 (.quiet 12 (.eff 13 [] (.quiet 14 (.eff 15 [] .done))))))))))))))))
  | 10 => (.quiet 0 (.quiet 1 (.quiet 2 (.quiet 3 (.quiet 4 (.quiet 5 (.quiet 6 (.quiet 7 (.quiet 8 (.quiet 9 (.quiet 10 (.quiet 11 (.quiet 12 (.eff 13 [] (.quiet 14 (.eff 15 [] .done))))))))))))))))
  | 13 => (.quiet 0 (.quiet 1 (.quiet 2 (.quiet 3 (.quiet 4 (.quiet 5 (.quiet 6 (.quiet 7 (.quiet 8 (.quiet 9 (.quiet 10 (.quiet 11 (.quiet 12 (.eff 13 [] (.quiet 14 (.quiet 15 .done))))))))))))))))
  | 15 => (.quiet 0 (.quiet 1 (.quiet 2 (.quiet 3 (.quiet 4 (.quiet 5 (.quiet 6 (.quiet 7 (.quiet 8 (.quiet 9 (.quiet 10 (.quiet 11 (.quiet 12 (.eff 13 [] (.quiet 14 (.quiet 15 (.quiet 16 .done)))))))))))))))))
  | 18 => (.quiet 0 (.quiet 1 (.quiet 2 (.quiet 3 (.quiet 4 (.quiet 5 (.quiet 6 (.quiet 7 (.quiet 8 (.quiet 9 (.quiet 10 (.quiet 11 (.quiet 12 (.eff 13 [] (.quiet 14 (.eff 15 [] .done))))))))))))))))
  | 21 => (.quiet 0 (.quiet 1 (.quiet 2 (.quiet 3 (.quiet 4 (.quiet 5 (.quiet 6 (.quiet 7 (.quiet 8 (.quiet 9 (.quiet 10 (.quiet 11 (.quiet 12 (.eff 13 [] (.quiet 14 (.eff 15 [] .done))))))))))))))))
  | _ => .done
def pl281 : Nat → Plan
  | 4 => (.quiet 0 (.quiet 1 (.quiet 2 (.quiet 3 (.quiet 4 (.quiet 5 (.quiet 6 (.quiet 7 (.quiet 8 (.quiet 9 (.quiet 10 (.quiet 11 (.quiet 12 (.quiet 13 (.eff 14 [] (.quiet 15 (.quiet 16 .done)))))))))))))))))
  | 6 => (.quiet 0 (.quiet 1 (.quiet 2 (.quiet 3 (.quiet 4 (.quiet 5 (.quiet 6 (.quiet 7 (.quiet 8 (.quiet 9 (.quiet 10 (.quiet 11 (.quiet 12 (.quiet 13 (.quiet 14 (.eff 15 [] (.quiet 16 (.eff 17 [] .done))))))))))))))))))
  | _ => .done
def pl282 : Nat → Plan
  | 10 => (.quiet 0 (.quiet 1 (.quiet 2 (.quiet 3 (.quiet 4 (.quiet 5 (.quiet 6 (.quiet 7 (.quiet 8 (.quiet 9 (.quiet 10 (.quiet 11 (.quiet 12 (.quiet 13 (.quiet 14 (.quiet 15 (.quiet 16 (.eff 17 [] (.quiet 18 (.eff 19 [] .done))))))))))))))))))))
  | _ => .done
def pl283 : Nat → Plan
  | 10 => (.quiet 0 (.quiet 1 (.quiet 2 (.quiet 3 (.quiet 4 (.quiet 5 (.quiet 6 (.quiet 7 (.quiet 8 (.quiet 9 (.quiet 10 (.quiet 11 (.quiet 12 (.quiet 13 (.quiet 14 (.quiet 15 (.quiet 16 (.eff 17 [] (.quiet 18 (.eff 19 [] .done))))))))))))))))))))
  | _ => .done
def pl285 : Nat → Plan
  | 3 => (.quiet 0 (.quiet 1 (.quiet 2 (.quiet 3 (.quiet 4 (.quiet 5 (.quiet 6 (.quiet 7 (.quiet 8 (.quiet 9 (.quiet 10 (.quiet 11 (.quiet 12 (.eff 13 [] (.quiet 14 (.eff 15 [] .done))))))))))))))))
  | _ => .done
def pl286 : Nat → Plan
  | 5 => (.quiet 0 (.quiet 1 (.quiet 2 (.quiet 3 (.quiet 4 (.quiet 5 (.quiet 6 (.quiet 7 (.quiet 8 (.quiet 9 (.quiet 10 (.quiet 11 (.quiet 12 (.quiet 13 (.eff 14 [] (.quiet 15 (.quiet 16 (.quiet 17 .done))))))))))))))))))
  | 11 => (.quiet 0 (.quiet 1 (.quiet 2 (.quiet 3 (.quiet 4 (.quiet 5 (.quiet 6 (.quiet 7 (.quiet 8 (.quiet 9 (.quiet 10 (.quiet 11 (.quiet 12 (.quiet 13 (.quiet 14 (.eff 15 [] (.quiet 16 (.eff 17 [] .done))))))))))))))))))
  | 16 => (.quiet 0 (.quiet 1 (.quiet 2 (.quiet 3 (.quiet 4 (.quiet 5 (.quiet 6 (.quiet 7 (.quiet 8 (.quiet 9 (.eff 10 [] (.quiet 11 (.quiet 12 .done)))))))))))))
  | 17 => (.quiet 0 (.quiet 1 (.quiet 2 (.quiet 3 (.quiet 4 (.quiet 5 (.quiet 6 (.quiet 7 (.quiet 8 (.quiet 9 (.quiet 10 (.quiet 11 (.quiet 12 (.quiet 13 (.quiet 14 (.eff 15 [] (.quiet 16 (.eff 17 [] .done))))))))))))))))))
  | 22 => (.quiet 0 (.quiet 1 (.quiet 2 (.quiet 3 (.quiet 4 (.quiet 5 (.quiet 6 (.quiet 7 (.quiet 8 (.quiet 9 (.eff 10 [] (.quiet 11 (.quiet 12 .done)))))))))))))
  | 23 => (.quiet 0 (.quiet 1 (.quiet 2 (.quiet 3 (.quiet 4 (.quiet 5 (.quiet 6 (.quiet 7 (.quiet 8 (.quiet 9 (.quiet 10 (.quiet 11 (.quiet 12 (.quiet 13 (.quiet 14 (.eff 15 [] (.quiet 16 (.eff 17 [] .done))))))))))))))))))
  | _ => .done
def pl287 : Nat → Plan
  | 1 => (.quiet 0 (.quiet 1 (.quiet 2 (.quiet 3 (.quiet 4 (.quiet 5 (.quiet 6 (.quiet 7 (.quiet 8 (.quiet 9 (.quiet 10 (.quiet 11 (.quiet 12 (.eff 13 [] (.quiet 14 (.eff 15 [] .done))))))))))))))))
  | 3 => (.quiet 0 (.quiet 1 (.quiet 2 (.quiet 3 (.quiet 4 (.quiet 5 (.quiet 6 (.quiet 7 (.quiet 8 (.quiet 9 (.quiet 10 (.quiet 11 (.quiet 12 (.eff 13 [] (.quiet 14 (.quiet 15 (.quiet 16 .done)))))))))))))))))
  | 5 => (.quiet 0 (.quiet 1 (.quiet 2 (.quiet 3 (.quiet 4 (.quiet 5 (.quiet 6 (.quiet 7 (.quiet 8 (.quiet 9 (.quiet 10 (.quiet 11 (.quiet 12 (.eff 13 [] (.quiet 14 (.quiet 15 .done))))))))))))))))
  | 8 => (.quiet 0 (.quiet 1 (.quiet 2 (.quiet 3 (.quiet 4 (.quiet 5 (.quiet 6 (.quiet 7 (.quiet 8 (.quiet 9 (.quiet 10 (.quiet 11 (.quiet 12 (.eff 13 [] (.quiet 14 (.eff 15 [] .done))))))))))))))))
  | _ => .done
def pl288 : Nat → Plan
  | 1 => (.quiet 0 (.quiet 1 (.quiet 2 (.quiet 3 (.quiet 4 (.quiet 5 (.quiet 6 (.quiet 7 (.quiet 8 (.quiet 9 (.quiet 10 (.quiet 11 (.quiet 12 (.eff 13 [] (.quiet 14 (.eff 15 [] .done))))))))))))))))
  | 3 => (.quiet 0 (.quiet 1 (.quiet 2 (.quiet 3 (.quiet 4 (.quiet 5 (.quiet 6 (.quiet 7 (.quiet 8 (.quiet 9 (.quiet 10 (.quiet 11 (.quiet 12 (.eff 13 [] (.quiet 14 (.quiet 15 .done))))))))))))))))
  | 5 => (.quiet 0 (.quiet 1 (.quiet 2 (.quiet 3 (.quiet 4 (.quiet 5 (.quiet 6 (.quiet 7 (.quiet 8 (.quiet 9 (.quiet 10 (.quiet 11 (.quiet 12 (.eff 13 [] (.quiet 14 (.quiet 15 (.quiet 16 .done)))))))))))))))))
  | 8 => (.quiet 0 (.quiet 1 (.quiet 2 (.quiet 3 (.quiet 4 (.quiet 5 (.quiet 6 (.quiet 7 (.quiet 8 (.quiet 9 (.quiet 10 (.quiet 11 (.quiet 12 (.eff 13 [] (.quiet 14 (.eff 15 [] .done))))))))))))))))
  | 10 => (.quiet 0 (.quiet 1 (.quiet 2 (.quiet 3 (.quiet 4 (.quiet 5 (.quiet 6 (.quiet 7 (.quiet 8 (.quiet 9 (.quiet 10 (.quiet 11 (.quiet 12 (.eff 13 [] (.quiet 14 (.eff 15 [] .done))))))))))))))))
  | 13 => (.quiet 0 (.quiet 1 (.quiet 2 (.quiet 3 (.quiet 4 (.quiet 5 (.quiet 6 (.quiet 7 (.quiet 8 (.quiet 9 (.quiet 10 (.quiet 11 (.quiet 12 (.eff 13 [] (.quiet 14 (.quiet 15 .done))))))))))))))))
  | 15 => (.quiet 0 (.quiet 1 (.quiet 2 (.quiet 3 (.quiet 4 (.quiet 5 (.quiet 6 (.quiet 7 (.quiet 8 (.quiet 9 (.quiet 10 (.quiet 11 (.quiet 12 (.eff 13 [] (.quiet 14 (.quiet 15 (.quiet 16 .done)))))))))))))))))
  | 18 => (.quiet 0 (.quiet 1 (.quiet 2 (.quiet 3 (.quiet 4 (.quiet 5 (.quiet 6 (.quiet 7 (.quiet 8 (.quiet 9 (.quiet 10 (.quiet 11 (.quiet 12 (.eff 13 [] (.quiet 14 (.eff 15 [] .done))))))))))))))))
  | 21 => (.quiet 0 (.quiet 1 (.quiet 2 (.quiet 3 (.quiet 4 (.quiet 5 (.quiet 6 (.quiet 7 (.quiet 8 (.quiet 9 (.quiet 10 (.quiet 11 (.quiet 12 (.eff 13 [] (.quiet 14 (.eff 15 [] .done))))))))))))))))
  | _ => .done
def pl289 : Nat → Plan
  | 3 => (.quiet 0 (.quiet 1 (.quiet 2 (.quiet 3 (.quiet 4 (.quiet 5 (.quiet 6 (.quiet 7 (.quiet 8 (.quiet 9 (.quiet 10 (.quiet 11 (.quiet 12 (.quiet 13 (.quiet 14 (.quiet 15 (.quiet 16 (.quiet 17 (.eff 18 [] (.quiet 19 .done))))))))))))))))))))
  | 5 => (.quiet 0 (.quiet 1 (.quiet 2 (.quiet 3 (.quiet 4 (.quiet 5 (.quiet 6 (.quiet 7 (.quiet 8 (.quiet 9 (.quiet 10 (.quiet 11 (.eff 12 [] (.quiet 13 .done))))))))))))))
  | 6 => (.quiet 0 (.quiet 1 (.quiet 2 (.quiet 3 (.quiet 4 (.quiet 5 (.quiet 6 (.quiet 7 (.quiet 8 (.quiet 9 (.quiet 10 (.quiet 11 (.quiet 12 (.quiet 13 (.quiet 14 (.quiet 15 (.quiet 16 (.quiet 17 (.quiet 18 (.quiet 19 (.quiet 20 (.eff 21 [] (.quiet 22 (.eff 23 [] .done))))))))))))))))))))))))
  | _ => .done
def pl291 : Nat → Plan
  | 1 => (.quiet 0 (.quiet 1 (.quiet 2 (.quiet 3 (.quiet 4 (.quiet 5 (.quiet 6 (.quiet 7 (.quiet 8 (.eff 9 [] .done))))))))))
  | 2 => (.quiet 0 (.quiet 1 (.quiet 2 (.quiet 3 (.quiet 4 (.quiet 5 (.quiet 6 (.quiet 7 (.quiet 8 (.eff 9 [] .done))))))))))
  | 3 => (.quiet 0 (.quiet 1 (.quiet 2 (.quiet 3 (.quiet 4 (.quiet 5 (.quiet 6 (.quiet 7 (.quiet 8 (.eff 9 [] .done))))))))))
  | _ => .done
def pl294 : Nat → Plan
  | 3 => (.quiet 0 (.quiet 1 (.quiet 2 (.quiet 3 (.quiet 4 (.quiet 5 (.quiet 6 (.quiet 7 (.quiet 8 (.quiet 9 (.quiet 10 (.quiet 11 (.quiet 12 (.quiet 13 (.quiet 14 (.quiet 15 (.quiet 16 (.quiet 17 (.eff 18 [] (.quiet 19 .done))))))))))))))))))))
  | 5 => (.quiet 0 (.quiet 1 (.quiet 2 (.quiet 3 (.quiet 4 (.quiet 5 (.quiet 6 (.quiet 7 (.quiet 8 (.quiet 9 (.quiet 10 (.quiet 11 (.eff 12 [] (.quiet 13 .done))))))))))))))
  | 6 => (.quiet 0 (.quiet 1 (.quiet 2 (.quiet 3 (.quiet 4 (.quiet 5 (.quiet 6 (.quiet 7 (.quiet 8 (.quiet 9 (.quiet 10 (.quiet 11 (.quiet 12 (.quiet 13 (.quiet 14 (.quiet 15 (.quiet 16 (.quiet 17 (.quiet 18 (.quiet 19 (.quiet 20 (.eff 21 [] (.quiet 22 (.eff 23 [] .done))))))))))))))))))))))))
  | _ => .done
def pl298 : Nat → Plan
  | 4 => (.quiet 0 (.quiet 1 (.quiet 2 (.quiet 3 (.quiet 4 (.quiet 5 (.quiet 6 (.quiet 7 (.quiet 8 (.quiet 9 (.quiet 10 (.quiet 11 (.quiet 12 (.eff 13 [] (.quiet 14 .done)))))))))))))))
  | 6 => (.quiet 0 (.quiet 1 (.quiet 2 (.quiet 3 (.quiet 4 (.quiet 5 (.quiet 6 (.quiet 7 (.quiet 8 (.quiet 9 (.quiet 10 (.quiet 11 (.quiet 12 (.quiet 13 (.quiet 14 (.eff 15 [] (.quiet 16 (.eff 17 [] .done))))))))))))))))))
  | _ => .done
def pl299 : Nat → Plan
  | 10 => (.quiet 0 (.quiet 1 (.quiet 2 (.quiet 3 (.quiet 4 (.quiet 5 (.quiet 6 (.quiet 7 (.quiet 8 (.quiet 9 (.quiet 10 (.quiet 11 (.quiet 12 (.quiet 13 (.quiet 14 (.quiet 15 (.quiet 16 (.eff 17 [] (.quiet 18 (.eff 19 [] .done))))))))))))))))))))
  | _ => .done
def pl300 : Nat → Plan
  | 10 => (.quiet 0 (.quiet 1 (.quiet 2 (.quiet 3 (.quiet 4 (.quiet 5 (.quiet 6 (.quiet 7 (.quiet 8 (.quiet 9 (.quiet 10 (.quiet 11 (.quiet 12 (.quiet 13 (.quiet 14 (.quiet 15 (.quiet 16 (.eff 17 [] (.quiet 18 (.eff 19 [] .done))))))))))))))))))))
  | _ => .done
def pl302 : Nat → Plan
  | 3 => (.quiet 0 (.quiet 1 (.quiet 2 (.quiet 3 (.quiet 4 (.quiet 5 (.quiet 6 (.quiet 7 (.quiet 8 (.quiet 9 (.quiet 10 (.quiet 11 (.quiet 12 (.eff 13 [] (.quiet 14 (.eff 15 [] .done))))))))))))))))
  | _ => .done
def pl303 : Nat → Plan
  | 5 => (.quiet 0 (.quiet 1 (.quiet 2 (.quiet 3 (.quiet 4 (.quiet 5 (.quiet 6 (.quiet 7 (.quiet 8 (.quiet 9 (.quiet 10 (.quiet 11 (.quiet 12 (.eff 13 [] (.quiet 14 (.quiet 15 .done))))))))))))))))
  | 11 => (.quiet 0 (.quiet 1 (.quiet 2 (.quiet 3 (.quiet 4 (.quiet 5 (.quiet 6 (.quiet 7 (.quiet 8 (.quiet 9 (.quiet 10 (.quiet 11 (.quiet 12 (.quiet 13 (.quiet 14 (.eff 15 [] (.quiet 16 (.eff 17 [] .done))))))))))))))))))
  | 16 => (.quiet 0 (.quiet 1 (.quiet 2 (.quiet 3 (.quiet 4 (.quiet 5 (.quiet 6 (.quiet 7 (.quiet 8 (.eff 9 [] (.quiet 10 .done)))))))))))
  | 17 => (.quiet 0 (.quiet 1 (.quiet 2 (.quiet 3 (.quiet 4 (.quiet 5 (.quiet 6 (.quiet 7 (.quiet 8 (.quiet 9 (.quiet 10 (.quiet 11 (.quiet 12 (.quiet 13 (.quiet 14 (.eff 15 [] (.quiet 16 (.eff 17 [] .done))))))))))))))))))
  | 22 => (.quiet 0 (.quiet 1 (.quiet 2 (.quiet 3 (.quiet 4 (.quiet 5 (.quiet 6 (.quiet 7 (.quiet 8 (.eff 9 [] (.quiet 10 .done)))))))))))
  | 23 => (.quiet 0 (.quiet 1 (.quiet 2 (.quiet 3 (.quiet 4 (.quiet 5 (.quiet 6 (.quiet 7 (.quiet 8 (.quiet 9 (.quiet 10 (.quiet 11 (.quiet 12 (.quiet 13 (.quiet 14 (.eff 15 [] (.quiet 16 (.eff 17 [] .done))))))))))))))))))
  | _ => .done
def pl305 : Nat → Plan
  | 1 => (.quiet 0 (.quiet 1 (.quiet 2 (.quiet 3 (.quiet 4 (.quiet 5 (.quiet 6 (.quiet 7 (.quiet 8 (.quiet 9 (.quiet 10 (.quiet 11 (.quiet 12 (.eff 13 [] (.quiet 14 (.eff 15 [] .done))))))))))))))))
  | 3 => (.quiet 0 (.quiet 1 (.quiet 2 (.quiet 3 (.quiet 4 (.quiet 5 (.quiet 6 (.quiet 7 (.quiet 8 (.quiet 9 (.quiet 10 (.quiet 11 (.eff 12 [] (.quiet 13 (.quiet 14 .done)))))))))))))))
  | 5 => (.quiet 0 (.quiet 1 (.quiet 2 (.quiet 3 (.quiet 4 (.quiet 5 (.quiet 6 (.quiet 7 (.quiet 8 (.quiet 9 (.quiet 10 (.quiet 11 (.eff 12 [] (.quiet 13 .done))))))))))))))
  | 8 => (.quiet 0 (.quiet 1 (.quiet 2 (.quiet 3 (.quiet 4 (.quiet 5 (.quiet 6 (.quiet 7 (.quiet 8 (.quiet 9 (.quiet 10 (.quiet 11 (.quiet 12 (.eff 13 [] (.quiet 14 (.eff 15 [] .done))))))))))))))))
  | _ => .done
def pl306 : Nat → Plan
  | 1 => (.quiet 0 (.quiet 1 (.quiet 2 (.quiet 3 (.quiet 4 (.quiet 5 (.quiet 6 (.quiet 7 (.quiet 8 (.quiet 9 (.quiet 10 (.quiet 11 (.quiet 12 (.eff 13 [] (.quiet 14 (.eff 15 [] .done))))))))))))))))
  | 3 => (.quiet 0 (.quiet 1 (.quiet 2 (.quiet 3 (.quiet 4 (.quiet 5 (.quiet 6 (.quiet 7 (.quiet 8 (.quiet 9 (.quiet 10 (.quiet 11 (.eff 12 [] (.quiet 13 .done))))))))))))))
  | 5 => (.quiet 0 (.quiet 1 (.quiet 2 (.quiet 3 (.quiet 4 (.quiet 5 (.quiet 6 (.quiet 7 (.quiet 8 (.quiet 9 (.quiet 10 (.quiet 11 (.eff 12 [] (.quiet 13 (.quiet 14 .done)))))))))))))))
  | 8 => (.quiet 0 (.quiet 1 (.quiet 2 (.quiet 3 (.quiet 4 (.quiet 5 (.quiet 6 (.quiet 7 (.quiet 8 (.quiet 9 (.quiet 10 (.quiet 11 (.quiet 12 (.eff 13 [] (.quiet 14 (.eff 15 [] .done))))))))))))))))
  | 10 => (.quiet 0 (.quiet 1 (.quiet 2 (.quiet 3 (.quiet 4 (.quiet 5 (.quiet 6 (.quiet 7 (.quiet 8 (.quiet 9 (.quiet 10 (.quiet 11 (.quiet 12 (.eff 13 [] (.quiet 14 (.eff 15 [] .done))))))))))))))))
  | 13 => (.quiet 0 (.quiet 1 (.quiet 2 (.quiet 3 (.quiet 4 (.quiet 5 (.quiet 6 (.quiet 7 (.quiet 8 (.quiet 9 (.quiet 10 (.quiet 11 (.eff 12 [] (.quiet 13 .done))))))))))))))
  | 15 => (.quiet 0 (.quiet 1 (.quiet 2 (.quiet 3 (.quiet 4 (.quiet 5 (.quiet 6 (.quiet 7 (.quiet 8 (.quiet 9 (.quiet 10 (.quiet 11 (.eff 12 [] (.quiet 13 (.quiet 14 .done)))))))))))))))
  | 18 => (.quiet 0 (.quiet 1 (.quiet 2 (.quiet 3 (.quiet 4 (.quiet 5 (.quiet 6 (.quiet 7 (.quiet 8 (.quiet 9 (.quiet 10 (.quiet 11 (.quiet 12 (.eff 13 [] (.quiet 14 (.eff 15 [] .done))))))))))))))))
  | 21 => (.quiet 0 (.quiet 1 (.quiet 2 (.quiet 3 (.quiet 4 (.quiet 5 (.quiet 6 (.quiet 7 (.quiet 8 (.quiet 9 (.quiet 10 (.quiet 11 (.quiet 12 (.eff 13 [] (.quiet 14 (.eff 15 [] .done))))))))))))))))
  | _ => .done
def pl311 : Nat → Plan
  | 6 => (.quiet 0 (.quiet 1 (.quiet 2 (.quiet 3 (.quiet 4 (.quiet 5 (.quiet 6 (.quiet 7 (.quiet 8 (.quiet 9 .done))))))))))
  | 11 => (.quiet 0 (.quiet 1 (.quiet 2 (.quiet 3 (.quiet 4 (.quiet 5 (.quiet 6 (.quiet 7 (.quiet 8 (.quiet 9 .done))))))))))
  | _ => .done
def pl313 : Nat → Plan
  | 3 => (.quiet 0 (.quiet 1 (.quiet 2 (.quiet 3 (.quiet 4 (.quiet 5 (.quiet 6 (.quiet 7 (.quiet 8 (.quiet 9 (.quiet 10 (.quiet 11 (.quiet 12 (.quiet 13 (.quiet 14 (.quiet 15 (.quiet 16 (.quiet 17 (.quiet 18 (.eff 19 [] (.quiet 20 (.quiet 21 .done))))))))))))))))))))))
  | 5 => (.quiet 0 (.quiet 1 (.quiet 2 (.quiet 3 (.quiet 4 (.quiet 5 (.quiet 6 (.quiet 7 (.quiet 8 (.quiet 9 (.quiet 10 (.quiet 11 (.quiet 12 (.eff 13 [] (.quiet 14 (.quiet 15 .done))))))))))))))))
  | 6 => (.quiet 0 (.quiet 1 (.quiet 2 (.quiet 3 (.quiet 4 (.quiet 5 (.quiet 6 (.quiet 7 (.quiet 8 (.quiet 9 (.quiet 10 (.quiet 11 (.quiet 12 (.quiet 13 (.quiet 14 (.quiet 15 (.quiet 16 (.quiet 17 (.quiet 18 (.quiet 19 (.quiet 20 (.eff 21 [] (.quiet 22 (.eff 23 [] .done))))))))))))))))))))))))
  | _ => .done
def pl316 : Nat → Plan
  | 3 => (.quiet 0 (.quiet 1 (.quiet 2 (.quiet 3 (.quiet 4 (.quiet 5 (.quiet 6 (.quiet 7 (.quiet 8 (.quiet 9 (.quiet 10 (.quiet 11 (.quiet 12 (.quiet 13 (.quiet 14 (.quiet 15 (.quiet 16 (.quiet 17 (.quiet 18 (.eff 19 [] (.quiet 20 (.quiet 21 .done))))))))))))))))))))))
  | 5 => (.quiet 0 (.quiet 1 (.quiet 2 (.quiet 3 (.quiet 4 (.quiet 5 (.quiet 6 (.quiet 7 (.quiet 8 (.quiet 9 (.quiet 10 (.quiet 11 (.quiet 12 (.eff 13 [] (.quiet 14 (.quiet 15 .done))))))))))))))))
  | 6 => (.quiet 0 (.quiet 1 (.quiet 2 (.quiet 3 (.quiet 4 (.quiet 5 (.quiet 6 (.quiet 7 (.quiet 8 (.quiet 9 (.quiet 10 (.quiet 11 (.quiet 12 (.quiet 13 (.quiet 14 (.quiet 15 (.quiet 16 (.quiet 17 (.quiet 18 (.quiet 19 (.quiet 20 (.eff 21 [] (.quiet 22 (.eff 23 [] .done))))))))))))))))))))))))
  | _ => .done
def pl319 : Nat → Plan
  | 1 => (.quiet 0 (.quiet 1 (.quiet 2 (.quiet 3 (.quiet 4 (.quiet 5 (.quiet 6 (.quiet 7 (.eff 8 [] .done)))))))))
  | _ => .done
def pl320 : Nat → Plan
  | 1 => (.quiet 0 (.quiet 1 (.quiet 2 (.quiet 3 (.quiet 4 (.quiet 5 (.quiet 6 (.quiet 7 (.eff 8 [] .done)))))))))
  | _ => .done
def pl321 : Nat → Plan
  | 3 => (.quiet 0 (.quiet 1 (.quiet 2 (.quiet 3 (.quiet 4 (.quiet 5 (.quiet 6 (.quiet 7 (.quiet 8 (.quiet 9 (.quiet 10 (.quiet 11 (.quiet 12 (.quiet 13 (.quiet 14 (.quiet 15 (.quiet 16 (.quiet 17 (.eff 18 [] (.quiet 19 .done))))))))))))))))))))
  | 5 => (.quiet 0 (.quiet 1 (.quiet 2 (.quiet 3 (.quiet 4 (.quiet 5 (.quiet 6 (.quiet 7 (.quiet 8 (.quiet 9 (.quiet 10 (.quiet 11 (.eff 12 [] (.quiet 13 .done))))))))))))))
  | 6 => (.quiet 0 (.quiet 1 (.quiet 2 (.quiet 3 (.quiet 4 (.quiet 5 (.quiet 6 (.quiet 7 (.quiet 8 (.quiet 9 (.quiet 10 (.quiet 11 (.quiet 12 (.quiet 13 (.quiet 14 (.quiet 15 (.quiet 16 (.quiet 17 (.quiet 18 (.quiet 19 (.quiet 20 (.eff 21 [] (.quiet 22 (.eff 23 [] .done))))))))))))))))))))))))
  | _ => .done
def pl329 : Nat → Plan
  | 3 => (.quiet 0 (.quiet 1 (.quiet 2 (.quiet 3 (.quiet 4 (.quiet 5 (.quiet 6 (.quiet 7 (.quiet 8 (.quiet 9 (.quiet 10 (.quiet 11 (.quiet 12 (.eff 13 [] (.quiet 14 (.eff 15 [] .done))))))))))))))))
  | _ => .done
def pl330 : Nat → Plan
  | 1 => (.quiet 0 (.quiet 1 (.quiet 2 (.quiet 3 (.quiet 4 (.quiet 5 (.quiet 6 (.quiet 7 (.quiet 8 (.eff 9 [] (.quiet 10 .done)))))))))))
  | _ => .done
def pl331 : Nat → Plan
  | 1 => (.quiet 0 (.quiet 1 (.quiet 2 (.quiet 3 (.quiet 4 (.quiet 5 (.quiet 6 (.quiet 7 (.quiet 8 (.eff 9 [] (.quiet 10 .done)))))))))))
  | _ => .done
def pl332 : Nat → Plan
  | 1 => (.quiet 0 (.quiet 1 (.quiet 2 (.quiet 3 (.quiet 4 (.quiet 5 (.quiet 6 (.quiet 7 (.eff 8 [] .done)))))))))
  | _ => .done
def pls : Nat → Nat → Plan
  | 11 => pl11
  | 13 => pl13
  | 17 => pl17
  | 18 => pl18
  | 24 => pl24
  | 27 => pl27
  | 35 => pl35
  | 37 => pl37
  | 64 => pl64
  | 67 => pl67
  | 75 => pl75
  | 76 => pl76
  | 77 => pl77
  | 91 => pl91
  | 92 => pl92
  | 93 => pl93
  | 94 => pl94
  | 95 => pl95
  | 96 => pl96
  | 97 => pl97
  | 99 => pl99
  | 121 => pl121
  | 147 => pl147
  | 148 => pl148
  | 162 => pl162
  | 164 => pl164
  | 165 => pl165
  | 166 => pl166
  | 169 => pl169
  | 170 => pl170
  | 173 => pl173
  | 174 => pl174
  | 189 => pl189
  | 196 => pl196
  | 225 => pl225
  | 230 => pl230
  | 231 => pl231
  | 234 => pl234
  | 236 => pl236
  | 237 => pl237
  | 238 => pl238
  | 239 => pl239
  | 241 => pl241
  | 242 => pl242
  | 244 => pl244
  | 245 => pl245
  | 248 => pl248
  | 249 => pl249
  | 250 => pl250
  | 252 => pl252
  | 253 => pl253
  | 255 => pl255
  | 256 => pl256
  | 257 => pl257
  | 259 => pl259
  | 270 => pl270
  | 273 => pl273
  | 274 => pl274
  | 275 => pl275
  | 277 => pl277
  | 278 => pl278
  | 279 => pl279
  | 280 => pl280
  | 281 => pl281
  | 282 => pl282
  | 283 => pl283
  | 285 => pl285
  | 286 => pl286
  | 287 => pl287
  | 288 => pl288
  | 289 => pl289
  | 291 => pl291
  | 294 => pl294
  | 298 => pl298
  | 299 => pl299
  | 300 => pl300
  | 302 => pl302
  | 303 => pl303
  | 305 => pl305
  | 306 => pl306
  | 311 => pl311
  | 313 => pl313
  | 316 => pl316
  | 319 => pl319
  | 320 => pl320
  | 321 => pl321
  | 329 => pl329
  | 330 => pl330
  | 331 => pl331
  | 332 => pl332
  | _ => fun _ => .done
end Go.Proofs.YtjbjooomagbfcaaGreatDoor

/- Arguments that are structs, opened field by field. It names no program. -/
namespace Go.Proofs.YtjbjooomagbfcaaGreatDoor.St
open Go Go.ChangeShapes Go.WideShapes Go.Deep

section
variable {H : Type} {enc : TypeId × Value → H} {P : Program} {w : World} {base : Nat} {spare : Nat → Bool} {held : Bool}
theorem open_agg {r : Reach} {b0 : Nat} {t : TypeId} {fs : Array Field} {v : Value} {d : DataW H} {p : List MemPlace} (hs : P.underlying t = some (.struct fs)) (hone : oneCellFields P fs = true) (hC : P.cellsOf t = fs.size)
    (hv : Value.okWide P w r b0 t v) (h : DataW.Trod enc P w base spare held t v d p) :
    ∃ (cs : Array Value) (ys : List (DataW H × List MemPlace)) (n : Nat), v = .agg cs ∧ cs.size = fs.size ∧ d = .agg (ys.map (·.1)) ∧ ys.length = fs.size ∧
      ∀ (j : Nat) (f : Field), fs[j]? = some f → ∃ c y, cs[j]? = some c ∧ ys[j]? = some y ∧ DataW.trod enc P w base spare held n f.type [c] = some y := by
  obtain ⟨cs, rfl, hsz⟩ := okWide_struct hs hv
  obtain ⟨fuel, hf⟩ := h
  obtain ⟨ys, n, _, hy, _, hlen, hg⟩ := DataW.trod_struct hs hf
  simp only [Prod.mk.injEq] at hy
  refine ⟨cs, ys, n, rfl, hsz.trans hC, hy.1, hlen, fun j f hj => ?_⟩
  obtain ⟨ho, hk⟩ := hone_of hone j f hj
  have hjl : j < fs.size := (Array.getElem?_eq_some_iff.1 hj).1
  have hjc : j < cs.size := by rw [hsz, hC]; exact hjl
  have hg := hg j f hj
  rw [ho, hk] at hg
  have hone' : ((Value.agg cs).cells.toList.drop j).take 1 = [cs[j]] := by
    show (cs.toList.drop j).take 1 = _
    rw [List.drop_eq_getElem_cons (by simpa using hjc)]
    simp
  rw [hone'] at hg
  have hys : ys[j]? = some (ys[j]'(by omega)) := List.getElem?_eq_getElem (by omega)
  exact ⟨cs[j], _, Array.getElem?_eq_getElem hjc, hys, hg.trans hys⟩
theorem agg_weights {t : TypeId} {fs : Array Field} {ys : List (DataW H × List MemPlace)} (hs : P.underlying t = some (.struct fs)) {j : Nat} {f : Field} (hj : fs[j]? = some f) {y : DataW H × List MemPlace} (hy : ys[j]? = some y)
    {B : Nat} (h : ∀ n ∈ (DataW.agg (ys.map (·.1))).weights P t, n ≤ B) : ∀ n ∈ y.1.weights P f.type, n ≤ B := by
  intro n hn
  refine h n ?_
  rw [DataW.weights, hs]
  refine DataW.weights_mem_each (j := j) (t := f.type) (d := y.1) ?_ ?_ n hn
  · rw [List.getElem?_map, Array.getElem?_toList, hj]; rfl
  · rw [List.getElem?_map, hy]; rfl
theorem slice_weights {t e : TypeId} {elems spare' : List (DataW H)} (hs : P.underlying t = some (.slice e)) {x : DataW H} (hx : x ∈ elems ++ spare') {B : Nat} (h : ∀ n ∈ (DataW.slice elems spare').weights P t, n ≤ B) : ∀ n ∈ x.weights P e, n ≤ B := by
  have all : ∀ (l : List (DataW H)), x ∈ l → ∀ n ∈ x.weights P e, n ∈ DataW.weightsAll P e l := by
    intro l
    induction l with
    | nil => intro h; cases h
    | cons y r ih =>
      intro h n hn
      rw [DataW.weightsAll, List.mem_append]
      rcases List.mem_cons.1 h with rfl | h
      · exact .inl hn
      · exact .inr (ih h n hn)
  intro n hn
  refine h n ?_
  rw [DataW.weights, hs]
  rcases List.mem_append.1 hx with hx | hx
  · exact List.mem_cons_of_mem _ (List.mem_append_left _ (all _ hx n hn))
  · exact List.mem_cons_of_mem _ (List.mem_append_right _ (all _ hx n hn))
theorem slice_size {t e : TypeId} {elems spare' : List (DataW H)} (hs : P.underlying t = some (.slice e)) {B : Nat} (h : ∀ n ∈ (DataW.slice elems spare').weights P t, n ≤ B) : (elems.length + spare'.length) * P.bytesOf e ≤ B := by
  refine h _ ?_
  rw [DataW.weights, hs]
  exact List.mem_cons_self
end
end Go.Proofs.YtjbjooomagbfcaaGreatDoor.St

/- Arguments that are rows of structs: they are read, never written. It names no program. -/
namespace Go.Proofs.YtjbjooomagbfcaaGreatDoor.St
open Go Go.ChangeShapes Go.WideShapes Go.Deep

/-- An argument's row. -/
structure ArgRow {α : Type} (L : Lay α) (w : World) (a : Option Addr) (l c : Nat) (xs : List α) : Prop where
  len : xs.length = l
  lc : l ≤ c
  cm : c ≤ 9223372036854775807
  blk : ∀ ad, a = some ad → 0 < l → ad.block < w.heap.size
  get : ∀ (i : Nat) (h : i < xs.length), ∃ ad, a = some ad ∧ ∀ j v, (L.cs xs[i])[j]? = some v → w.cell? (Addr.add (Addr.add ad (i * L.s)) j) = some v
theorem cell_no {w w' : World} (h : Mod no w w') {ad : Addr} (hb : ad.block < w.heap.size) : w'.cell? ad = w.cell? ad := by
  have := h.keep ad.block hb id
  unfold World.cell?
  rw [this]
theorem add_block (ad : Addr) (n : Nat) : (Addr.add ad n).block = ad.block := by unfold Addr.add; split <;> rfl
theorem ArgRow.no {α : Type} {L : Lay α} {w w' : World} {a : Option Addr} {l c : Nat} {xs : List α} (h : ArgRow L w a l c xs) (hm : Mod no w w') : ArgRow L w' a l c xs := by
  refine ⟨h.len, h.lc, h.cm, fun ad had hl => Nat.lt_of_lt_of_le (h.blk ad had hl) hm.size, fun i hi => ?_⟩
  obtain ⟨ad, had, hg⟩ := h.get i hi
  refine ⟨ad, had, fun j v hj => ?_⟩
  rw [cell_no hm (by rw [add_block, add_block]; exact h.blk ad had (by have := h.len; omega))]
  exact hg j v hj
theorem cell_lt {w : World} {ad : Addr} {v : Value} (h : w.cell? ad = some v) : ad.block < w.heap.size := by
  unfold World.cell? at h
  cases hh : w.heap[ad.block]? with
  | none => rw [hh] at h; cases h
  | some o => exact lt_of_heap hh

section
variable {H : Type} {enc : TypeId × Value → H} {P : Program} {w : World} {base : Nat} {spare : Nat → Bool} {held : Bool}
theorem open_slice_fields {t e : TypeId} {fs : Array Field} {fuel : Nat} {cs : List Value} {x : DataW H × List MemPlace} (ht : P.underlying t = some (.slice e)) (he : P.underlying e = some (.struct fs))
    (hone : oneCellFields P fs = true) (hC : P.cellsOf e = fs.size) (h : DataW.trod enc P w base spare held fuel t cs = some x) :
    (cs = [.slice none 0 0] ∧ x = (.nil, [])) ∨
    ∃ (a : Addr) (len cap m : Nat) (D : Nat → DataW H) (Pl : Nat → List MemPlace), cs = [.slice (some a) len cap] ∧ base ≤ a.block ∧ len ≤ cap ∧ cap ≤ maxLen ∧ m = (if spare a.block then cap else len) ∧
      x = (.slice ((List.range len).map D) ((List.range (m - len)).map fun j => D (len + j)), MemPlace.row a (m * fs.size) ++ (List.range m).flatMap Pl) ∧
      ∀ i, i < m → ∃ (ys : List (DataW H × List MemPlace)) (n : Nat), D i = .agg (ys.map (·.1)) ∧ Pl i = ys.flatMap (·.2) ∧ ys.length = fs.size ∧
        ∀ (j : Nat) (f : Field), fs[j]? = some f → ∃ (v : Value) (y : DataW H × List MemPlace), w.cell? (a.add (i * fs.size + j)) = some v ∧ ys[j]? = some y ∧ DataW.trod enc P w base spare held n f.type [v] = some y := by
  rcases open_slice ht h with h0 | ⟨a, len, cap, m, n, D, Pl, hcs, hb, hl, hm, hmm, hx, hi⟩
  · exact .inl h0
  · refine .inr ⟨a, len, cap, m, D, Pl, hcs, hb, hl, hm, hmm, by rw [hC] at hx; exact hx, fun i him => ?_⟩
    obtain ⟨cs', hc, ht'⟩ := hi i him
    rw [hC] at hc
    obtain ⟨ys, n', hn', hy, hlen, hyl, hf⟩ := DataW.trod_struct he ht'
    obtain ⟨_, hcl, hat⟩ := World.cells?_some hc
    simp only [Prod.mk.injEq] at hy
    refine ⟨ys, n', hy.1, hy.2, hyl, fun j f hj => ?_⟩
    obtain ⟨ho, hk⟩ := hone_of hone j f hj
    have hjl : j < fs.size := (Array.getElem?_eq_some_iff.1 hj).1
    have hcell := hat j hjl
    have hv : cs'[j]? = some (cs'[j]'(by omega)) := List.getElem?_eq_getElem (by omega)
    have h1 := hf j f hj
    rw [ho, hk] at h1
    have hone' : (cs'.drop j).take 1 = [cs'[j]'(by omega)] := by
      rw [List.drop_eq_getElem_cons (by omega)]
      rfl
    rw [hone'] at h1
    have hys : ys[j]? = some (ys[j]'(by omega)) := List.getElem?_eq_getElem (by omega)
    refine ⟨_, _, ?_, hys, h1.trans hys⟩
    rw [← Go.Deep.add_add, hcell, hv]
end

/-- An argument of a slice type whose elements are such structs: each is read as Q says. -/
theorem args_row {H : Type} {enc : TypeId × Value → H} {P : Program} {w : World} {v : Value} {d : DataW H} {p : List MemPlace} {base : Nat} {r : Reach} {b0 : Nat} {t e : TypeId} {fs : Array Field} {α : Type} [Inhabited α] {L : Lay α} (Q : α → Prop) {B : Nat}
    (ht : P.underlying t = some (.slice e)) (he : P.underlying e = some (.struct fs)) (hone : oneCellFields P fs = true) (hC : P.cellsOf e = fs.size) (hs : L.s = fs.size)
    (hv : Value.okWide P w r b0 t v) (h : DataW.Trod enc P w base (fun _ => true) true t v d p) (hz : ∀ n ∈ d.weights P t, n ≤ B)
    (hx : ∀ (ys : List (DataW H × List MemPlace)) (n : Nat) (V : Nat → Value), (∀ (j : Nat) (f : Field), fs[j]? = some f → ∃ y, ys[j]? = some y ∧ DataW.trod enc P w base (fun _ => true) true n f.type [V j] = some y ∧ ∀ m ∈ y.1.weights P f.type, m ≤ B) →
      ∃ x : α, (∀ j u, (L.cs x)[j]? = some u → V j = u) ∧ Q x) :
    ∃ a l c xs, v = .slice a l c ∧ ArgRow L w a l c xs ∧ (∀ x ∈ xs, Q x) ∧ c * P.bytesOf e ≤ B := by
  obtain ⟨a, l, c, rfl⟩ := okWide_slice ht hv
  obtain ⟨fuel, hf⟩ := h
  rcases open_slice_fields ht he hone hC hf with ⟨hcs, _⟩ | ⟨ad, len, cap, m, D, Pl, hcs, _, hl, hm, hmm, hxx, hi⟩
  · simp only [Value.cells, List.cons.injEq, and_true] at hcs
    injection hcs with h1 h2 h3
    subst h1; subst h2; subst h3
    exact ⟨none, 0, 0, [], rfl, ⟨rfl, Nat.le_refl _, by decide, fun ad h => (by cases h), fun i h => (by simp at h)⟩, fun x h => (by cases h), by rw [Nat.zero_mul]; exact Nat.zero_le _⟩
  · simp only [Value.cells, List.cons.injEq, and_true] at hcs
    injection hcs with h1 h2 h3
    subst h1; subst h2; subst h3
    have hmc : m = c := by rw [hmm]; rfl
    have hd : d = .slice ((List.range l).map D) ((List.range (m - l)).map fun j => D (l + j)) := congrArg Prod.fst hxx
    have hone : ∀ i, i < l → ∃ x : α, (∀ j u, (L.cs x)[j]? = some u → w.cell? (Addr.add ad (i * L.s + j)) = some u) ∧ Q x := by
      intro i hil
      obtain ⟨ys, n, hD, _, _, hg⟩ := hi i (by omega)
      have hDz : ∀ n ∈ (D i).weights P e, n ≤ B := by
        rw [hd] at hz
        exact slice_weights ht (List.mem_append_left _ (List.mem_map.2 ⟨i, List.mem_range.2 hil, rfl⟩)) hz
      have hch : ∀ j, ∃ v : Value, ∀ f, fs[j]? = some f → w.cell? (ad.add (i * fs.size + j)) = some v ∧ ∃ y, ys[j]? = some y ∧ DataW.trod enc P w base (fun _ => true) true n f.type [v] = some y := by
        intro j
        cases hj : fs[j]? with
        | none => exact ⟨.tuple #[], fun f hf => by cases hf⟩
        | some f =>
          obtain ⟨v, y, q1, q2, q3⟩ := hg j f hj
          exact ⟨v, fun f' hf' => by cases hf'; exact ⟨q1, y, q2, q3⟩⟩
      obtain ⟨V, hV⟩ := Classical.axiomOfChoice hch
      obtain ⟨x, hx1, hx2⟩ := hx ys n V fun j f hj => by
        obtain ⟨_, y, q2, q3⟩ := hV j f hj
        rw [hD] at hDz
        exact ⟨y, q2, q3, agg_weights he hj q2 hDz⟩
      refine ⟨x, fun j u hj => ?_, hx2⟩
      have hjs : j < fs.size := by
        have := (List.getElem?_eq_some_iff.1 hj).1
        rw [L.len] at this
        omega
      have := (hV j _ (Array.getElem?_eq_getElem hjs)).1
      rw [hs, this, hx1 j u hj]
    have hall : ∀ i, ∃ x : α, i < l → (∀ j u, (L.cs x)[j]? = some u → w.cell? (Addr.add ad (i * L.s + j)) = some u) ∧ Q x := by
      intro i
      by_cases h : i < l
      · obtain ⟨x, hx⟩ := hone i h
        exact ⟨x, fun _ => hx⟩
      · exact ⟨default, fun h' => absurd h' h⟩
    obtain ⟨f, hf⟩ := Classical.axiomOfChoice hall
    refine ⟨some ad, l, c, (List.range l).map f, rfl, ⟨by simp, hl, by simpa [maxLen] using hm, fun ad' had hl0 => ?_, fun i h => ?_⟩, fun x hx => ?_, ?_⟩
    · cases had
      have hp := (hf 0 hl0).1 0 ((L.cs (f 0))[0]'(by rw [L.len]; exact L.pos)) (List.getElem?_eq_getElem _)
      have := cell_lt hp
      rwa [add_block] at this
    · refine ⟨ad, rfl, fun j v hj => ?_⟩
      rw [List.getElem_map, List.getElem_range] at hj
      have := (hf i (by simpa using h)).1 j v hj
      rwa [← Go.Deep.add_add] at this
    · obtain ⟨i, hi, rfl⟩ := List.mem_map.1 hx
      exact (hf i (List.mem_range.1 hi)).2
    · rw [hd] at hz
      have := slice_size ht hz
      rw [List.length_map, List.length_map, List.length_range, List.length_range, show l + (m - l) = c by omega] at this
      exact this
end Go.Proofs.YtjbjooomagbfcaaGreatDoor.St

/- Arguments, whatever they are made of, told by their leaves. It names no program. -/
namespace Go.Proofs.YtjbjooomagbfcaaGreatDoor.St
open Go Go.ChangeShapes Go.WideShapes Go.Deep

/-- These cells are a value of type t, as far as n steps go. -/
def Leaf (P : Program) (w : World) (B : Nat) : Nat → TypeId → List Value → Prop
  | 0, _, _ => True
  | n + 1, t, cs => match P.underlying t with
    | some (.struct fs) => cs.length = P.cellsOf t ∧ ∀ (i : Nat) (f : Field), fs[i]? = some f → Leaf P w B n f.type ((cs.drop f.offset).take (P.cellsOf f.type))
    | some (.int k) => ∃ x, cs = [.int k x] ∧ (Lit.int k x).wf = true
    | some .string => ∃ s : ByteArray, cs = [.string s] ∧ s.size ≤ B
    | some .bool => ∃ b, cs = [.bool b]
    | some (.slice e) => ∃ (a : Option Addr) (l c : Nat), cs = [.slice a l c] ∧ l ≤ c ∧ c ≤ 9223372036854775807 ∧ c * P.bytesOf e ≤ B ∧ (a = none → c = 0) ∧
        ∀ i, i < l → ∃ ad, a = some ad ∧ ∃ cs', cs'.length = P.cellsOf e ∧ (∀ j v, cs'[j]? = some v → w.cell? (Addr.add (Addr.add ad (i * P.cellsOf e)) j) = some v) ∧ Leaf P w B n e cs'
    | _ => True
section
variable {H : Type} {enc : TypeId × Value → H} {P : Program} {w : World} {base : Nat} {B : Nat}
theorem leaf_of : ∀ (m : Nat) {t : TypeId} {cs : List Value} {x : DataW H × List MemPlace} {fuel : Nat}, DataW.trod enc P w base (fun _ => true) true fuel t cs = some x → (∀ n ∈ x.1.weights P t, n ≤ B) → Leaf P w B m t cs
  | 0, _, _, _, _, _, _ => trivial
  | m + 1, t, cs, x, fuel, h, hz => by
    unfold Leaf
    split
    · rename_i fs ht
      obtain ⟨ys, n, _, rfl, hl, hlen, hf⟩ := DataW.trod_struct ht h
      refine ⟨hl, fun i f hi => ?_⟩
      have h1 := hf i f hi
      have hil : i < fs.size := (Array.getElem?_eq_some_iff.1 hi).1
      have hys : ys[i]? = some (ys[i]'(by omega)) := List.getElem?_eq_getElem (by omega)
      rw [hys] at h1
      exact leaf_of m h1 (agg_weights ht hi hys hz)
    · rename_i k ht
      obtain ⟨n, h1, _, h2⟩ := DataW.trod_int ht h
      exact ⟨n, h1, h2⟩
    · rename_i ht
      obtain ⟨s, h1, rfl, _⟩ := DataW.trod_string ht h
      exact ⟨s, h1, hz _ (by simp [DataW.weights])⟩
    · rename_i ht
      obtain ⟨b, h1, _⟩ := DataW.trod_bool ht h
      exact ⟨b, h1⟩
    · rename_i e ht
      rcases DataW.trod_slice ht h with ⟨h1, _⟩ | ⟨a, len, cap, elems, rest, n, _, h1, rfl, _, hl, hm, hel, hget, hsp, _⟩
      · exact ⟨none, 0, 0, h1, Nat.le_refl _, by decide, by rw [Nat.zero_mul]; exact Nat.zero_le _, fun _ => rfl, fun i hi => by omega⟩
      · refine ⟨some a, len, cap, h1, hl, by simpa [maxLen] using hm, ?_, (fun h => by cases h), fun i hi => ⟨a, rfl, ?_⟩⟩
        · have := slice_size ht hz
          rw [List.length_map, List.length_map, hel, (hsp rfl).1, show len + (cap - len) = cap by omega] at this
          exact this
        · have h2 := hget i hi
          have hys : elems[i]? = some (elems[i]'(by omega)) := List.getElem?_eq_getElem (by omega)
          rw [hys] at h2
          obtain ⟨cs', h3, h4⟩ := Option.bind_eq_some_iff.1 h2
          obtain ⟨_, hcl, hat⟩ := World.cells?_some h3
          refine ⟨cs', hcl, fun j v hj => ?_, leaf_of m h4 ?_⟩
          · have hjl : j < P.cellsOf e := by have := (List.getElem?_eq_some_iff.1 hj).1; omega
            rw [hat j hjl, hj]
          · exact slice_weights ht (List.mem_append_left _ (List.mem_map.2 ⟨_, List.getElem_mem (by omega), rfl⟩)) hz
    · trivial
/-- A row whose elements are told by their leaves. -/
theorem leaf_row {α : Type} [Inhabited α] {L : Lay α} (Q : α → Prop) {e : TypeId} {a : Option Addr} {l c n : Nat} (hs : L.s = P.cellsOf e) (hx : ∀ cs, cs.length = L.s → Leaf P w B n e cs → ∃ x, L.cs x = cs ∧ Q x) (hl : l ≤ c) (hc : c ≤ 9223372036854775807)
    (h : ∀ i, i < l → ∃ ad, a = some ad ∧ ∃ cs', cs'.length = P.cellsOf e ∧ (∀ j v, cs'[j]? = some v → w.cell? (Addr.add (Addr.add ad (i * P.cellsOf e)) j) = some v) ∧ Leaf P w B n e cs') : ∃ xs, ArgRow L w a l c xs ∧ ∀ x ∈ xs, Q x := by
  have hall : ∀ i, ∃ x : α, i < l → (∃ ad, a = some ad ∧ ∀ j u, (L.cs x)[j]? = some u → w.cell? (Addr.add (Addr.add ad (i * L.s)) j) = some u) ∧ Q x := by
    intro i
    by_cases hi : i < l
    · obtain ⟨ad, had, cs', h1, h2, h3⟩ := h i hi
      obtain ⟨x, rfl, hq⟩ := hx cs' (by rw [h1, hs]) h3
      exact ⟨x, fun _ => ⟨⟨ad, had, fun j u hj => by rw [hs]; exact h2 j u hj⟩, hq⟩⟩
    · exact ⟨default, fun h' => absurd h' hi⟩
  obtain ⟨f, hf⟩ := Classical.axiomOfChoice hall
  refine ⟨(List.range l).map f, ⟨by simp, hl, hc, fun ad had hl0 => ?_, fun i hi => ?_⟩, fun x hx => ?_⟩
  · obtain ⟨⟨ad', had', hg⟩, _⟩ := hf 0 hl0
    rw [had] at had'
    cases had'
    have := cell_lt (hg 0 ((L.cs (f 0))[0]'(by rw [L.len]; exact L.pos)) (List.getElem?_eq_getElem _))
    rwa [add_block, add_block] at this
  · rw [List.length_map, List.length_range] at hi
    obtain ⟨⟨ad, had, hg⟩, _⟩ := hf i hi
    refine ⟨ad, had, fun j v hj => ?_⟩
    rw [List.getElem_map, List.getElem_range] at hj
    exact hg j v hj
  · obtain ⟨i, hi, rfl⟩ := List.mem_map.1 hx
    exact (hf i (List.mem_range.1 hi)).2
end

/-! ### Rows of a program's own, read as an argument's; and an argument's, appended -/
theorem Row.arg {α : Type} {L : Lay α} {e : TypeId} {w : World} {a : Option Addr} {l c : Nat} {xs : List α} (h : Row L e w a l c xs) : ArgRow L w a l c xs := by
  have hl := h.len
  refine ⟨hl.1, hl.2.1, hl.2.2, fun ad had _ => ?_, fun i hi => ?_⟩
  · rcases h.block with ⟨h0, _⟩ | ⟨g, cur, hg, hh, _⟩
    · rw [h0] at had; cases had
    · rw [hg] at had; cases had; exact lt_of_heap hh
  · obtain ⟨g, had, hg⟩ := h.get hi
    exact ⟨_, had, hg⟩
theorem Lay.div {α : Type} (L : Lay α) : ∀ {xs : List α} {k : Nat} {v : Value}, (xs.flatMap L.cs)[k]? = some v → ∃ (i : Nat) (hi : i < xs.length) (j : Nat), k = i * L.s + j ∧ (L.cs (xs[i]'hi))[j]? = some v
  | [], k, v, h => by simp at h
  | x :: r, k, v, h => by
    rw [List.flatMap_cons] at h
    by_cases hk : k < L.s
    · rw [List.getElem?_append_left (by rw [L.len]; exact hk)] at h
      exact ⟨0, by simp, k, by simp, h⟩
    · rw [List.getElem?_append_right (by rw [L.len]; omega), L.len] at h
      obtain ⟨i, hi, j, he, hj⟩ := L.div h
      exact ⟨i + 1, by simpa using hi, j, by rw [Nat.add_mul]; omega, by simpa using hj⟩
theorem ArgRow.all {α : Type} {L : Lay α} {w : World} {a : Option Addr} {l c : Nat} {xs : List α} (h : ArgRow L w a l c xs) : (∀ ad, a = some ad → ∀ j v, (xs.flatMap L.cs)[j]? = some v → w.cell? (ad.add j) = some v) := by
  intro ad had k v hk
  obtain ⟨i, hi, j, rfl, hj⟩ := L.div hk
  obtain ⟨ad', had', hg⟩ := h.get i hi
  rw [had] at had'
  cases had'
  rw [← Go.Deep.add_add]
  exact hg j v hj
end Go.Proofs.YtjbjooomagbfcaaGreatDoor.St

/- Leaves, opened. It names no program. -/
namespace Go.Proofs.YtjbjooomagbfcaaGreatDoor.St
open Go Go.ChangeShapes Go.WideShapes Go.Deep
section
variable {P : Program} {w : World} {B n : Nat} {t : TypeId} {cs : List Value}
theorem leaf_struct {fs : Array Field} (ht : P.underlying t = some (.struct fs)) (h : Leaf P w B (n + 1) t cs) : cs.length = P.cellsOf t ∧ ∀ (i : Nat) (f : Field), fs[i]? = some f → Leaf P w B n f.type ((cs.drop f.offset).take (P.cellsOf f.type)) := by
  unfold Leaf at h; rw [ht] at h; exact h
theorem leaf_int {k : IntKind} (ht : P.underlying t = some (.int k)) (h : Leaf P w B (n + 1) t cs) : ∃ x, cs = [.int k x] ∧ (Lit.int k x).wf = true := by
  unfold Leaf at h; rw [ht] at h; exact h
theorem leaf_string (ht : P.underlying t = some .string) (h : Leaf P w B (n + 1) t cs) : ∃ s : ByteArray, cs = [.string s] ∧ s.size ≤ B := by
  unfold Leaf at h; rw [ht] at h; exact h
theorem leaf_bool (ht : P.underlying t = some .bool) (h : Leaf P w B (n + 1) t cs) : ∃ b, cs = [.bool b] := by
  unfold Leaf at h; rw [ht] at h; exact h
theorem leaf_slice {e : TypeId} (ht : P.underlying t = some (.slice e)) (h : Leaf P w B (n + 1) t cs) : ∃ (a : Option Addr) (l c : Nat), cs = [.slice a l c] ∧ l ≤ c ∧ c ≤ 9223372036854775807 ∧ c * P.bytesOf e ≤ B ∧ (a = none → c = 0) ∧
        ∀ i, i < l → ∃ ad, a = some ad ∧ ∃ cs', cs'.length = P.cellsOf e ∧ (∀ j v, cs'[j]? = some v → w.cell? (Addr.add (Addr.add ad (i * P.cellsOf e)) j) = some v) ∧ Leaf P w B n e cs' := by
  unfold Leaf at h; rw [ht] at h; exact h
/-- A field of one cell. -/
theorem field1 {fs : Array Field} {f : Field} (h : ∀ (i : Nat) (f : Field), fs[i]? = some f → Leaf P w B n f.type ((cs.drop f.offset).take (P.cellsOf f.type))) (i : Nat) (hf : fs[i]? = some f) {o : Nat} (ho : f.offset = o) {u : TypeId} (hu : f.type = u) {k : Nat} (hk : P.cellsOf u = k) : Leaf P w B n u ((cs.drop o).take k) := by
  subst ho; subst hu; subst hk; exact h i f hf
end
theorem row_arg {H : Type} {enc : TypeId × Value → H} {P : Program} {w : World} {v : Value} {d : DataW H} {p : List MemPlace} {base : Nat} {r : Reach} {b0 : Nat} {t e : TypeId} {α : Type} [Inhabited α] {L : Lay α} (Q : α → Prop) {B : Nat} (n : Nat) (ht : P.underlying t = some (.slice e))
    (hs : L.s = P.cellsOf e) (hv : Value.okWide P w r b0 t v) (h : DataW.Trod enc P w base (fun _ => true) true t v d p) (hz : ∀ n ∈ d.weights P t, n ≤ B) (hx : ∀ cs, cs.length = L.s → Leaf P w B n e cs → ∃ x, L.cs x = cs ∧ Q x) :
    ∃ a l c xs, v = .slice a l c ∧ ArgRow L w a l c xs ∧ (∀ x ∈ xs, Q x) ∧ c * P.bytesOf e ≤ B ∧ (a = none → c = 0) := by
  obtain ⟨a, l, c, rfl⟩ := okWide_slice ht hv
  obtain ⟨fuel, hf⟩ := h
  obtain ⟨a', l', c', hcs, h1, h2, h3, h3', h4⟩ := leaf_slice ht (leaf_of (n + 1) hf hz)
  simp only [Value.cells, List.cons.injEq, and_true] at hcs
  injection hcs with e1 e2 e3
  subst e1; subst e2; subst e3
  obtain ⟨xs, h5, h6⟩ := leaf_row Q hs hx h1 h2 h4
  exact ⟨a, l, c, xs, rfl, h5, h6, h3, h3'⟩
theorem struct_arg {H : Type} {enc : TypeId × Value → H} {P : Program} {w : World} {v : Value} {d : DataW H} {p : List MemPlace} {base : Nat} {r : Reach} {b0 : Nat} {t : TypeId} {fs : Array Field} {B : Nat} (n : Nat) (ht : P.underlying t = some (.struct fs))
    (hv : Value.okWide P w r b0 t v) (h : DataW.Trod enc P w base (fun _ => true) true t v d p) (hz : ∀ n ∈ d.weights P t, n ≤ B) : ∃ cs : List Value, v = .agg ⟨cs⟩ ∧ Leaf P w B n t cs := by
  obtain ⟨cs, rfl, _⟩ := okWide_struct ht hv
  obtain ⟨fuel, hf⟩ := h
  exact ⟨cs.toList, rfl, leaf_of n hf hz⟩
theorem args_int {H : Type} {enc : TypeId × Value → H} {P : Program} {w : World} {v : Value} {d : DataW H} {p : List MemPlace} {base : Nat} {r : Reach} {b0 : Nat} {t : TypeId} {k : IntKind} (ht : P.underlying t = some (.int k))
    (hv : Value.okWide P w r b0 t v) (h : DataW.Trod enc P w base (fun _ => true) true t v d p) : ∃ a : Int, v = .int k a ∧ (Lit.int k a).wf = true := by
  obtain ⟨a, rfl⟩ := okWide_int ht hv
  obtain ⟨fuel, hf⟩ := h
  obtain ⟨n, h1, _, h2⟩ := DataW.trod_int ht hf
  simp only [Value.cells, List.cons.injEq, and_true] at h1
  injection h1 with _ h1
  subst h1
  exact ⟨_, rfl, h2⟩
theorem args_string {H : Type} {enc : TypeId × Value → H} {P : Program} {w : World} {v : Value} {d : DataW H} {p : List MemPlace} {base : Nat} {r : Reach} {b0 : Nat} {t : TypeId} (ht : P.underlying t = some .string)
    (hv : Value.okWide P w r b0 t v) (h : DataW.Trod enc P w base (fun _ => true) true t v d p) (hz : ∀ n ∈ d.weights P t, n ≤ reachBytes) : ∃ a : ByteArray, v = .string a ∧ a.size ≤ 140737488355328 := by
  obtain ⟨a, rfl⟩ := okWide_string ht hv
  obtain ⟨fuel, hf⟩ := h
  obtain ⟨s, h1, h2⟩ := leaf_string ht (leaf_of 1 hf hz)
  simp only [Value.cells, List.cons.injEq, and_true] at h1
  injection h1 with h1
  subst h1
  exact ⟨_, rfl, Nat.le_trans h2 (by decide)⟩
end Go.Proofs.YtjbjooomagbfcaaGreatDoor.St

/- What a row gives to the machine that reckons: arguments of which nothing is known but their kinds, and a table of texts. It names no program. -/
namespace Go.Proofs.YtjbjooomagbfcaaGreatDoor.St
open Go Go.ChangeShapes Go.WideShapes Go.Deep

def okOp : List CT → Bool
  | [] => true
  | .int _ :: r => okOp r
  | .bool :: r => okOp r
  | .str :: r => okOp r
  | _ :: _ => false
/-- Values of these kinds, of which nothing is known. -/
def opqL : List CT → Nat → List AV
  | [], _ => []
  | .int k :: r, i => .oi k i :: opqL r (i + 1)
  | .bool :: r, i => .ob i :: opqL r (i + 1)
  | .str :: r, i => .os i :: opqL r (i + 1)
  | _ :: r, i => .np :: opqL r (i + 1)
def valI : Option Value → Int
  | some (.int _ x) => x
  | _ => 0
def valB : Option Value → Bool
  | some (.bool x) => x
  | _ => false
def valS : Option Value → ByteArray
  | some (.string x) => x
  | _ => ByteArray.empty
theorem opq_emb {ρ : Rho} : ∀ {ks : List CT} {cs : List Value} (i : Nat), okOp ks = true → okCs ks cs → (∀ j v, cs[j]? = some v → ρ.oi (i + j) = valI (some v) ∧ ρ.ob (i + j) = valB (some v) ∧ ρ.os (i + j) = valS (some v)) → embL ρ (opqL ks i) = some cs
  | [], [], _, _, _, _ => rfl
  | [], _ :: _, _, _, h, _ => h.elim
  | _ :: _, [], _, _, h, _ => h.elim
  | c :: ks, v :: cs, i, ho, h, hv => by
    have h0 := hv 0 v rfl
    have hr : okOp ks = true := by cases c <;> first | exact ho | cases ho
    have ih := opq_emb (ρ := ρ) (i + 1) hr h.2 fun j u hj => by
      have := hv (j + 1) u (by simpa using hj)
      rw [show i + 1 + j = i + (j + 1) by omega]; exact this
    cases c with
    | int k => obtain ⟨x, rfl⟩ := h.1; exact embL_cons.2 ⟨_, _, by simp only [emb]; rw [show i = i + 0 from rfl, h0.1]; rfl, ih, rfl⟩
    | bool => obtain ⟨x, rfl⟩ := h.1; exact embL_cons.2 ⟨_, _, by simp only [emb]; rw [show i = i + 0 from rfl, h0.2.1]; rfl, ih, rfl⟩
    | str => obtain ⟨x, rfl⟩ := h.1; exact embL_cons.2 ⟨_, _, by simp only [emb]; rw [show i = i + 0 from rfl, h0.2.2]; rfl, ih, rfl⟩
    | _ => cases ho
def rho0 (g : Nat) (cs : List Value) : Rho :=
  { at_ := fun n => if n = 0 then some ⟨g, 0, 0⟩ else none, oi := fun i => valI cs[i]?, ob := fun i => valB cs[i]?, os := fun i => valS cs[i]?, rd := fun _ _ => False, bs := fun _ _ => False }
theorem opq0 {g : Nat} {ks : List CT} {cs : List Value} (ho : okOp ks = true) (h : okCs ks cs) : embL (rho0 g cs) (opqL ks 0) = some cs :=
  opq_emb 0 ho h fun j v hj => by simp [rho0, hj]
def heap0 (ss : List (List UInt8)) : AH := { t := Tr.put (some (.c (ss.map .s) none true 0)) dep 0 .lf, nx := 1 }
def gm1 (g : Nat) : Nat → Option Nat := fun h => bif Nat.beq h g then some 0 else none
theorem rep0 {w : World} {g : Nat} {cs : List Value} {ss : List (List UInt8)} (h : ∃ c e fz, w.heap[g]? = some (.cells c e fz) ∧ c.toList = ss.map fun s => Value.string ⟨⟨s⟩⟩) : Rep w (rho0 g cs) (heap0 ss) w ∧ GmR (rho0 g cs) (gm1 g) := by
  obtain ⟨c, e, fz, hb, hc⟩ := h
  have hg : ∀ {n : Nat} {o : AO}, (heap0 ss).get n = some o → n = 0 ∧ o = .c (ss.map .s) none true 0 := fun {n o} h => by
    simp only [heap0, AH.get] at h
    rw [Tr.get_dep _ _ (by decide)] at h
    by_cases hn : n = 0
    · rw [if_pos hn] at h; cases h; exact ⟨hn, rfl⟩
    · rw [if_neg hn] at h; cases h
  have hat : ∀ {n : Nat} {q : Pl}, (rho0 g cs).at_ n = some q → n = 0 := fun {n q} h => by
    simp only [rho0] at h
    by_cases hn : n = 0
    · exact hn
    · rw [if_neg hn] at h; cases h
  refine ⟨⟨fun n o h => ?_, fun n q h => by rw [hat h]; exact Nat.zero_lt_one, (by decide : 1 ≤ tmax), fun n o j h hj => ?_, fun i j o o' q q' hi hj _ _ hij => absurd ((hg hi).1.trans (hg hj).1.symm) hij, fun i o q h _ hro => ?_, Mod.refl _ _⟩, fun k n h => ?_⟩
  · obtain ⟨rfl, rfl⟩ := hg h
    refine ⟨⟨g, 0, 0⟩, rfl, c, e, fz, hb, (fun h => by cases h), by simp, c.toList, ?_, by simp, fun k v hk => by simpa using hk⟩
    rw [hc]; exact embL_map (fun _ => rfl) ss
  · obtain ⟨_, rfl⟩ := hg h; cases hj
  · obtain ⟨_, rfl⟩ := hg h; cases hro
  · unfold gm1 at h
    cases hb : Nat.beq k g with
    | true => rw [hb] at h; cases h; rw [(beq_iff _ _).1 hb]; exact ⟨0, rfl⟩
    | false => rw [hb] at h; cases h
section
variable {P : Program} {w : World} {B : Nat}
theorem leaf_kinds : ∀ (d m : Nat) (t : TypeId) (ks : List CT) (cs : List Value), eqK P d t = some ks → P.cellsOf t = ks.length → d ≤ m → Leaf P w B m t cs → okCs ks cs
  | 0, _, _, _, _, h, _, _, _ => by simp [eqK] at h
  | d + 1, 0, _, _, _, _, _, h, _ => by omega
  | d + 1, m + 1, t, ks, cs, hk, hc, hd, hl => by
    unfold eqK at hk
    split at hk
    · rename_i hu; cases hk; obtain ⟨b, rfl⟩ := leaf_bool hu hl; exact ⟨⟨b, rfl⟩, trivial⟩
    · rename_i hu; cases hk; obtain ⟨b, rfl, _⟩ := leaf_int hu hl; exact ⟨⟨b, rfl⟩, trivial⟩
    · rename_i hu; cases hk; obtain ⟨b, rfl, _⟩ := leaf_string hu hl; exact ⟨⟨b, rfl⟩, trivial⟩
    · rename_i fs hu
      split at hk
      · cases hk
      · obtain ⟨hlen, hf⟩ := leaf_struct hu hl
        have key : ∀ (l : List Field) (i o : Nat) (ks : List CT), (∀ j, l[j]? = fs[i + j]?) → eqFs P (eqK P d) l o = some ks → cs.length = o + ks.length → okCs ks (cs.drop o) := by
          intro l
          induction l with
          | nil =>
            intro i o ks _ h hl
            cases h
            rw [List.drop_eq_nil_of_le (by simp at hl; omega)]
            trivial
          | cons f r ih =>
            intro i o ks hi h hl
            unfold eqFs at h
            split at h
            · rename_i k1 h1
              split at h
              · rename_i hc
                simp only [Bool.and_eq_true, bne_iff_ne, ne_eq, beq_iff_eq] at hc
                obtain ⟨⟨⟨c1, c2⟩, c3⟩, c4⟩ := hc
                obtain ⟨k2, h2, rfl⟩ := Option.map_eq_some_iff.1 h
                rw [List.length_append] at hl
                have hfi : fs[i]? = some f := by have := hi 0; simpa using this.symm
                have l1 := hf i f hfi
                rw [c2, c3] at l1
                have o1 := leaf_kinds d m f.type k1 _ h1 c3 (by omega) l1
                have o2 := ih (i + 1) (o + k1.length) k2 (fun j => by have := hi (j + 1); rw [show i + 1 + j = i + (j + 1) by omega]; simpa using this) h2 (by omega)
                have e : cs.drop o = (cs.drop o).take k1.length ++ cs.drop (o + k1.length) := by rw [← List.drop_drop, List.take_append_drop]
                rw [e]
                have app : ∀ {k1 k2 : List CT} {xs ys : List Value}, okCs k1 xs → okCs k2 ys → okCs (k1 ++ k2) (xs ++ ys) := by
                  intro k1
                  induction k1 with
                  | nil => intro k2 xs ys h h'; cases xs with | nil => exact h' | cons _ _ => exact h.elim
                  | cons a k1 ih => intro k2 xs ys h h'; cases xs with | nil => exact h.elim | cons _ _ => exact ⟨h.1, ih h.2 h'⟩
                exact app o1 o2
              · cases h
            · cases h
        have := key fs.toList 0 0 ks (fun j => by simp) hk (by rw [hlen, hc]; simp)
        simpa using this
    · cases hk
/-- A struct of plain leaves, as an argument. -/
theorem args_kinds {H : Type} {enc : TypeId × Value → H} {v : Value} {d : DataW H} {p : List MemPlace} {base : Nat} {r : Reach} {b0 : Nat} {t : TypeId} {fs : Array Field} {ks : List CT} (hu : P.underlying t = some (.struct fs)) (hk : eqK P 8 t = some ks) (hc : P.cellsOf t = ks.length)
    (hv : Value.okWide P w r b0 t v) (h : DataW.Trod enc P w base (fun _ => true) true t v d p) (hz : ∀ n ∈ d.weights P t, n ≤ B) : ∃ cs : List Value, v = .agg ⟨cs⟩ ∧ okCs ks cs := by
  obtain ⟨cs, rfl, hl⟩ := struct_arg 8 hu hv h hz
  exact ⟨cs, rfl, leaf_kinds 8 8 t ks cs hk hc (Nat.le_refl _) hl⟩
end
theorem cells_of_strs {H : Type} {enc : TypeId × Value → H} {P : Program} {w : World} {base : Nat} {sp : Nat → Bool} {held : Bool} {fuel : Nat} {t e : TypeId} {n : Nat} {cs : List Value} {ss : List (List UInt8)} {p : List MemPlace}
    (ht : P.underlying t = some (.array n e)) (he : P.underlying e = some .string) (hce : P.cellsOf e = 1) (hct : P.cellsOf t = n)
    (h : DataW.trod enc P w base sp held fuel t cs = some (.agg (ss.map fun s => .lit (.string s)), p)) : cs = ss.map fun s => Value.string ⟨⟨s⟩⟩ := by
  cases fuel with
  | zero => simp [DataW.trod] at h
  | succ fuel =>
    simp only [DataW.trod, ht, hce, hct, Nat.mul_one] at h
    split at h
    · obtain ⟨xs, hm, hx⟩ := Option.map_eq_some_iff.1 h
      have hxs : xs.map (·.1) = ss.map fun s => (DataW.lit (.string s) : DataW H) := by
        have := congrArg Prod.fst hx
        simpa using this
      have hxl : xs.length = n := by simpa using Lib.mapM_length hm
      have hzl : ss.length = n := by
        have := congrArg List.length hxs
        simp at this
        omega
      apply List.ext_getElem?
      intro i
      by_cases hi : i < n
      · obtain ⟨b, hb, hf⟩ := Lib.mapM_at hm i i (by simp [hi])
        obtain ⟨s, hc, rfl, _⟩ := DataW.trod_string he hf
        have h1 : cs[i]? = some (.string s) := by
          have := congrArg (·[0]?) hc
          simpa [List.getElem?_take, List.getElem?_drop] using this
        have h2 : (xs.map (·.1))[i]? = some (DataW.lit (.string s.data.toList) : DataW H) := by simp [hb]
        rw [hxs] at h2
        simp only [List.getElem?_map, Option.map_eq_some_iff, DataW.lit.injEq, Lit.string.injEq] at h2
        obtain ⟨z', hz', e2⟩ := h2
        rw [h1, List.getElem?_map, hz', e2]
        rfl
      · rw [List.getElem?_eq_none (by omega), List.getElem?_eq_none (by simp; omega)]
    · cases h
theorem strs_of_head {P : Program} {W : World} {name : String} {ss : List (List UInt8)} {rest : List (String × DataW Unit)} {g : Nat} {t e : TypeId} {n : Nat}
    (hg : P.globalNamed name = some g) (hty : (P.globals[g]?).map (·.type) = some t) (ht : P.underlying t = some (.array n e)) (he : P.underlying e = some .string) (hce : P.cellsOf e = 1) (hct : P.cellsOf t = n)
    (h : laidMet P ((name, .agg (ss.map fun s => .lit (.string s))) :: rest) W) : ∃ c e fz, W.heap[g]? = some (.cells c e fz) ∧ c.toList = ss.map fun s => Value.string ⟨⟨s⟩⟩ := by
  obtain ⟨ps, ⟨g', t', cs, fuel, p, q, hg', ht', hvar, hd, _, _⟩, _⟩ := h
  obtain rfl := Option.some.inj (hg.symm.trans hg')
  obtain rfl := Option.some.inj (hty.symm.trans ht')
  have hc := cells_of_strs ht he hce hct hd
  simp only [World.var?, hg, Option.bind_some] at hvar
  split at hvar
  · rename_i cs' e' z hb
    cases hvar
    exact ⟨_, _, _, hb, hc⟩
  · cases hvar
end Go.Proofs.YtjbjooomagbfcaaGreatDoor.St

/- StateNone: its walk, reckoned. -/
namespace Go.Proofs.YtjbjooomagbfcaaGreatDoor
open Go Go.ChangeShapes Go.WideShapes Go.Deep Go.RowKit Go.Proofs.YtjbjooomagbfcaaGreatDoor.St
set_option maxRecDepth 1000000
/-- What act.shapes holds. -/
def shapesS : List (List UInt8) := [[45], [110, 99], [110], [120], [110], [98], [98], [109], [110], [110, 116], [110, 116], [111, 99], []]
def Vars (w : World) : Prop := ∃ c e fz, w.heap[0]? = some (.cells c e fz) ∧ c.toList = shapesS.map fun s => Value.string ⟨⟨s⟩⟩
theorem vars_of_laid {W : World} (h : laidMetH Tryz.prog Rows.stateNoneRow.laid W) : Vars W := by
  have h : laidMet Tryz.prog [("unicode/utf8.acceptRanges", Rows.laid_unicode_utf8_acceptRanges), ("staith/act.shapes", .agg (shapesS.map fun s => .lit (.string s))), ("unicode/utf8.first", Rows.laid_unicode_utf8_first)] W := h
  exact strs_of_head (g := 0) (t := 246) (e := 9) (n := 13) (by kernel_rfl) (by kernel_rfl) Tryz.underlying246 Tryz.underlying9 (by kernel_rfl) (by kernel_rfl) h.tail
/-- The kinds of an act's cells. -/
def actK : List CT := [.int .i64, .str, .int .i64, .int .u64, .int .i64, .str, .int .i64, .bool, .str, .str, .str, .int .i64, .int .u64, .int .i64, .str, .str, .str]
abbrev actOk (cs : List Value) : Prop := okCs actK cs
theorem args_actS {H : Type} {enc : TypeId × Value → H} {w : World} {v : Value} {d : DataW H} {p : List MemPlace} {base : Nat} {r : Reach} {b0 : Nat} (hv : Value.okWide Tryz.prog w r b0 42 v) (h : DataW.Trod enc Tryz.prog w base (fun _ => true) true 42 v d p)
    (hz : ∀ n ∈ d.weights Tryz.prog 42, n ≤ reachBytes) : ∃ x : List Value, v = .agg ⟨id x⟩ ∧ okCs actK x :=
  args_kinds Tryz.underlying42 (by kernel_rfl) (by kernel_rfl) hv h hz
noncomputable def isT (o : AV × AH) : Bool := match o.1 with | .b t => t | _ => false
theorem isT_W {o : AV × AH} (h : isT o = true) {ρ : Rho} {x : Value} (hx : emb ρ o.1 = some x) : x = .bool true := by
  unfold isT at h
  split at h
  · rename_i t ht; rw [ht] at hx; rw [h] at hx; exact (Option.some.inj hx).symm
  · cases h
noncomputable def run0 : Bool := match callE Tryz.prog pls (evC Tryz.prog (gm1 0) pls 100000) [] (.f 7 [] []) [.a (opqL actK 0)] (heap0 shapesS) with | some outs => outs.all isT | none => false
theorem run0_true : run0 = true := by kernel_rfl
theorem none_walk (x : List Value) (w : World) (hV : Vars w) (h : okCs actK x) (R : Value → World → Prop) (hR : ∀ v w', v = .bool true → Mod no w w' → R v w') : Ca Tryz.prog 7 #[.agg ⟨id x⟩] w R := by
  have hrun := run0_true
  unfold run0 at hrun
  split at hrun
  · rename_i outs ho
    obtain ⟨hR0, hG⟩ := rep0 (cs := x) hV
    refine call_reckoned (by kernel_rfl) ho hR0 hG (embL_cons.2 ⟨.agg ⟨x⟩, [], ?_, rfl, rfl⟩) fun o hoo ρ' w' v _ a2 a3 => hR v w' (isT_W (List.all_eq_true.1 hrun o hoo) a3) a2.md
    simp only [emb, opq0 (by rfl) h]; rfl
  · cases hrun
theorem w_none (x : List Value) (w : World) (hV : Vars w) (h : okCs actK x) (R : Value → World → Prop) (hR : ∀ w', Mod no w w' → R (.bool true) w') : Ca Tryz.prog 7 #[.agg ⟨id x⟩] w R :=
  none_walk x w hV h R fun v w' e hm => by subst e; exact hR w' hm
end Go.Proofs.YtjbjooomagbfcaaGreatDoor

/- The closed facts of the row StateNone, one by one (each a lemma of its own, for the kernel's memory). -/
namespace Go.Proofs.YtjbjooomagbfcaaGreatDoor
open Go
theorem and2 {a b : Bool} (ha : a = true) (hb : b = true) : (a && b) = true := by rw [ha, hb]; rfl
set_option maxRecDepth 100000 in
set_option maxHeartbeats 8000000 in
theorem joined_StateNone : joinedFacts Tryz.prog 7 Tryz.f7 Rows.stateNoneSpec Rows.stateNoneRow = true := by
  unfold joinedFacts
  with_reducible repeat' (refine and2 ?_ ?_)
  all_goals as_aux_lemma => kernel_rfl
theorem joinedP_StateNone : joinedFacts Tryz.pinned.checked.prog 7 Tryz.f7 (OpenSpec.ofChange Rows.stateNoneSpec).bare Rows.stateNoneRow = true :=
  Eq.trans (b := joinedFacts Tryz.prog 7 Tryz.f7 Rows.stateNoneSpec Rows.stateNoneRow) (by kernel_rfl) joined_StateNone
end Go.Proofs.YtjbjooomagbfcaaGreatDoor
