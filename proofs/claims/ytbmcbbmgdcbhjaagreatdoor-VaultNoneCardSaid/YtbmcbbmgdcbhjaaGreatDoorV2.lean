/- Parts of the proof of VaultNoneCard. -/
import Derived.LoopNIn
import Derived.Test.YtbmcbbmgdcbhjaaGreatDoorProg
import Derived.KernelRfl
import Derived.Test.YtbmcbbmgdcbhjaaGreatDoorLib
import Derived.Deep.Slices
import Derived.Deep.Fields
import Derived.ChangeSame
import Derived.Below
import Derived.SizedLaws
import Derived.Lib.LaidTab
import Derived.Stop.LaidErr
import Derived.Test.YtbmcbbmgdcbhjaaGreatDoorCore9
import Derived.Laws.Externs
import Derived.MapKept
import Derived.WalkKit
import Derived.Test.YtbmcbbmgdcbhjaaGreatDoorV1
/- A machine that reckons closed calls: any operation, with what it does to blocks. It names no program. -/
noncomputable section
namespace Go.Proofs.YtbmcbbmgdcbhjaaGreatDoor.St
open Go

abbrev Outs := Option (List (AV × AH))
def one' (v : AV) (H : AH) : List (AV × AH) := [(v, H)]
def chk (P : Program) (ty : TypeId) (r : AV × AH) : Outs := bif okV P ty r.1 then some [r] else none
/-- An element of an array that is a value. -/
def aixO (P : Program) (t : TypeId) (l : List AV) (i : AV) : Option AV :=
  match P.underlying t, i with
  | some (.array n e), .i _ j => bif decide (0 ≤ j) && decide (j < n) then (match P.info? e, isAggO (P.underlying e) with
      | some inf, some true => some (.a ((l.take (j.toNat * inf.size + inf.size)).drop (j.toNat * inf.size)))
      | some inf, some false => l[j.toNat * inf.size]?
      | _, _ => none)
    else none
  | _, _ => none
/-- s[len:], where nobody knows the capacity of s. -/
def slF (P : Program) (t : TypeId) (x : AV) (lo hi mx : Option AV) : Option (AV × AV) :=
  match P.underlying t, mx, x with
  | some (.slice e), none, .su n o l d => match P.info? e with
    | some i => (bndO lo 0).bind fun a => (bndO hi l).bind fun b => bif decide (a = l) && decide (b = l) then some (.sl n o 0 0, .su n (o + l * i.size) 0 (d + l)) else none
    | none => none
  | _, _, _ => none
theorem slF_W {P : Program} {ρ : Rho} {t : TypeId} {x : AV} {lo hi mx : Option AV} {v v2 : AV} {x' : Value} {lo' hi' mx' : Option Value} (h : slF P t x lo hi mx = some (v, v2))
    (hx : emb ρ x = some x') (hl : embO ρ lo = some lo') (hh : embO ρ hi = some hi') (hm : embO ρ mx = some mx') : ∃ u, (emb ρ v = some u ∨ emb ρ v2 = some u) ∧ ∀ K : Value → Prop, K u → slW P t x' lo' hi' mx' K := by
  unfold slF at h
  split at h
  · rename_i e n o l d hu
    cases hm
    split at h
    · rename_i i hi2
      simp only [Option.bind_eq_some_iff] at h
      obtain ⟨a, ha, b, hb, h⟩ := h
      obtain ⟨hc, h⟩ := Conds.of h
      rw [Bool.and_eq_true, decide_eq_true_eq, decide_eq_true_eq] at hc
      cases h
      obtain ⟨rfl, rfl⟩ := hc
      obtain ⟨q, hq, hle, rfl⟩ := emb_su.1 hx
      by_cases he : q.c - d = l
      · refine ⟨_, .inl (emb_sl.2 ⟨q, hq, rfl⟩), fun K k => ?_⟩
        simp only [slW, hu, hi2]
        refine bndO_W ha hl (bndO_W hb hh ⟨by omega, by omega, by omega, ?_⟩)
        simp only [Int.toNat_natCast, he, if_true, Nat.sub_self]
        exact k
      · refine ⟨_, .inr (emb_su.2 ⟨q, hq, by omega, rfl⟩), fun K k => ?_⟩
        simp only [slW, hu, hi2]
        refine bndO_W ha hl (bndO_W hb hh ⟨by omega, by omega, by omega, ?_⟩)
        simp only [Int.toNat_natCast, he, if_false, Option.map_some, Addr.add_lit, Nat.sub_self]
        rw [← Nat.add_assoc, Nat.sub_add_eq] at k; exact k
    · cases h
  · cases h
def oLoad (P : Program) (gm : Nat → Option Nat) (f : Tr AV) (H : AH) (t : TypeId) (a : Operand) : Outs :=
  (eo gm f a).bind fun a => (loadO P H t a).map fun v => one' v H
def oStore (P : Program) (gm : Nat → Option Nat) (f : Tr AV) (H : AH) (t : TypeId) (a x : Operand) : Outs :=
  (eo gm f a).bind fun a => (eo gm f x).bind fun x => (storeO P H t a x).map fun H' => one' undA H'
def oBinOp (P : Program) (gm : Nat → Option Nat) (f : Tr AV) (H : AH) (o : BinOp) (t : TypeId) (x y : Operand) : Outs :=
  (binA P gm f o t x y).map fun v => one' v H
def oAlloc (P : Program) (H : AH) (e : TypeId) : Outs :=
  ((P.info? e).bind (·.zero)).bind fun z => (absL z.cells.toList).bind fun l => (newA H l).map fun H' => one' (.p H.nx 0) H'
def oBox (gm : Nat → Option Nat) (f : Tr AV) (H : AH) (x : Operand) : Outs :=
  (eo gm f x).bind fun x => (newA H (avCells x)).map fun H' => one' (.p H.nx 0) H'
def oBuildSlice (P : Program) (gm : Nat → Option Nat) (f : Tr AV) (H : AH) (t : TypeId) (n : Nat) (ps : Array (Nat × Operand)) : Outs :=
  (partsE gm f ps.toList).bind fun ps => (bslO P H t n ps).map fun r => [r]
def oMakeMap (P : Program) (gm : Nat → Option Nat) (ty : TypeId) (f : Tr AV) (H : AH) (t : TypeId) (r : Option Operand) : Outs :=
  (match r with
    | none => bif Nat.blt H.nx tmax then some (one' (.m H.nx) (H.add (.m [] 0))) else none
    | some r => (match eo gm f r, mapT P t with
      | some (.i _ _), some _ => bif Nat.blt H.nx tmax then chk P ty (.m H.nx, H.add (.m [] 0)) else none
      | _, _ => none))
def oMakeSlice (P : Program) (gm : Nat → Option Nat) (ty : TypeId) (f : Tr AV) (H : AH) (t : TypeId) (l c : Operand) : Outs :=
  (eo gm f l).bind fun l => (eo gm f c).bind fun c => (mksO P H t l c).bind fun r => chk P ty r
def oLookup (P : Program) (gm : Nat → Option Nat) (ty : TypeId) (f : Tr AV) (H : AH) (t : TypeId) (x i : Operand) (ok : Bool) : Outs :=
  (eo gm f x).bind fun x => (eo gm f i).bind fun i => (lookO P H t x i ok).bind fun v => chk P ty (v, H)
def oMapUpdate (P : Program) (gm : Nat → Option Nat) (f : Tr AV) (H : AH) (t : TypeId) (m k x : Operand) : Outs :=
  (eo gm f m).bind fun m => (eo gm f k).bind fun k => (eo gm f x).bind fun x => (updO P H t m k x).map fun H' => one' undA H'
def oInsert (P : Program) (gm : Nat → Option Nat) (f : Tr AV) (H : AH) (t : TypeId) (m k x : Operand) : Outs :=
  (eo gm f m).bind fun m => (eo gm f k).bind fun k => (eo gm f x).bind fun x => (updO P H t m k x).map fun H' => one' undA H'
def oRange (P : Program) (gm : Nat → Option Nat) (f : Tr AV) (H : AH) (t : TypeId) (x : Operand) : Outs :=
  (eo gm f x).bind fun x => (rngO P H t x).map fun r => [r]
def oConvert (P : Program) (gm : Nat → Option Nat) (ty : TypeId) (f : Tr AV) (H : AH) (op : Op) (s d : TypeId) (x : Operand) : Outs :=
  (bif isU8 P d && isStr P s then (eo gm f x).bind fun v => (stbO P H s d v).bind fun r => chk P ty r
      else bif isU8 P s && isStr P d then (eo gm f x).bind fun v => (btsO P H s d v).bind fun v => chk P ty (v, H)
      else (pureO P gm op ty f).map fun v => one' v H)
def oIndex (P : Program) (gm : Nat → Option Nat) (ty : TypeId) (f : Tr AV) (H : AH) (op : Op) (t : TypeId) (x i : Operand) : Outs :=
  (match eo gm f x with
    | some (.a l) => (eo gm f i).bind fun i => (aixO P t l i).bind fun v => chk P ty (v, H)
    | _ => (pureO P gm op ty f).map fun v => one' v H)
def oSlice (P : Program) (gm : Nat → Option Nat) (f : Tr AV) (H : AH) (t : TypeId) (x : Operand) (lo hi mx : Option Operand) : Outs :=
  (eo gm f x).bind fun x => (eoO gm f lo).bind fun lo => (eoO gm f hi).bind fun hi => (eoO gm f mx).bind fun mx => (match slF P t x lo hi mx with
    | some (v, v2) => some [(v, H), (v2, H)]
    | none => (slO P t x lo hi mx).map fun v => one' v H)
def oNext (gm : Nat → Option Nat) (f : Tr AV) (H : AH) (it : Operand) (s : Bool) : Outs :=
  (eo gm f it).bind fun it => nxtO H it s
def oEntry (gm : Nat → Option Nat) (f : Tr AV) (H : AH) (it : Operand) : Outs :=
  (eo gm f it).bind fun it => (entO H it).map fun v => one' v H
def oCall (P : Program) (gm : Nat → Option Nat) (cl : AV → List AV → AH → Outs) (ty : TypeId) (f : Tr AV) (H : AH) (op : Op) (c : Call) : Outs :=
  (match c.callee with
    | .value x => (eo gm f x).bind fun x => (eoL gm f c.args.toList).bind fun ags => (cl x ags H).bind fun outs => bif outs.all fun o => okV P ty o.1 then some outs else none
    | .builtin b => (match b, c.argTypes.toList, eoL gm f c.args.toList with
      | .append, ats, some (s :: x :: _) => (appO P H ats s x).bind fun r => chk P ty r
      | .cap, t :: _, some (.ns :: _) => (match P.underlying t with | some (.slice _) => some (one' (.i .i64 0) H) | _ => none)
      | .cap, t :: _, some (.sl _ _ _ c :: _) => (match P.underlying t with | some (.slice _) => some (one' (.i .i64 (c : Int)) H) | _ => none)
      | .copy, t :: _, some (d :: s :: _) => (copO P H t d s).bind fun r => chk P ty r
      | .delete, t :: _, some (m :: k :: _) => (delO P H t m k).bind fun H' => chk P ty (.t [], H')
      | .len, t :: _, some (.m n :: _) => (match getM H n, mapT P t with | some (es, _), some _ => some (one' (.i .i64 (es.length : Int)) H) | _, _ => none)
      | .len, t :: _, some (.nm :: _) => (match mapT P t with | some _ => some (one' (.i .i64 0) H) | _ => none)
      | _, _, _ => (pureO P gm op ty f).map fun v => one' v H)
    | _ => none)
/-- Any operation; 'cl' says what a call of a function value does. -/
def opM (P : Program) (gm : Nat → Option Nat) (cl : AV → List AV → AH → Outs) (op : Op) (ty : TypeId) (f : Tr AV) (H : AH) : Outs :=
  match op with
  | .load t a => oLoad P gm f H t a
  | .store t a x => oStore P gm f H t a x
  | .binOp o t x y _ => oBinOp P gm f H o t x y
  | .alloc e => oAlloc P H e
  | .box _ x => oBox gm f H x
  | .buildSlice t n ps => oBuildSlice P gm f H t n ps
  | .makeMap t r => oMakeMap P gm ty f H t r
  | .makeSlice t l c => oMakeSlice P gm ty f H t l c
  | .lookup t x i ok => oLookup P gm ty f H t x i ok
  | .mapUpdate t m k x => oMapUpdate P gm f H t m k x
  | .insert t m k x => oInsert P gm f H t m k x
  | .range t x => oRange P gm f H t x
  | .convert s d x => oConvert P gm ty f H op s d x
  | .index t x i => oIndex P gm ty f H op t x i
  | .slice t x lo hi mx => oSlice P gm f H t x lo hi mx
  | .next it s => oNext gm f H it s
  | .entry it => oEntry gm f H it
  | .call c => oCall P gm cl ty f H op c
  | _ => (pureO P gm op ty f).map fun v => one' v H
def AllK (B : World) (ρ : Rho) (outs : List (AV × AH)) (K : Value → World → Prop) : Prop := ∀ o ∈ outs, ∀ ρ' w' x, ρ.le ρ' → Rep B ρ' o.2 w' → emb ρ' o.1 = some x → K x w'
section
variable {P : Program} {B w : World} {ρ : Rho} {H : AH} {gm : Nat → Option Nat} {f : Tr AV} {g : Fr} (hf : FrR ρ f g) (hg : GmR ρ gm) (hR : Rep B ρ H w)
omit hf hg hR in
theorem aixO_W {t : TypeId} {l : List AV} {i v : AV} {xs : List Value} {i' : Value} (h : aixO P t l i = some v) (hx : embL ρ l = some xs) (hi : emb ρ i = some i') :
    ∃ u, emb ρ v = some u ∧ (Instr.index t (.agg ⟨xs⟩) i').run P w = .ok u w ∧ ∃ n e, P.underlying t = some (.array n e) := by
  unfold aixO at h
  split at h
  rotate_left
  · cases h
  rename_i n e kd j hu
  have hc := (Conds.of h).1
  replace h := (Conds.of h).2
  rw [Bool.and_eq_true, decide_eq_true_eq, decide_eq_true_eq] at hc
  cases hi
  split at h
  · rename_i inf hinf ha
    cases h
    refine ⟨.agg ⟨(xs.take (j.toNat * inf.size + inf.size)).drop (j.toNat * inf.size)⟩, by simp only [emb, embL_drop _ (embL_take _ hx)]; rfl, ?_, n, e, hu⟩
    have hg : (isAgg e).run P w = .ok true w := by
      unfold isAggO at ha
      split at ha
      · rename_i h'; simp [isAgg, run_underlying' h', Result.andThen]
      · rename_i h'; simp [isAgg, run_underlying' h', Result.andThen]
      · cases ha
      · cases ha
    have he : (⟨xs⟩ : Array Value).extract (j.toNat * inf.size) (j.toNat * inf.size + inf.size) = ⟨(xs.take (j.toNat * inf.size + inf.size)).drop (j.toNat * inf.size)⟩ := by
      apply Array.toList_inj.1
      simp [List.extract_eq_take_drop, List.drop_take]
    simp [Instr.index, asIntOf, run_underlying' hu, Result.andThen, hc.1, hc.2, run_sizeOf' hinf, part, hg, ← he]
  · rename_i inf hinf ha
    obtain ⟨c, hc', hv⟩ := embL_get hx h
    refine ⟨c, hv, ?_, n, e, hu⟩
    have hg : (isAgg e).run P w = .ok false w := by
      unfold isAggO at ha
      split at ha
      · cases ha
      · cases ha
      · rename_i d n1 n2 h'
        rw [isAgg_run h']
        cases d <;> first | rfl | exact absurd rfl (n1 _) | exact absurd rfl (n2 _ _)
      · cases ha
    simp [Instr.index, asIntOf, run_underlying' hu, Result.andThen, hc.1, hc.2, run_sizeOf' hinf, part, hg, hc']
  · cases h
theorem AllK.one {v : AV} {H' : AH} {K : Value → World → Prop} (h : AllK B ρ [(v, H')] K) {ρ' : Rho} {w' : World} {x : Value} (h1 : ρ.le ρ') (h2 : Rep B ρ' H' w') (h3 : emb ρ' v = some x) : K x w' :=
  h _ (List.mem_singleton.2 rfl) ρ' w' x h1 h2 h3
theorem AllK.does {outs : List (AV × AH)} {K : Value → World → Prop} {W : (Value → World → Prop) → Prop} (hd : Does B ρ outs W) (h : AllK B ρ outs K) : W K :=
  let ⟨_, ho, _, _, _, h1, h2, h3, h4⟩ := hd
  h4 K (h _ ho _ _ _ h1 h2 h3)
theorem chk_some {ty : TypeId} {r : AV × AH} {outs : List (AV × AH)} (h : chk P ty r = some outs) : okV P ty r.1 = true ∧ outs = [r] := by
  obtain ⟨hc, h⟩ := Conds.of h
  cases h
  exact ⟨hc, rfl⟩
include hf hg hR
theorem opM_W {cl : AV → List AV → AH → Outs} (hcl : ∀ fv ags outs fv' ags', cl fv ags H = some outs → emb ρ fv = some fv' → embL ρ ags = some ags' → ∀ K, AllK B ρ outs K → CaV P fv' ⟨ags'⟩ w K)
    {op : Op} {ty : TypeId} {outs : List (AV × AH)} (h : opM P gm cl op ty f H = some outs) {K : Value → World → Prop} (hK : AllK B ρ outs K) : opW P op ty g w K := by
  have pure1 : ∀ {op : Op}, ((pureO P gm op ty f).map fun v => one' v H) = some outs → opW P op ty g w K := fun {op} h => by
    obtain ⟨v, hv, rfl⟩ := Option.map_eq_some_iff.1 h
    obtain ⟨u, hu, hk, _⟩ := pureO_W hf hg hv w
    exact hk K (hK.one (Rho.le.refl _) hR hu)
  cases op <;> simp only [opM, oLoad, oStore, oBinOp, oAlloc, oBox, oBuildSlice, oMakeMap, oMakeSlice, oLookup, oMapUpdate, oInsert, oRange, oConvert, oIndex, oSlice, oNext, oEntry, oCall] at h
  case load t a =>
    obtain ⟨a', ha, h⟩ := Option.bind_eq_some_iff.1 h
    obtain ⟨v, hv, rfl⟩ := Option.map_eq_some_iff.1 h
    obtain ⟨u, hu, hk⟩ := loadO_W hR hv (eo_ok hf hg ha)
    exact hk (K · w) (hK.one (Rho.le.refl _) hR hu)
  case store t a x =>
    obtain ⟨a', ha, h⟩ := Option.bind_eq_some_iff.1 h
    obtain ⟨x', hx, h⟩ := Option.bind_eq_some_iff.1 h
    obtain ⟨H', hH, rfl⟩ := Option.map_eq_some_iff.1 h
    obtain ⟨w', hR', hk⟩ := storeO_W hR hH (eo_ok hf hg ha) (eo_ok hf hg hx)
    exact hk (K undef ·) (hK.one (Rho.le.refl _) hR' undA_emb)
  case binOp o t x y yt =>
    obtain ⟨v, hv, rfl⟩ := Option.map_eq_some_iff.1 h
    cases hn : isNilC y with
    | true =>
      simp only [binA, hn, cond_true] at hv
      obtain ⟨x', hx, hv⟩ := Option.bind_eq_some_iff.1 hv
      obtain ⟨u, hu, hk⟩ := nilBO_W hv (eo_ok hf hg hx) (w := w)
      simp only [opW, hn, cond_true]
      exact hk K (hK.one (Rho.le.refl _) hR hu)
    | false =>
      simp only [binA, hn, cond_false] at hv
      obtain ⟨x', hx, hv⟩ := Option.bind_eq_some_iff.1 hv
      obtain ⟨y', hy, hv⟩ := Option.bind_eq_some_iff.1 hv
      obtain ⟨u, hu, hk⟩ := binO_W hv (eo_ok hf hg hx) (eo_ok hf hg hy) w
      simp only [opW, hn, cond_false]
      exact hk K (hK.one (Rho.le.refl _) hR hu)
  case alloc e =>
    obtain ⟨z, hz, h⟩ := Option.bind_eq_some_iff.1 h
    obtain ⟨l, hl, h⟩ := Option.bind_eq_some_iff.1 h
    obtain ⟨H', hH, rfl⟩ := Option.map_eq_some_iff.1 h
    obtain ⟨ρ', a1, a2, a3⟩ := newA_W (c := z.cells) (e := e) hR hH (absL_emb hl)
    simp only [opW, hz]
    exact fun w' e' => by subst e'; exact hK.one a1 a2 (emb_p.2 ⟨_, a3, rfl⟩)
  case box e x =>
    obtain ⟨x', hx, h⟩ := Option.bind_eq_some_iff.1 h
    obtain ⟨H', hH, rfl⟩ := Option.map_eq_some_iff.1 h
    obtain ⟨ρ', a1, a2, a3⟩ := newA_W (c := (ev g x).cells) (e := e) hR hH (avCells_emb (eo_ok hf hg hx))
    exact fun w' e' => by subst e'; exact hK.one a1 a2 (emb_p.2 ⟨_, a3, rfl⟩)
  case buildSlice t n ps =>
    obtain ⟨ps', hps, h⟩ := Option.bind_eq_some_iff.1 h
    obtain ⟨r, hr, rfl⟩ := Option.map_eq_some_iff.1 h
    exact AllK.does (bslO_W hR hr (partsE_ok hf hg hps)) hK
  case makeMap t r =>
    have key : Nat.blt H.nx tmax = true → ∃ ρ', ρ.le ρ' ∧ Rep B ρ' (H.add (.m [] 0)) (w.alloc (.map #[] 0)) ∧ ρ'.at_ H.nx = some ⟨w.heap.size, 0, 0⟩ := fun hc =>
      hR.add1 (x := .map #[] 0) (o := .m [] 0) hc rfl rfl fun ρ' _ => ⟨#[], new_at _ _, trivial⟩
    cases r with
    | none =>
      obtain ⟨hc, h⟩ := Conds.of h
      cases h
      obtain ⟨ρ', a1, a2, a3⟩ := key hc
      exact fun w' e' => by subst e'; exact hK.one a1 a2 (emb_m.2 ⟨_, a3, rfl⟩)
    | some r =>
      simp only at h
      split at h
      · rename_i kt et hr hm
        obtain ⟨hc, h⟩ := Conds.of h
        obtain ⟨hc2, rfl⟩ := chk_some h
        obtain ⟨ρ', a1, a2, a3⟩ := key hc
        have e1 := eo_ok hf hg hr
        have hu := mapT_W (k := (‹TypeId × TypeId›).1) (e := (‹TypeId × TypeId›).2) hm
        refine runV_in hc2 (emb_m.2 ⟨_, a3, rfl⟩) ?_ (hK.one a1 a2 (emb_m.2 ⟨_, a3, rfl⟩))
        simp only [emb, Option.some.injEq] at e1
        simp [Instr.makeMap, run_underlying' hu, Result.andThen, ← e1, asInt, asIntOf]
      · cases h
  case makeSlice t l c =>
    obtain ⟨l', hl, h⟩ := Option.bind_eq_some_iff.1 h
    obtain ⟨c', hc, h⟩ := Option.bind_eq_some_iff.1 h
    obtain ⟨r, hr, h⟩ := Option.bind_eq_some_iff.1 h
    obtain ⟨hc2, rfl⟩ := chk_some h
    obtain ⟨ρ', w', x, a1, a2, a3, a4⟩ := mksO_W hR hr (eo_ok hf hg hl) (eo_ok hf hg hc)
    exact runV_in hc2 a3 a4 (hK.one a1 a2 a3)
  case lookup t x i ok =>
    obtain ⟨x', hx, h⟩ := Option.bind_eq_some_iff.1 h
    obtain ⟨i', hi, h⟩ := Option.bind_eq_some_iff.1 h
    obtain ⟨v, hv, h⟩ := Option.bind_eq_some_iff.1 h
    obtain ⟨hc2, rfl⟩ := chk_some h
    obtain ⟨u, hu, hr⟩ := lookO_W hR hv (eo_ok hf hg hx) (eo_ok hf hg hi)
    exact runV_in hc2 hu hr (hK.one (Rho.le.refl _) hR hu)
  case mapUpdate t m k x =>
    obtain ⟨m', hm, h⟩ := Option.bind_eq_some_iff.1 h
    obtain ⟨k', hk, h⟩ := Option.bind_eq_some_iff.1 h
    obtain ⟨x', hx, h⟩ := Option.bind_eq_some_iff.1 h
    obtain ⟨H', hH, rfl⟩ := Option.map_eq_some_iff.1 h
    obtain ⟨w', hR', hr⟩ := updO_W hR hH (eo_ok hf hg hm) (eo_ok hf hg hk) (eo_ok hf hg hx)
    exact ⟨w', hr, hK.one (Rho.le.refl _) hR' undA_emb⟩
  case insert t m k x =>
    obtain ⟨m', hm, h⟩ := Option.bind_eq_some_iff.1 h
    obtain ⟨k', hk, h⟩ := Option.bind_eq_some_iff.1 h
    obtain ⟨x', hx, h⟩ := Option.bind_eq_some_iff.1 h
    obtain ⟨H', hH, rfl⟩ := Option.map_eq_some_iff.1 h
    obtain ⟨w', hR', hr⟩ := updO_W hR hH (eo_ok hf hg hm) (eo_ok hf hg hk) (eo_ok hf hg hx)
    exact ⟨w', hr, hK.one (Rho.le.refl _) hR' undA_emb⟩
  case range t x =>
    obtain ⟨x', hx, h⟩ := Option.bind_eq_some_iff.1 h
    obtain ⟨r, hr, rfl⟩ := Option.map_eq_some_iff.1 h
    exact AllK.does (rngO_W hR hr (eo_ok hf hg hx)) hK
  case convert s d x =>
    cases h1 : (isU8 P d && isStr P s) with
    | true =>
      rw [h1] at h
      rw [Bool.and_eq_true] at h1
      obtain ⟨v, hv, h⟩ := Option.bind_eq_some_iff.1 h
      obtain ⟨r, hr, h⟩ := Option.bind_eq_some_iff.1 h
      obtain ⟨hc2, rfl⟩ := chk_some h
      obtain ⟨ρ', w', u, a1, a2, a3, a4⟩ := stbO_W hR hr (eo_ok hf hg hv)
      obtain ⟨e, hd, _⟩ := isU8_W h1.1
      simp only [opW]
      unfold cvW
      split
      · rename_i hd' ; rw [hd] at hd'; cases hd'
      · rename_i hd' ; rw [hd] at hd'; cases hd'
      · exact runV_in hc2 a3 a4 (hK.one a1 a2 a3)
    | false =>
      rw [h1] at h
      simp only [cond_false] at h
      cases h2 : (isU8 P s && isStr P d) with
      | true =>
        rw [h2] at h
        rw [Bool.and_eq_true] at h2
        obtain ⟨v, hv, h⟩ := Option.bind_eq_some_iff.1 h
        obtain ⟨r, hr, h⟩ := Option.bind_eq_some_iff.1 h
        obtain ⟨hc2, rfl⟩ := chk_some h
        obtain ⟨u, a3, a4⟩ := btsO_W hR hr (eo_ok hf hg hv)
        obtain ⟨e, hs, _⟩ := isU8_W h2.1
        have hd := isStr_W h2.2
        simp only [opW]
        unfold cvW
        split
        · rename_i hd' ; rw [hd] at hd'; cases hd'
        · rename_i hx hs' hd'
          have hs'' := hs
          have h5 : ∃ a l c, ev g x = .slice a l c := by
            have e1 := eo_ok hf hg hv
            unfold btsO at hr
            have hr := (Conds.of hr).2
            split at hr
            · exact ⟨_, _, _, (Option.some.inj e1).symm⟩
            · obtain ⟨q, _, e1⟩ := emb_sl.1 e1; exact ⟨_, _, _, e1⟩
            · obtain ⟨q, _, _, e1⟩ := emb_su.1 e1; exact ⟨_, _, _, e1⟩
            · cases hr
          obtain ⟨a, l, c, h5⟩ := h5
          simp_all
        · exact runV_in hc2 a3 a4 (hK.one (Rho.le.refl _) hR a3)
      | false =>
        rw [h2] at h
        exact pure1 h
  case index t x i =>
    split at h
    · rename_i l hx
      obtain ⟨i', hi, h⟩ := Option.bind_eq_some_iff.1 h
      obtain ⟨v, hv, h⟩ := Option.bind_eq_some_iff.1 h
      obtain ⟨hc2, rfl⟩ := chk_some h
      obtain ⟨xs, hxs, e⟩ := Option.map_eq_some_iff.1 (eo_ok hf hg hx)
      obtain ⟨u, hu, hr, hne⟩ := aixO_W (w := w) hv hxs (eo_ok hf hg hi)
      simp only [opW, ← e]
      unfold ixW
      split
      · rename_i he _; cases he
      · exact runV_in hc2 hu hr (hK.one (Rho.le.refl _) hR hu)
    · exact pure1 h
  case slice t x lo hi mx =>
    obtain ⟨x', hx, h⟩ := Option.bind_eq_some_iff.1 h
    obtain ⟨lo', hlo, h⟩ := Option.bind_eq_some_iff.1 h
    obtain ⟨hi', hhi, h⟩ := Option.bind_eq_some_iff.1 h
    obtain ⟨mx', hmx, h⟩ := Option.bind_eq_some_iff.1 h
    split at h
    · rename_i v v2 hv
      cases h
      obtain ⟨u, hu, hk⟩ := slF_W hv (eo_ok hf hg hx) (eoO_ok hf hg hlo) (eoO_ok hf hg hhi) (eoO_ok hf hg hmx)
      refine hk (K · w) ?_
      rcases hu with hu | hu
      · exact hK (v, H) (.head _) ρ w u (Rho.le.refl _) hR hu
      · exact hK (v2, H) (.tail _ (.head _)) ρ w u (Rho.le.refl _) hR hu
    · obtain ⟨v, hv, rfl⟩ := Option.map_eq_some_iff.1 h
      obtain ⟨u, hu, hk⟩ := slO_W hv (eo_ok hf hg hx) (eoO_ok hf hg hlo) (eoO_ok hf hg hhi) (eoO_ok hf hg hmx)
      exact hk (K · w) (hK.one (Rho.le.refl _) hR hu)
  case next it s =>
    obtain ⟨it', hit, h⟩ := Option.bind_eq_some_iff.1 h
    exact AllK.does (nxtO_W hR h (eo_ok hf hg hit) ty) hK
  case entry it =>
    obtain ⟨it', hit, h⟩ := Option.bind_eq_some_iff.1 h
    obtain ⟨v, hv, rfl⟩ := Option.map_eq_some_iff.1 h
    obtain ⟨u, hu, hk⟩ := entO_W hR hv (eo_ok hf hg hit)
    exact hk K (hK.one (Rho.le.refl _) hR hu)
  case call c =>
    split at h
    · rename_i x hx0
      obtain ⟨x', hx, h⟩ := Option.bind_eq_some_iff.1 h
      obtain ⟨ags, has, h⟩ := Option.bind_eq_some_iff.1 h
      obtain ⟨o, ho, h⟩ := Option.bind_eq_some_iff.1 h
      obtain ⟨hc, h⟩ := Conds.of h
      cases h
      rw [List.all_eq_true] at hc
      simp only [opW, calW, hx0]
      refine hcl _ _ _ _ _ ho (eo_ok hf hg hx) (eoL_ok hf hg has) _ fun o hoo ρ' w' v a1 a2 a3 => ?_
      exact okV_in (hc o hoo) a3 ⟨rfl, hK o hoo ρ' w' v a1 a2 a3⟩
    · rename_i b hb
      split at h
      · rename_i ats s x r hax
        obtain ⟨r', hr', h⟩ := Option.bind_eq_some_iff.1 h
        obtain ⟨hc2, rfl⟩ := chk_some h
        obtain ⟨s', r1, hs, hr1, e⟩ := embL_cons.1 (eoL_ok hf hg hax)
        obtain ⟨x', r2, hx, hr2, rfl⟩ := embL_cons.1 hr1
        obtain ⟨ρ', w', u, a1, a2, a3, a4⟩ := appO_W hR hr' hs hx ty r2
        simp only [opW, calW, hb, biW, e]
        exact runV_in hc2 a3 a4 (hK.one a1 a2 a3)
      · rename_i t ts r hat hax
        split at h
        · rename_i hu
          cases h
          obtain ⟨d', r1, hd, hr1, e⟩ := embL_cons.1 (eoL_ok hf hg hax)
          cases hd
          simp only [opW, calW, hb, biW, hat, e, hu]
          exact hK.one (Rho.le.refl _) hR rfl
        · cases h
      · rename_i t ts n o l c r hat hax
        split at h
        · rename_i hu
          cases h
          obtain ⟨d', r1, hd, hr1, e⟩ := embL_cons.1 (eoL_ok hf hg hax)
          obtain ⟨q, _, rfl⟩ := emb_sl.1 hd
          simp only [opW, calW, hb, biW, hat, e, hu]
          exact hK.one (Rho.le.refl _) hR rfl
        · cases h
      · rename_i t ts d s r hat hax
        obtain ⟨r', hr', h⟩ := Option.bind_eq_some_iff.1 h
        obtain ⟨hc2, rfl⟩ := chk_some h
        obtain ⟨d', r1, hd, hr1, e⟩ := embL_cons.1 (eoL_ok hf hg hax)
        obtain ⟨s', r2, hs, hr2, rfl⟩ := embL_cons.1 hr1
        obtain ⟨w', u, hR', hu, hr⟩ := copO_W (ty := ty) (ts := ts) (r := r2) hR hr' hd hs
        have hat' : c.argTypes = ⟨t :: ts⟩ := by rw [← hat]
        simp only [opW, calW, hb, biW, e, hat']
        exact runV_in (ρ := ρ) hc2 hu hr (hK.one (Rho.le.refl _) hR' hu)
      · rename_i t ts m k r hat hax
        obtain ⟨H', hH, h⟩ := Option.bind_eq_some_iff.1 h
        obtain ⟨hc2, rfl⟩ := chk_some h
        obtain ⟨m', r1, hm, hr1, e⟩ := embL_cons.1 (eoL_ok hf hg hax)
        obtain ⟨k', r2, hk, hr2, rfl⟩ := embL_cons.1 hr1
        obtain ⟨w', hR', hr⟩ := delO_W (ty := ty) (ts := ts) (r := r2) hR hH hm hk
        have hat' : c.argTypes = ⟨t :: ts⟩ := by rw [← hat]
        simp only [opW, calW, hb, biW, e, hat']
        exact runV_in (ρ := ρ) hc2 rfl hr (hK.one (Rho.le.refl _) hR' rfl)
      · rename_i t ts n r hat hax
        split at h
        · rename_i es ck kt hgm hm
          cases h
          have hu := mapT_W (k := kt.1) (e := kt.2) hm
          obtain ⟨m', r1, hm', hr1, e⟩ := embL_cons.1 (eoL_ok hf hg hax)
          obtain ⟨q', hq', rfl⟩ := emb_m.1 hm'
          obtain ⟨hg1, q, hq, xs, hb', hE⟩ := getM_W hR hgm
          obtain rfl := Option.some.inj (hq.symm.trans hq')
          simp only [opW, calW, hb, biW, hat, e, lenW, hu, lenM]
          refine ⟨xs, ck, hb', ?_⟩
          have : xs.size = es.length := by rw [← hE.len]; simp
          rw [this]
          exact hK.one (Rho.le.refl _) hR rfl
        · cases h
      · rename_i t ts r hat hax
        split at h
        · rename_i kt hm
          cases h
          have hu := mapT_W (k := kt.1) (e := kt.2) hm
          obtain ⟨m', r1, hm', hr1, e⟩ := embL_cons.1 (eoL_ok hf hg hax)
          cases hm'
          simp only [opW, calW, hb, biW, hat, e, lenW, hu, lenM]
          exact hK.one (Rho.le.refl _) hR rfl
        · cases h
      · exact pure1 h
    · cases h
  all_goals exact pure1 h
end
end Go.Proofs.YtbmcbbmgdcbhjaaGreatDoor.St

/- A machine that reckons closed calls: regions, in the text's order and by plans. It names no program. -/
noncomputable section
namespace Go.Proofs.YtbmcbbmgdcbhjaaGreatDoor.St
open Go

def flatM {α β : Type} (g : α → Option (List β)) : List α → Option (List β)
  | [] => some []
  | [a] => g a
  | a :: b :: l => (g a).bind fun x => (flatM g (b :: l)).map fun y => x ++ y
theorem flatM_mem {α β : Type} {g : α → Option (List β)} : ∀ {l : List α} {outs : List β}, flatM g l = some outs → ∀ a ∈ l, ∃ o, g a = some o ∧ ∀ x ∈ o, x ∈ outs
  | [], _, _, a, ha => by simp at ha
  | [a], outs, h, b, hb => by
    rw [List.mem_singleton] at hb
    subst hb
    exact ⟨_, h, fun _ h => h⟩
  | a :: c :: l, outs, h, b, hb => by
    simp only [flatM] at h
    obtain ⟨x, hx, h⟩ := Option.bind_eq_some_iff.1 h
    obtain ⟨y, hy, rfl⟩ := Option.map_eq_some_iff.1 h
    rcases List.mem_cons.1 hb with rfl | hb
    · exact ⟨x, hx, fun z hz => List.mem_append_left _ hz⟩
    · obtain ⟨o, ho, hm⟩ := flatM_mem hy b hb
      exact ⟨o, ho, fun z hz => List.mem_append_right _ (hm z hz)⟩

def wantE (ops : List Oper) (o : Oper) (f : Tr AV) : Option Bool :=
  match o.guard with
  | none => some true
  | some (j, want) => match (ops[j]?).bind (·.dst) with
    | some t => (match f.get t with
      | some (.b b) => some (b == want)
      | some (.t _) => some false
      | _ => none)
    | none => none
def okSrc (ops : List Oper) (i : Nat) (v : AV) : Bool :=
  match v with
  | .b _ => true
  | _ => !(isSrc ops i)
abbrev FOuts := Option (List (Tr AV × AH))
def wplE (P : Program) (gm : Nat → Option Nat) (cl : AV → List AV → AH → Outs) (ops : List Oper) : List Oper → Nat → Tr AV → AH → FOuts
  | [], _, f, H => some [(f, H)]
  | o :: rest, i, f, H => match wantE ops o f with
    | none => none
    | some true => (opM P gm cl o.op o.type f H).bind fun outs => flatM (fun r => bif okDst o.dst && okSrc ops i r.1 then wplE P gm cl ops rest (i + 1) (putA f o.dst r.1) r.2 else none) outs
    | some false => bif okDst o.dst then wplE P gm cl ops rest (i + 1) (putA f o.dst undA) H else none

def eqV : AV → AV → Bool
  | .b x, .b y => x == y
  | .i k x, .i k' y => sameK k k' && decide (x = y)
  | .s x, .s y => x == y
  | .np, .np => true
  | .p a b, .p c d => Nat.beq a c && Nat.beq b d
  | .ns, .ns => true
  | .sl a b c d, .sl a' b' c' d' => Nat.beq a a' && Nat.beq b b' && Nat.beq c c' && Nat.beq d d'
  | .su a b c d, .su a' b' c' d' => Nat.beq a a' && Nat.beq b b' && Nat.beq c c' && Nat.beq d d'
  | .nm, .nm => true
  | .m a, .m b => Nat.beq a b
  | .nf, .nf => true
  | .ni, .ni => true
  | .f a [] [], .f b [] [] => Nat.beq a b
  | .oi k a, .oi k' b => sameK k k' && Nat.beq a b
  | .ob a, .ob b => Nat.beq a b
  | .os a, .os b => Nat.beq a b
  | .ol a, .ol b => Nat.beq a b
  | _, _ => false
def eqVs : List AV → List AV → Bool
  | [], [] => true
  | a :: l, b :: r => eqV a b && eqVs l r
  | _, _ => false
theorem eqV_eq {a b : AV} (h : eqV a b = true) : a = b := by
  unfold eqV at h
  split at h
  all_goals try (cases h; done)
  all_goals try rfl
  all_goals simp only [Bool.and_eq_true, beq_iff, beq_iff_eq, decide_eq_true_eq] at h
  · rw [h]
  · rw [sameK_eq h.1, h.2]
  · rw [h]
  · rw [h.1, h.2]
  · rw [h.1.1.1, h.1.1.2, h.1.2, h.2]
  · rw [h.1.1.1, h.1.1.2, h.1.2, h.2]
  · rw [h]
  · rw [h]
  · rw [sameK_eq h.1, h.2]
  · rw [h]
  · rw [h]
  · rw [h]
theorem eqVs_eq : ∀ {l r : List AV}, eqVs l r = true → l = r
  | [], [], _ => rfl
  | [], _ :: _, h => by cases h
  | _ :: _, [], h => by cases h
  | a :: l, b :: r, h => by
    simp only [eqVs, Bool.and_eq_true] at h
    rw [eqV_eq h.1, eqVs_eq h.2]
def partsA (P : Program) (t : TypeId) (v : AV) : List AV :=
  match ctU (P.underlying t) with
  | some none => avCells v
  | _ => [v]
def heldE (P : Program) (gm : Nat → Option Nat) (ops : List Oper) (f : Tr AV) (H : AH) : List Nat → Bool
  | [] => true
  | j :: js => (match ops[j]? with
    | some o => (match o.op, o.dst with
      | .load t a, some d => (match eo gm f a, f.get d with
        | some (.p n o'), some v => (match getC H n with
          | some (vs, _) => eqVs ((vs.drop o').take (partsA P t v).length) (partsA P t v)
          | none => false)
        | _, _ => false)
      | _, _ => false)
    | none => false) && heldE P gm ops f H js
/-- What may be asked at any moment. -/
def quietO (P : Program) (gm : Nat → Option Nat) (o : Oper) (f : Tr AV) (H : AH) : Option AV :=
  match o.op with
  | .load t a => (eo gm f a).bind fun a => loadO P H t a
  | .binOp op t x y _ => (eo gm f x).bind fun x => (eo gm f y).bind fun y => (match x with | .a _ => none | _ => binO P op t x y)
  | op => pureO P gm op o.type f
def plE (P : Program) (gm : Nat → Option Nat) (cl : AV → List AV → AH → Outs) (ops : List Oper) : Plan → Tr AV → AH → FOuts
  | .done, f, H => some [(f, H)]
  | .quiet i p, f, H => (match ops[i]? with
    | none => none
    | some o => (match wantE ops o f with
      | none => none
      | some true => (quietO P gm o f H).bind fun v => bif okDst o.dst && okSrc ops i v then plE P gm cl ops p (putA f o.dst v) H else none
      | some false => bif okDst o.dst then plE P gm cl ops p (putA f o.dst undA) H else none))
  | .eff i hold p, f, H => (match ops[i]? with
    | none => none
    | some o => (match wantE ops o f with
      | none => none
      | some true => (opM P gm cl o.op o.type f H).bind fun outs => flatM (fun r => bif okDst o.dst && (okSrc ops i r.1 && heldE P gm ops f r.2 hold) then plE P gm cl ops p (putA f o.dst r.1) r.2 else none) outs
      | some false => bif okDst o.dst then plE P gm cl ops p (putA f o.dst undA) H else none))
  | .fork p q, f, H => (plE P gm cl ops p f H).bind fun x => (plE P gm cl ops q f H).map fun y => x ++ y

def AllF (B : World) (ρ : Rho) (outs : List (Tr AV × AH)) (Q : Fr → World → Prop) : Prop := ∀ o ∈ outs, ∀ ρ' g' w', ρ.le ρ' → Rep B ρ' o.2 w' → FrR ρ' o.1 g' → Q g' w'
/-- What calls may lean on. -/
structure Env0 (gm : Nat → Option Nat) (E : Rho → Prop) : Prop where
  mono : ∀ ρ ρ', ρ.le ρ' → E ρ → E ρ'
  gm : ∀ ρ, E ρ → GmR ρ gm
def ClOK (P : Program) (B : World) (E : Rho → Prop) (cl : AV → List AV → AH → Outs) : Prop :=
  ∀ ρ H w, Rep B ρ H w → E ρ → ∀ fv ags outs fv' ags', cl fv ags H = some outs → emb ρ fv = some fv' → embL ρ ags = some ags' → ∀ K, AllK B ρ outs K → CaV P fv' ⟨ags'⟩ w K
section
variable {P : Program} {B : World} {gm : Nat → Option Nat} {E : Rho → Prop} (hE : Env0 gm E) {cl : AV → List AV → AH → Outs} (hcl : ClOK P B E cl) {ops : Array Oper}
theorem wantE_W {o : Oper} {f : Tr AV} {g : Fr} {ρ : Rho} (hf : FrR ρ f g) {b : Bool} (h : wantE ops.toList o f = some b) {X Y : Prop} (h1 : b = true → X) (h2 : b = false → Y) : ifWant ops o g X Y := by
  unfold wantE at h
  unfold ifWant
  split at h
  · rename_i hg; rw [hg]; cases h; exact h1 rfl
  · rename_i j want hg
    rw [hg]
    split at h
    · rename_i t ht
      have ht' : (ops[j]?).bind (·.dst) = some t := by rw [← ht]; simp
      simp only [ht']
      split at h
      · rename_i b' hb
        cases h
        have e : g t = .bool b' := by have := hf t _ hb; simpa [emb] using this.symm
        simp only [e]
        cases hc : (b' == want) with
        | true => exact h1 hc
        | false => exact h2 hc
      · rename_i l hb
        cases h
        have := hf t _ hb
        obtain ⟨xs, _, e⟩ := Option.map_eq_some_iff.1 this
        simp only [← e]
        exact h2 rfl
      · cases h
    · cases h
theorem partB_in {i : Nat} {v : AV} {x : Value} {ρ : Rho} (h : okSrc ops.toList i v = true) (hv : emb ρ v = some x) {K : Value → Prop} (hk : K x) : partB (isSrc ops.toList i) x K := by
  unfold partB
  unfold okSrc at h
  split at h
  · cases hv
    cases isSrc ops.toList i with
    | false => exact hk
    | true =>
      rename_i b
      cases b
      · exact hk
      · exact hk
  · simp only [Bool.not_eq_true'] at h
    rw [h]; exact hk
include hE hcl
theorem wplE_W : ∀ (l : List Oper) (i : Nat) {f : Tr AV} {g : Fr} {ρ : Rho} {H : AH} {w : World} {outs : List (Tr AV × AH)}, wplE P gm cl ops.toList l i f H = some outs → FrR ρ f g → Rep B ρ H w → E ρ → ∀ {Q : Fr → World → Prop}, AllF B ρ outs Q → wpL P ops Q l i g w
  | [], i, f, g, ρ, H, w, outs, h, hf, hR, he, Q, hQ => by
    cases h
    exact hQ _ (List.mem_singleton.2 rfl) ρ g w (Rho.le.refl _) hR hf
  | o :: rest, i, f, g, ρ, H, w, outs, h, hf, hR, he, Q, hQ => by
    unfold wplE at h
    unfold wpL
    split at h
    · cases h
    · rename_i hw
      refine wantE_W hf hw (fun _ => ?_) fun e => by cases e
      obtain ⟨os, hos, h⟩ := Option.bind_eq_some_iff.1 h
      refine opM_W hf (hE.gm _ he) hR (hcl ρ H w hR he) hos fun r hr ρ' w' x a1 a2 a3 => ?_
      obtain ⟨o2, ho2, hm⟩ := flatM_mem h r hr
      obtain ⟨hc, ho2⟩ := Conds.of ho2
      rw [Bool.and_eq_true] at hc
      exact partB_in hc.2 a3 (wplE_W rest (i + 1) ho2 ((hf.mono a1).put hc.1 a3) a2 (hE.mono _ _ a1 he) fun z hz ρ2 g2 w2 b1 b2 b3 => hQ z (hm z hz) ρ2 g2 w2 (a1.trans b1) b2 b3)
    · rename_i hw
      refine wantE_W hf hw (fun e => by cases e) fun _ => ?_
      obtain ⟨hc, h⟩ := Conds.of h
      exact wplE_W rest (i + 1) h (hf.put hc undA_emb) hR he hQ
omit hE hcl in
theorem heldE_W {f : Tr AV} {g : Fr} {ρ : Rho} {H : AH} {w : World} (hf : FrR ρ f g) (hg : GmR ρ gm) (hR : Rep B ρ H w) : ∀ {hold : List Nat}, heldE P gm ops.toList f H hold = true → ∀ {X : Prop}, X → heldL P ops g w hold X
  | [], _, _, hx => hx
  | j :: js, h, X, hx => by
    unfold heldE at h
    rw [Bool.and_eq_true] at h
    obtain ⟨h, h2⟩ := h
    have hrest := heldE_W hf hg hR h2 hx
    unfold heldL held1
    split at h
    · rename_i o ho
      have ho' : ops[j]? = some o := by rw [← ho]; simp
      rw [ho']
      simp only
      split at h
      · rename_i t a d hop hd
        rw [hop, hd]
        simp only
        split at h
        · rename_i n o' v hea hv
          split at h
          · rename_i vs rr hgc
            obtain ⟨al, ro, es⟩ := rr
            obtain ⟨q, hq, e⟩ := emb_p.1 (eo_ok hf hg hea)
            obtain ⟨q', c, el, fz, xs, _, hq', hb, _, _, hxs, _, hcell⟩ := getC_W hR hgc
            obtain rfl := Option.some.inj (hq.symm.trans hq')
            have hg' := hf d v hv
            have heq := eqVs_eq h
            have hparts : embL ρ (partsA P t v) = some (partsOf P t (g d)) := by
              unfold partsA partsOf
              have hc := avCells_emb hg'
              unfold ctU
              split <;> rename_i h1
              · split at h1
                · rename_i h2; rw [h2]; exact hc
                · rename_i h2; rw [h2]; exact hc
                · cases h1
                · cases h1
              · split
                · rename_i h2; rw [h2] at h1; simp at h1
                · rename_i h2; rw [h2] at h1; simp at h1
                · exact embL_cons.2 ⟨_, _, hg', rfl, rfl⟩
            have hcells := embL_take (partsA P t v).length (embL_drop o' hxs)
            rw [heq, hparts] at hcells
            have hcells := Option.some.inj hcells
            rw [e]
            simp only [onPtr, onP]
            have key : ∀ (cs : List Value) (i : Nat), (∀ k c', cs[k]? = some c' → w.cell? (Addr.add ⟨q.b, q.o + o', none⟩ (i + k)) = some c') → heldC ⟨q.b, q.o + o', none⟩ i cs w (heldL P ops g w js X) := by
              intro cs
              induction cs with
              | nil => intro i _; exact hrest
              | cons c' cs ih =>
                intro i hi
                refine ⟨by have := hi 0 c' rfl; simpa using this, ih (i + 1) fun k c2 hk => ?_⟩
                have := hi (k + 1) c2 (by simpa using hk)
                rw [show i + 1 + k = i + (k + 1) by omega]; exact this
            refine key _ 0 fun k c' hk => ?_
            rw [hcells] at hk
            rw [Nat.zero_add, add_lit, cl hb, Nat.add_assoc]
            exact hcell _ _ (drop_take_get hk)
          · cases h
        · cases h
      · cases h
    · cases h
end
end Go.Proofs.YtbmcbbmgdcbhjaaGreatDoor.St

/- A machine that reckons closed calls: regions by plans. It names no program. -/
noncomputable section
namespace Go.Proofs.YtbmcbbmgdcbhjaaGreatDoor.St
open Go
section
variable {P : Program} {ρ : Rho}
theorem binO_P {op : BinOp} {t : TypeId} {x y v : AV} {x' y' : Value} (h : binO P op t x y = some v) (hn : ∀ l, x ≠ .a l) (hx : emb ρ x = some x') (hy : emb ρ y = some y') :
    ∃ u, emb ρ v = some u ∧ ∀ K : Value → Prop, K u → binP P op t x' y' K := by
  unfold binO at h
  split at h
  · cases hx; cases hy
    cases hs : isShift op with
    | true =>
      rw [hs] at h
      obtain ⟨u, hu, hk⟩ := shIO_W (ρ := ρ) h
      exact ⟨u, hu, fun K k => by simp only [binP, hs, cond_true]; exact hk K k⟩
    | false =>
      rw [hs] at h
      obtain ⟨c, h⟩ := Conds.of h
      obtain ⟨u, hu, hk⟩ := binIO_W (ρ := ρ) h
      exact ⟨u, hu, fun K k => by simp only [binP, hs, cond_false, c, cond_true]; exact hk K k⟩
  · cases hx; cases hy
    cases hs : isShift op with
    | true => rw [hs] at h; cases h
    | false =>
      rw [hs] at h
      obtain ⟨u, hu, hk⟩ := binSO_W (ρ := ρ) h
      exact ⟨u, hu, fun K k => by simp only [binP, hs, cond_false]; exact hk K k⟩
  · cases hx; cases hy
    split at h
    · rename_i hu
      obtain ⟨b, hb, u, hu', h⟩ := eqO_W (ρ := ρ) h
      cases hb
      refine ⟨u, hu', fun K k => ?_⟩
      rcases h with ⟨rfl, rfl⟩ | ⟨rfl, rfl⟩ <;> (simp only [binP, hu]; exact k)
    · cases h
  · cases hy
    split at h
    · rename_i hu
      obtain ⟨b, hb, u, hu', h⟩ := eqO_W (ρ := ρ) h
      obtain ⟨p, rfl, rfl⟩ := isNilP_W hb hx
      refine ⟨u, hu', fun K k => ?_⟩
      rcases h with ⟨rfl, rfl⟩ | ⟨rfl, rfl⟩ <;> (simp only [binP, hu]; exact k)
    · cases h
  · cases hy
    split at h
    · rename_i hu
      obtain ⟨b, hb, u, hu', h⟩ := eqO_W (ρ := ρ) h
      obtain ⟨p, l, c, rfl, rfl⟩ := isNilS_W hb hx
      refine ⟨u, hu', fun K k => ?_⟩
      rcases h with ⟨rfl, rfl⟩ | ⟨rfl, rfl⟩ <;> (simp only [binP, hu]; exact k)
    · cases h
  · cases hy
    split at h
    · rename_i hu
      obtain ⟨b, hb, u, hu', h⟩ := eqO_W (ρ := ρ) h
      obtain ⟨p, rfl, rfl⟩ := isNilM_W hb hx
      refine ⟨u, hu', fun K k => ?_⟩
      rcases h with ⟨rfl, rfl⟩ | ⟨rfl, rfl⟩ <;> (simp only [binP, hu]; exact k)
    · cases h
  · exact absurd rfl (hn _)
  · cases h
end
section
variable {P : Program} {B : World} {gm : Nat → Option Nat} {E : Rho → Prop} (hE : Env0 gm E) {cl : AV → List AV → AH → Outs} (hcl : ClOK P B E cl) {ops : Array Oper}
theorem quietO_W {o : Oper} {f : Tr AV} {g : Fr} {ρ : Rho} {H : AH} {w : World} {v : AV} (h : quietO P gm o f H = some v) (hf : FrR ρ f g) (hg : GmR ρ gm) (hR : Rep B ρ H w) :
    ∃ u, emb ρ v = some u ∧ ∀ K : Value → Prop, K u → (match o.op with
         | .load t a => ldW P t (ev g a) w K
         | op => pureW P op g K) := by
  unfold quietO at h
  split at h
  · rename_i t a ho
    obtain ⟨a', ha, h⟩ := Option.bind_eq_some_iff.1 h
    obtain ⟨u, hu, hk⟩ := loadO_W hR h (eo_ok hf hg ha)
    exact ⟨u, hu, fun K k => by simp only [ho]; exact hk K k⟩
  · rename_i op t x y yt ho
    obtain ⟨x', hx, h⟩ := Option.bind_eq_some_iff.1 h
    obtain ⟨y', hy, h⟩ := Option.bind_eq_some_iff.1 h
    split at h
    · cases h
    · rename_i hn
      obtain ⟨u, hu, hk⟩ := binO_P h (fun l e => hn l e) (eo_ok hf hg hx) (eo_ok hf hg hy)
      exact ⟨u, hu, fun K k => by simp only [ho]; exact hk K k⟩
  · rename_i n1 n2
    obtain ⟨u, hu, _, hk⟩ := pureO_W hf hg h w
    refine ⟨u, hu, fun K k => ?_⟩
    split
    · rename_i t a ho; exact absurd ho (n1 t a)
    · exact hk K k
include hE hcl
theorem plE_W : ∀ (p : Plan) {f : Tr AV} {g : Fr} {ρ : Rho} {H : AH} {w : World} {outs : List (Tr AV × AH)}, plE P gm cl ops.toList p f H = some outs → FrR ρ f g → Rep B ρ H w → E ρ → ∀ {Q : Fr → World → Prop}, AllF B ρ outs Q → plW P ops Q p g w
  | .done, f, g, ρ, H, w, outs, h, hf, hR, he, Q, hQ => by
    cases h
    exact hQ _ (List.mem_singleton.2 rfl) ρ g w (Rho.le.refl _) hR hf
  | .quiet i p, f, g, ρ, H, w, outs, h, hf, hR, he, Q, hQ => by
    unfold plE at h
    unfold plW
    split at h
    · cases h
    · rename_i o ho
      have ho' : ops[i]? = some o := by rw [← ho]; simp
      rw [ho']
      simp only
      split at h
      · cases h
      · rename_i hw
        refine wantE_W hf hw (fun _ => ?_) fun e => by cases e
        obtain ⟨v, hv, h⟩ := Option.bind_eq_some_iff.1 h
        obtain ⟨hc, h⟩ := Conds.of h
        rw [Bool.and_eq_true] at hc
        obtain ⟨u, hu, hk⟩ := quietO_W hv hf (hE.gm _ he) hR
        have := hk (fun v => partB (isSrc ops.toList i) v fun v => plW P ops Q p (putF g o.dst v) w) (partB_in hc.2 hu (plE_W p h (hf.put hc.1 hu) hR he hQ))
        revert this
        cases o.op <;> exact fun h => h
      · rename_i hw
        refine wantE_W hf hw (fun e => by cases e) fun _ => ?_
        obtain ⟨hc, h⟩ := Conds.of h
        exact plE_W p h (hf.put hc undA_emb) hR he hQ
  | .eff i hold p, f, g, ρ, H, w, outs, h, hf, hR, he, Q, hQ => by
    unfold plE at h
    unfold plW
    split at h
    · cases h
    · rename_i o ho
      have ho' : ops[i]? = some o := by rw [← ho]; simp
      rw [ho']
      simp only
      split at h
      · cases h
      · rename_i hw
        refine wantE_W hf hw (fun _ => ?_) fun e => by cases e
        obtain ⟨os, hos, h⟩ := Option.bind_eq_some_iff.1 h
        refine opM_W hf (hE.gm _ he) hR (hcl ρ H w hR he) hos fun r hr ρ' w' x a1 a2 a3 => ?_
        obtain ⟨o2, ho2, hm⟩ := flatM_mem h r hr
        obtain ⟨hc, ho2⟩ := Conds.of ho2
        rw [Bool.and_eq_true, Bool.and_eq_true] at hc
        exact heldE_W (hf.mono a1) (hE.gm _ (hE.mono _ _ a1 he)) a2 hc.2.2 (partB_in hc.2.1 a3 (plE_W p ho2 ((hf.mono a1).put hc.1 a3) a2 (hE.mono _ _ a1 he) fun z hz ρ2 g2 w2 b1 b2 b3 => hQ z (hm z hz) ρ2 g2 w2 (a1.trans b1) b2 b3))
      · rename_i hw
        refine wantE_W hf hw (fun e => by cases e) fun _ => ?_
        obtain ⟨hc, h⟩ := Conds.of h
        exact plE_W p h (hf.put hc undA_emb) hR he hQ
  | .fork p q, f, g, ρ, H, w, outs, h, hf, hR, he, Q, hQ => by
    simp only [plE] at h
    obtain ⟨x, hx, h⟩ := Option.bind_eq_some_iff.1 h
    obtain ⟨y, hy, rfl⟩ := Option.map_eq_some_iff.1 h
    exact ⟨plE_W p hx hf hR he fun z hz => hQ z (List.mem_append_left _ hz), plE_W q hy hf hR he fun z hz => hQ z (List.mem_append_right _ hz)⟩
end
end Go.Proofs.YtbmcbbmgdcbhjaaGreatDoor.St

/- A machine that reckons closed calls: ends that differ by names alone are one. It names no program. -/
noncomputable section
namespace Go.Proofs.YtbmcbbmgdcbhjaaGreatDoor.St
open Go

abbrev Sg := List (Nat × Nat)
def simN (b : Nat) (s : Sg) (n m : Nat) : Bool := (Nat.blt n b && Nat.beq n m) || s.any fun p => Nat.beq p.1 n && Nat.beq p.2 m
mutual
def simV (b : Nat) (s : Sg) : AV → AV → Bool
  | .b x, .b y => x == y
  | .i k x, .i k' y => sameK k k' && decide (x = y)
  | .s x, .s y => x == y
  | .np, .np => true
  | .p n o, .p m o' => simN b s n m && Nat.beq o o'
  | .ns, .ns => true
  | .sl n o l c, .sl m o' l' c' => simN b s n m && (Nat.beq o o' && (Nat.beq l l' && Nat.beq c c'))
  | .su n o l c, .su m o' l' c' => simN b s n m && (Nat.beq o o' && (Nat.beq l l' && Nat.beq c c'))
  | .nm, .nm => true
  | .m n, .m m => simN b s n m
  | .f g x y, .f g' x' y' => Nat.beq g g' && (simVs b s x x' && simVs b s y y')
  | .y n, .y m => simN b s n m
  | .nf, .nf => true
  | .ni, .ni => true
  | .a x, .a y => simVs b s x y
  | .t x, .t y => simVs b s x y
  | .oi k i, .oi k' j => sameK k k' && Nat.beq i j
  | .ob i, .ob j => Nat.beq i j
  | .os i, .os j => Nat.beq i j
  | .ol i, .ol j => Nat.beq i j
  | _, _ => false
def simVs (b : Nat) (s : Sg) : List AV → List AV → Bool
  | [], [] => true
  | x :: l, y :: r => simV b s x y && simVs b s l r
  | _, _ => false
end
def simE (b : Nat) (s : Sg) : List Ent → List Ent → Bool
  | [], [] => true
  | x :: l, y :: r => simV b s x.1 y.1 && (simV b s x.2.1 y.2.1 && (Nat.beq x.2.2 y.2.2 && simE b s l r))
  | _, _ => false
def simNO (b : Nat) (s : Sg) : Option Nat → Option Nat → Bool
  | none, none => true
  | some n, some m => simN b s n m
  | _, _ => false
def simO (b : Nat) (s : Sg) : AO → AO → Bool
  | .c vs al ro es, .c vs' al' ro' es' => simVs b s vs vs' && (simNO b s al al' && (ro == ro' && Nat.beq es es'))
  | .m es ck, .m es' ck' => simE b s es es' && Nat.beq ck ck'
  | .it m si l k, .it m' si' l' k' => simNO b s m m' && (Nat.beq si si' && (l == l' && Nat.beq k k'))
  | .si x p, .si y p' => x == y && Nat.beq p p'
  | .rf x, .rf y => x == y
  | .dn, .dn => true
  | _, _ => false
/-! ### The search for the names that answer one another (it need not be right) -/
def addN (b : Nat) (n m : Nat) (s : Sg) : Option Sg :=
  bif simN b s n m then some s else bif Nat.blt n b || (Nat.blt m b || s.any fun p => Nat.beq p.1 n || Nat.beq p.2 m) then none else some ((n, m) :: s)
mutual
def matV (b : Nat) : AV → AV → Sg → Option Sg
  | .p n _, .p m _, s => addN b n m s
  | .sl n _ _ _, .sl m _ _ _, s => addN b n m s
  | .su n _ _ _, .su m _ _ _, s => addN b n m s
  | .m n, .m m, s => addN b n m s
  | .y n, .y m, s => addN b n m s
  | .f _ x y, .f _ x' y', s => (matVs b x x' s).bind fun s => matVs b y y' s
  | .a x, .a y, s => matVs b x y s
  | .t x, .t y, s => matVs b x y s
  | _, _, s => some s
def matVs (b : Nat) : List AV → List AV → Sg → Option Sg
  | x :: l, y :: r, s => (matV b x y s).bind fun s => matVs b l r s
  | _, _, s => some s
end
def matE (b : Nat) : List Ent → List Ent → Sg → Option Sg
  | x :: l, y :: r, s => (matV b x.1 y.1 s).bind fun s => (matV b x.2.1 y.2.1 s).bind fun s => matE b l r s
  | _, _, s => some s
def matO (b : Nat) : Option AO → Option AO → Sg → Option Sg
  | some (.c vs al _ _), some (.c vs' al' _ _), s => (matVs b vs vs' s).bind fun s => (match al, al' with | some n, some m => addN b n m s | _, _ => some s)
  | some (.m es _), some (.m es' _), s => matE b es es' s
  | some (.it (some n) _ _ _), some (.it (some m) _ _ _), s => addN b n m s
  | _, _, s => some s
def matW (b : Nat) (H1 H2 : AH) : Nat → Sg → Sg → Option Sg
  | 0, _, _ => none
  | _ + 1, [], s => some s
  | k + 1, (n, m) :: todo, s => (matO b (H1.get n) (H2.get m) s).bind fun s' => matW b H1 H2 k (s'.take (s'.length - s.length) ++ todo) s'
def matR (H1 H2 : AH) (b : Nat) : Nat → Sg → Option Sg
  | 0, s => some s
  | i + 1, s => (matR H1 H2 b i s).bind fun s => matO b (H1.get i) (H2.get i) s
def matA (b : Nat) (o1 o2 : AV × AH) : Option Sg :=
  (matV b o1.1 o2.1 []).bind fun s => (matR o1.2 o2.2 b b s).bind fun s => matW b o1.2 o2.2 100000 s s
/-! ### The check -/
def nodupB : List Nat → Bool
  | [] => true
  | n :: l => !(l.any fun m => Nat.beq n m) && nodupB l
def okSg (b nx : Nat) (s : Sg) : Bool := (s.all fun p => Nat.ble b p.1 && (Nat.ble b p.2 && Nat.blt p.1 nx)) && (nodupB (s.map (·.1)) && nodupB (s.map (·.2)))
def imgN (b : Nat) (s : Sg) (n : Nat) : Option Nat := bif Nat.blt n b then some n else (s.find? fun p => Nat.beq p.1 n).map (·.2)
def okL (b : Nat) (s : Sg) (H2 : AH) (L : List (Nat × AO)) : Bool :=
  L.all fun p => match imgN b s p.1 with
    | some m => (match H2.get m with | some o2 => simO b s p.2 o2 | none => false)
    | none => false
def restL (H : AH) : List Nat → List (Nat × AO)
  | [] => []
  | n :: l => match H.get n with
    | some o => (n, o) :: restL H l
    | none => restL H l
def bldT : List (Nat × AO) → Tr AO
  | [] => .lf
  | p :: l => (bldT l).put (some p.2) dep p.1
def iso1 (b : Nat) (o1 : AV × AH) (L : List (Nat × AO)) (o2 : AV × AH) : Bool :=
  match matA b o1 o2 with
  | some s => okSg b o1.2.nx s && (simV b s o1.1 o2.1 && okL b s o2.2 L)
  | none => false
/-- One end in place of many, if they differ by names alone. -/
def mergeE (b : Nat) (outs : List (AV × AH)) : List (AV × AH) :=
  match outs with
  | o1 :: o2 :: r => (match matA b o1 o1 with
    | some s => (fun L => bif Nat.ble b o1.2.nx && (Nat.ble o1.2.nx tmax && ((L.all fun p => Nat.blt p.1 tmax) && ((o1 :: o2 :: r).all fun o => iso1 b o1 L o))) then [(o1.1, ⟨bldT L, o1.2.nx⟩)] else outs) (restL o1.2 (List.range b ++ s.map (·.1)))
    | none => outs)
  | _ => outs

section
mutual
theorem simV_W {b : Nat} {s : Sg} {ρ1 ρ2 : Rho} (hs : ∀ n m, simN b s n m = true → ρ1.at_ n = ρ2.at_ m) (h1 : ρ1.oi = ρ2.oi) (h2 : ρ1.ob = ρ2.ob) (h3 : ρ1.os = ρ2.os) : ∀ (v u : AV) {x : Value}, simV b s v u = true → emb ρ2 u = some x → emb ρ1 v = some x := by
  intro v u x h e
  unfold simV at h
  split at h
  · simp only [beq_iff_eq] at h; rw [h]; exact e
  · simp only [Bool.and_eq_true, decide_eq_true_eq] at h; rw [sameK_eq h.1, h.2]; exact e
  · simp only [beq_iff_eq] at h; rw [h]; exact e
  · exact e
  · simp only [Bool.and_eq_true, beq_iff] at h; simp only [emb, hs _ _ h.1, h.2]; exact e
  · exact e
  · simp only [Bool.and_eq_true, beq_iff] at h; simp only [emb, hs _ _ h.1, h.2.1, h.2.2.1, h.2.2.2]; exact e
  · simp only [Bool.and_eq_true, beq_iff] at h; simp only [emb, hs _ _ h.1, h.2.1, h.2.2.1, h.2.2.2]; exact e
  · exact e
  · simp only [emb, hs _ _ h]; exact e
  · rename_i g x y g' x' y'
    simp only [Bool.and_eq_true, beq_iff] at h
    simp only [emb, Option.bind_eq_some_iff, Option.map_eq_some_iff] at e ⊢
    obtain ⟨a, ha, c, hc, e⟩ := e
    exact ⟨a, simVs_W hs h1 h2 h3 x x' h.2.1 ha, c, simVs_W hs h1 h2 h3 y y' h.2.2 hc, by rw [h.1]; exact e⟩
  · simp only [emb, hs _ _ h]; exact e
  · exact e
  · exact e
  · rename_i x y
    simp only [emb, Option.map_eq_some_iff] at e ⊢
    obtain ⟨l, hl, e⟩ := e
    exact ⟨l, simVs_W hs h1 h2 h3 x y h hl, e⟩
  · rename_i x y
    simp only [emb, Option.map_eq_some_iff] at e ⊢
    obtain ⟨l, hl, e⟩ := e
    exact ⟨l, simVs_W hs h1 h2 h3 x y h hl, e⟩
  · simp only [Bool.and_eq_true, beq_iff] at h; simp only [emb, h1, sameK_eq h.1, h.2]; exact e
  · simp only [beq_iff] at h; simp only [emb, h2, h]; exact e
  · simp only [beq_iff] at h; simp only [emb, h3, h]; exact e
  · simp only [beq_iff] at h; simp only [emb, h3, h]; exact e
  · cases h
termination_by v => SizeOf.sizeOf v
theorem simVs_W {b : Nat} {s : Sg} {ρ1 ρ2 : Rho} (hs : ∀ n m, simN b s n m = true → ρ1.at_ n = ρ2.at_ m) (h1 : ρ1.oi = ρ2.oi) (h2 : ρ1.ob = ρ2.ob) (h3 : ρ1.os = ρ2.os) : ∀ (l r : List AV) {xs : List Value}, simVs b s l r = true → embL ρ2 r = some xs → embL ρ1 l = some xs
  | [], [], _, _, e => e
  | x :: l, y :: r, _, h, e => by
    simp only [simVs, Bool.and_eq_true] at h
    obtain ⟨a, c, ha, hc, rfl⟩ := embL_cons.1 e
    exact embL_cons.2 ⟨a, c, simV_W hs h1 h2 h3 x y h.1 ha, simVs_W hs h1 h2 h3 l r h.2 hc, rfl⟩
  | [], _ :: _, _, h, _ => by cases h
  | _ :: _, [], _, h, _ => by cases h
termination_by l => SizeOf.sizeOf l
end
variable {b : Nat} {s : Sg} {ρ1 ρ2 : Rho} (hs : ∀ n m, simN b s n m = true → ρ1.at_ n = ρ2.at_ m) (h1 : ρ1.oi = ρ2.oi) (h2 : ρ1.ob = ρ2.ob) (h3 : ρ1.os = ρ2.os)
include hs h1 h2 h3
theorem simE_W : ∀ (l r : List Ent) {xs : List MapEntry}, simE b s l r = true → EntE ρ2 r xs → EntE ρ1 l xs
  | [], [], [], _, _ => trivial
  | [], [], _ :: _, _, e => e.elim
  | x :: l, y :: r, [], _, e => e.elim
  | x :: l, y :: r, z :: xs, h, e => by
    simp only [simE, Bool.and_eq_true, beq_iff] at h
    exact ⟨⟨simV_W hs h1 h2 h3 _ _ h.1 e.1.1, simV_W hs h1 h2 h3 _ _ h.2.1 e.1.2.1, by rw [h.2.2.1]; exact e.1.2.2⟩, simE_W l r h.2.2.2 e.2⟩
  | [], _ :: _, _, h, _ => by cases h
  | _ :: _, [], _, h, _ => by cases h
theorem simO_W {o1 o2 : AO} {n m : Nat} {q : Pl} {w : World} (h : simO b s o1 o2 = true) (hr : ρ1.rd n = ρ2.rd m ∧ ρ1.bs n = ρ2.bs m) (ho : OkO ρ2 m q w o2) : OkO ρ1 n q w o1 := by
  unfold simO at h
  split at h
  · simp only [Bool.and_eq_true, beq_iff, beq_iff_eq] at h
    obtain ⟨c, e, fz, a1, a2, a3, xs, a4, a5, a6⟩ := ho
    exact ⟨c, e, fz, a1, by rw [h.2.2.1]; exact a2, by rw [h.2.2.2]; exact a3, xs, simVs_W hs h1 h2 h3 _ _ h.1 a4, a5, a6⟩
  · simp only [Bool.and_eq_true, beq_iff] at h
    obtain ⟨xs, a1, a2⟩ := ho
    exact ⟨xs, by rw [h.2]; exact a1, simE_W hs h1 h2 h3 _ _ h.1 a2⟩
  · rename_i m1 _ _ _ m2 _ _ _
    simp only [Bool.and_eq_true, beq_iff, beq_iff_eq] at h
    obtain ⟨r, a1, a2, a3, a4⟩ := ho
    refine ⟨r, fun k hk => ?_, fun hk => ?_, by rw [h.2.1, h.2.2.1, h.2.2.2]; exact a3, a4⟩
    · subst hk
      cases m2 with
      | none => cases h.1
      | some k2 =>
        obtain ⟨q', b1, b2⟩ := a1 k2 rfl
        exact ⟨q', by rw [hs _ _ h.1]; exact b1, b2⟩
    · subst hk
      cases m2 with
      | none => exact a2 rfl
      | some k2 => cases h.1
  · simp only [Bool.and_eq_true, beq_iff, beq_iff_eq] at h
    exact ⟨by rw [h.1, h.2]; exact ho.1, ho.2⟩
  · simp only [beq_iff_eq] at h
    subst h
    simp only [OkO, hr.1, hr.2]; exact ho
  · exact ho
  · cases h
end
section
variable {B w : World} {b : Nat} {s : Sg}
theorem simO_al {o1 o2 : AO} (h : simO b s o1 o2 = true) : simNO b s o1.al o2.al = true ∧ o1.ro = o2.ro ∧ o1.isRf = o2.isRf := by
  unfold simO at h
  split at h
  · simp only [Bool.and_eq_true, beq_iff_eq] at h; exact ⟨h.2.1, h.2.2.1, rfl⟩
  · exact ⟨rfl, rfl, rfl⟩
  · exact ⟨rfl, rfl, rfl⟩
  · exact ⟨rfl, rfl, rfl⟩
  · exact ⟨rfl, rfl, rfl⟩
  · exact ⟨rfl, rfl, rfl⟩
  · cases h
theorem nodupB_W : ∀ {l : List Nat}, nodupB l = true → l.Nodup
  | [], _ => List.nodup_nil
  | n :: l, h => by
    simp only [nodupB, Bool.and_eq_true, Bool.not_eq_true', List.any_eq_false, beq_iff] at h
    exact List.nodup_cons.2 ⟨fun hm => h.1 n hm rfl, nodupB_W h.2⟩
theorem nodup_fst : ∀ {s : Sg}, (s.map (·.1)).Nodup → ∀ {n m m' : Nat}, (n, m) ∈ s → (n, m') ∈ s → m = m'
  | [], _, _, _, _, h, _ => by simp at h
  | (a, c) :: s, hn, n, m, m', h, h' => by
    simp only [List.map_cons, List.nodup_cons] at hn
    rcases List.mem_cons.1 h with h | h
    · rcases List.mem_cons.1 h' with h' | h'
      · cases h; cases h'; rfl
      · cases h; exact absurd (List.mem_map.2 ⟨_, h', rfl⟩) hn.1
    · rcases List.mem_cons.1 h' with h' | h'
      · cases h'; exact absurd (List.mem_map.2 ⟨_, h, rfl⟩) hn.1
      · exact nodup_fst hn.2 h h'
theorem nodup_snd : ∀ {s : Sg}, (s.map (·.2)).Nodup → ∀ {n n' m : Nat}, (n, m) ∈ s → (n', m) ∈ s → n = n'
  | [], _, _, _, _, h, _ => by simp at h
  | (a, c) :: s, hn, n, n', m, h, h' => by
    simp only [List.map_cons, List.nodup_cons] at hn
    rcases List.mem_cons.1 h with h | h
    · rcases List.mem_cons.1 h' with h' | h'
      · cases h; cases h'; rfl
      · cases h; exact absurd (List.mem_map.2 ⟨_, h', rfl⟩) hn.1
    · rcases List.mem_cons.1 h' with h' | h'
      · cases h'; exact absurd (List.mem_map.2 ⟨_, h, rfl⟩) hn.1
      · exact nodup_snd hn.2 h h'
theorem simN_iff {n m : Nat} : simN b s n m = true ↔ (n < b ∧ n = m) ∨ (n, m) ∈ s := by
  simp only [simN, Bool.or_eq_true, Bool.and_eq_true, Nat.blt_eq, beq_iff, List.any_eq_true]
  constructor
  · rintro (h | ⟨p, hp, rfl, rfl⟩)
    · exact .inl h
    · exact .inr hp
  · rintro (h | h)
    · exact .inl h
    · exact .inr ⟨_, h, rfl, rfl⟩
theorem bldT_get : ∀ {L : List (Nat × AO)} {n : Nat} {o : AO}, (L.all fun p => Nat.blt p.1 tmax) = true → (bldT L).get n = some o → (n, o) ∈ L
  | [], _, _, _, h => by cases h
  | p :: L, n, o, hL, h => by
    simp only [List.all_cons, Bool.and_eq_true] at hL
    simp only [bldT] at h
    rw [Tr.get_dep _ _ hL.1] at h
    by_cases hn : n = p.1
    · rw [if_pos hn] at h; cases h; rw [hn]; exact List.mem_cons_self
    · rw [if_neg hn] at h; exact List.mem_cons_of_mem _ (bldT_get hL.2 h)
/-- An end is one of the kept one's. -/
theorem iso1_W {ρ ρ2 : Rho} {nx : Nat} {o1 o2 : AV × AH} {L : List (Nat × AO)} (hfr : ∀ n q, ρ.at_ n = some q → n < b) (hle : ρ.le ρ2) (hR : Rep B ρ2 o2.2 w) {x : Value} (hx : emb ρ2 o2.1 = some x) (hnx : o1.2.nx = nx) (hb : b ≤ nx) (hmx : nx ≤ tmax)
    (hL : (L.all fun p => Nat.blt p.1 tmax) = true) (h : iso1 b o1 L o2 = true) : ∃ ρ1, ρ.le ρ1 ∧ Rep B ρ1 ⟨bldT L, nx⟩ w ∧ emb ρ1 o1.1 = some x := by
  unfold iso1 at h
  split at h
  rotate_left
  · cases h
  rename_i s _
  rw [Bool.and_eq_true, Bool.and_eq_true] at h
  obtain ⟨hs, hv, hl⟩ := h
  simp only [okSg, Bool.and_eq_true, List.all_eq_true, Nat.ble_eq, Nat.blt_eq] at hs
  obtain ⟨hs1, hs2, hs3⟩ := hs
  have n1 := nodupB_W hs2
  have n2 := nodupB_W hs3
  have fnd : ∀ {n m : Nat}, (n, m) ∈ s → (s.find? fun p => Nat.beq p.1 n) = some (n, m) := by
    intro n m hm
    cases hf : (s.find? fun p => Nat.beq p.1 n) with
    | none =>
      have := List.find?_eq_none.1 hf _ hm
      simp at this
    | some p =>
      have hp := List.mem_of_find?_eq_some hf
      have he := List.find?_some hf
      simp only [beq_iff] at he
      obtain ⟨a, c⟩ := p
      simp only at he
      subst he
      rw [nodup_fst n1 hm hp]
  have img : ∀ {n m : Nat}, simN b s n m = true → imgN b s n = some m := fun {n m} h => by
    unfold imgN
    rcases simN_iff.1 h with ⟨h5, rfl⟩ | h
    · rw [show Nat.blt n b = true by rw [Nat.blt_eq]; exact h5]; rfl
    · have : Nat.blt n b = false := by
        cases hc : Nat.blt n b with
        | false => rfl
        | true => rw [Nat.blt_eq] at hc; have := (hs1 _ h).1; simp only at this; omega
      rw [this, fnd h]; rfl
  have gmi : ∀ {n m : Nat}, imgN b s n = some m → simN b s n m = true := fun {n m} h => by
    unfold imgN at h
    rw [simN_iff]
    cases hc : Nat.blt n b with
    | true => rw [hc] at h; cases h; rw [Nat.blt_eq] at hc; exact .inl ⟨hc, rfl⟩
    | false =>
      rw [hc] at h
      obtain ⟨p, hp, rfl⟩ := Option.map_eq_some_iff.1 h
      have he := List.find?_some hp
      simp only [beq_iff] at he
      subst he
      exact .inr (List.mem_of_find?_eq_some hp)
  have inj : ∀ {n n' m : Nat}, simN b s n m = true → simN b s n' m = true → n = n' := fun {n n' m} h h' => by
    rcases simN_iff.1 h with ⟨h1, rfl⟩ | h1 <;> rcases simN_iff.1 h' with ⟨h2, rfl⟩ | h2
    · rfl
    · have := (hs1 _ h2).2.1; simp only at this; omega
    · have := (hs1 _ h1).2.1; simp only at this; omega
    · exact nodup_snd n2 h1 h2
  let ρ1 : Rho := { at_ := fun n => (imgN b s n).bind ρ2.at_, oi := ρ2.oi, ob := ρ2.ob, os := ρ2.os, rd := fun n => ρ2.rd ((imgN b s n).getD 0), bs := fun n => ρ2.bs ((imgN b s n).getD 0) }
  have hat : ∀ n m, simN b s n m = true → ρ1.at_ n = ρ2.at_ m := fun n m h => by simp only [ρ1, img h]; rfl
  have hrd : ∀ n m, simN b s n m = true → ρ1.rd n = ρ2.rd m ∧ ρ1.bs n = ρ2.bs m := fun n m h => by simp only [ρ1, img h]; exact ⟨rfl, rfl⟩
  have hold : ∀ n, n < b → simN b s n n = true := fun n h => simN_iff.2 (.inl ⟨h, rfl⟩)
  refine ⟨ρ1, ⟨fun n q hq => ?_, hle.oi, hle.ob, hle.os⟩, ?_, simV_W hat rfl rfl rfl _ _ hv hx⟩
  · have hn := hold n (hfr n q hq)
    obtain ⟨a, c, d⟩ := hle.at_ n q hq
    exact ⟨(hat _ _ hn).trans a, (hrd _ _ hn).1.trans c, (hrd _ _ hn).2.trans d⟩
  · have ent : ∀ {n : Nat} {o : AO}, (AH.get ⟨bldT L, nx⟩ n) = some o → ∃ m o', simN b s n m = true ∧ o2.2.get m = some o' ∧ simO b s o o' = true := fun {n o} h => by
      have hm := bldT_get hL h
      have := List.all_eq_true.1 hl _ hm
      simp only at this
      split at this
      · rename_i m him
        split at this
        · rename_i o' ho'
          exact ⟨m, o', gmi him, ho', this⟩
        · cases this
      · cases this
    refine ⟨fun n o h => ?_, fun n q h => ?_, hmx, fun n o j h hj => ?_, fun i j o o' q q' hi hj hq hq' hij hal k hk hk' => ?_, fun i o q h hq hro k hk => ?_, hR.md⟩
    · obtain ⟨m, o', a1, a2, a3⟩ := ent h
      obtain ⟨q, b1, b2⟩ := hR.ok m o' a2
      exact ⟨q, (hat _ _ a1).trans b1, simO_W hat rfl rfl rfl a3 (hrd _ _ a1) b2⟩
    · show n < nx
      obtain ⟨m, hm, _⟩ := Option.bind_eq_some_iff.1 h
      rcases simN_iff.1 (gmi hm) with ⟨h1, _⟩ | h1
      · omega
      · have := (hs1 _ h1).2.2; simp only at this; omega
    · show j < nx
      obtain ⟨m, o', a1, a2, a3⟩ := ent h
      have := (simO_al a3).1
      rw [hj] at this
      unfold simNO at this
      split at this
      · rename_i he _; cases he
      · rename_i n1 m1 he _
        cases he
        rcases simN_iff.1 this with ⟨h1, _⟩ | h1
        · omega
        · have := (hs1 _ h1).2.2; simp only at this; omega
      · cases this
    · obtain ⟨m, p, a1, a2, a3⟩ := ent hi
      obtain ⟨m', p', c1, c2, c3⟩ := ent hj
      have hmm : m ≠ m' := fun e => hij (inj a1 (e ▸ c1))
      have hq2 := (hat _ _ a1).symm.trans hq
      have hq2' := (hat _ _ c1).symm.trans hq'
      have hb1 : ∀ {o o' : AO} {q : Pl} {k : Nat}, simO b s o o' = true → Bk o q k → Bk o' q k := fun {o o' q k} h hk => by
        rcases hk with h' | ⟨h', h2⟩
        · exact .inl h'
        · exact .inr ⟨by rw [← (simO_al h).2.2]; exact h', h2⟩
      refine hR.sep m m' p p' q q' a2 c2 hq2 hq2' hmm (fun e => hal ?_) k (hb1 a3 hk) (hb1 c3 hk')
      have := (simO_al a3).1
      rw [e] at this
      unfold simNO at this
      split at this
      · rename_i he; cases he
      · rename_i n1 m1 he1 he2
        cases he2
        rw [he1, inj this c1]
      · cases this
    · obtain ⟨m, p, a1, a2, a3⟩ := ent h
      have hq2 := (hat _ _ a1).symm.trans hq
      refine hR.new m p q a2 hq2 (by rw [← (simO_al a3).2.1]; exact hro) k ?_
      rcases hk with h' | ⟨h', h2⟩
      · exact .inl h'
      · exact .inr ⟨by rw [← (simO_al a3).2.2]; exact h', h2⟩
/-- What holds of the ends that are left holds of all. -/
theorem mergeE_W {ρ : Rho} {outs : List (AV × AH)} {K : Value → World → Prop} (hfr : ∀ n q, ρ.at_ n = some q → n < b) (h : AllK B ρ (mergeE b outs) K) : AllK B ρ outs K := by
  unfold mergeE at h
  split at h
  · rename_i o1 o2 r
    split at h
    · rename_i s _
      generalize restL o1.2 (List.range b ++ s.map (·.1)) = L at h
      simp only at h
      cases hc : (Nat.ble b o1.2.nx && (Nat.ble o1.2.nx tmax && ((L.all fun p => Nat.blt p.1 tmax) && ((o1 :: o2 :: r).all fun o => iso1 b o1 L o)))) with
      | false => rw [hc] at h; exact h
      | true =>
        rw [hc] at h
        simp only [cond_true] at h
        simp only [Bool.and_eq_true, Nat.ble_eq] at hc
        obtain ⟨c1, c2, c3, c4⟩ := hc
        intro o ho ρ2 w2 x a1 a2 a3
        obtain ⟨ρ1, b1, b2, b3⟩ := iso1_W hfr a1 a2 a3 rfl c1 c2 c3 (List.all_eq_true.1 c4 o ho)
        exact h _ (List.mem_singleton.2 rfl) ρ1 w2 x b1 b2 b3
    · exact h
  · exact h
end
end Go.Proofs.YtbmcbbmgdcbhjaaGreatDoor.St

/- A machine that reckons closed calls: codes and calls. It names no program. -/
noncomputable section
namespace Go.Proofs.YtbmcbbmgdcbhjaaGreatDoor.St
open Go

inductive AX
  | nm
  | ex (i : Nat)
  | rt
abbrev COuts := Option (List (AX × Tr AV × List Nat × AH))
/-- A loop over a function: its rounds. -/
structure YE where
  n : Nat
  pl : Nat → Plan
  x : Code
  y : Code
  p : List Nat
  f : Tr AV
abbrev EnvL := List (Nat × YE)
structure FC where
  n : Nat
  pl : Nat → Plan
  inR : Bool
/-- Functions that are not reckoned: what their calls do is told. -/
abbrev Nat' := Nat → Option (List AV → AH → Outs)
abbrev EvT := EnvL → FC → Code → Tr AV → List Nat → AH → COuts
def okRg (n : Nat) (id : Nat) (ops : List Oper) (draw : Bool) (pl : Nat → Plan) : Bool :=
  match draw with
  | false => ops.all fun o => match o.dst with | some d => Nat.blt d n | none => true
  | true => okRegion n ops (pl id)
def mkF : List AV → Nat → Tr AV → Tr AV
  | [], _, f => f
  | v :: l, i, f => mkF l (i + 1) (f.put (some v) dep i)
def putL (f : Tr AV) : List Nat → List AV → Tr AV
  | p :: ps, v :: vs => putL (putA f (some p) v) ps vs
  | _, _ => f
def updL (g : Fr) : List Nat → List Value → Fr
  | p :: ps, v :: vs => updL (upd g p v) ps vs
  | _, _ => g
def isRf (H : AH) (n : Nat) (busy : Bool) : Bool :=
  match H.get n with
  | some (.rf b) => b == busy
  | _ => false
def endE : List Nat → AH → Option AH
  | [], H => some H
  | n :: ds, H => match H.get n with
    | some .dn => endE ds (H.put n none)
    | _ => none
def resE (P : Program) (f : Tr AV) (H : AH) : List ResultVar → Option (List AV)
  | [] => some []
  | .tmp t :: rs => (f.get t).bind fun v => (resE P f H rs).map fun l => v :: l
  | .cell a t :: rs => ((f.get a).bind fun p => loadO P H t p).bind fun v => (resE P f H rs).map fun l => v :: l
def oneA : List AV → AV
  | [v] => v
  | vs => .t vs
def retE (P : Program) (rs : List ResultVar) (o : AX × Tr AV × List Nat × AH) : Outs :=
  match o with
  | (.ex _, _) => none
  | (_, f, ds, H) => (endE ds H).bind fun H => (resE P f H rs).map fun l => [(oneA l, H)]
def lookY (N : Nat) : EnvL → Option YE
  | [] => none
  | (M, y) :: l => bif Nat.beq M N then some y else lookY N l
def callF (P : Program) (nat : Nat') (pls : Nat → Nat → Plan) (ev : EvT) (env : EnvL) (g : Nat) (ags : List AV) (H : AH) : Outs :=
  match nat g with
  | some h => h ags H
  | none => match P.funcs[g]? with
    | none => none
    | some fn => (match fn.body with
      | none => none
      | some c => bif !(fn.name == "runtime.NumGoroutine") && (Nat.ble ags.length fn.ntmps && Nat.ble fn.ntmps tmax) then
          (ev env ⟨fn.ntmps, pls g, false⟩ c (mkF ags 0 .lf) [] H).bind fun outs => (flatM (retE P fn.results.toList) outs).map (mergeE H.nx)
        else none)
def callY (ev : EvT) (env : EnvL) (N : Nat) (args : List AV) (H : AH) : Outs :=
  match lookY N env with
  | some ye => bif isRf H N false && Nat.beq args.length ye.p.length then
      (ev env ⟨ye.n, ye.pl, true⟩ ye.x (putL ye.f ye.p args) [] H).bind fun outs => flatM (fun o => match o with
        | (.nm, f, [], H) => bif isRf H N false then
            (ev env ⟨ye.n, ye.pl, true⟩ ye.y f [] (H.put N (some (.rf true)))).bind fun outs => flatM (fun o => match o with
              | (.nm, _, _, H) => bif isRf H N true then some [(.b true, H.put N (some (.rf false)))] else none
              | _ => none) outs
          else none
        | _ => none) outs
    else none
  | _ => none
def callE (P : Program) (nat : Nat') (pls : Nat → Nat → Plan) (ev : EvT) (env : EnvL) (fv : AV) (args : List AV) (H : AH) : Outs :=
  match fv with
  | .f g x y => callF P nat pls ev env g (x ++ (args ++ y)) H
  | .y N => callY ev env N args H
  | _ => none
def loopE (body : Tr AV → List Nat → AH → COuts) : Nat → Tr AV → List Nat → AH → COuts
  | 0, _, _, _ => none
  | m + 1, f, ds, H => (body f ds H).bind fun outs => flatM (fun o => match o with
    | (.nm, f, ds, H) => loopE body m f ds H
    | o => some [o]) outs
def outB (id : Nat) (o : AX × Tr AV × List Nat × AH) : AX × Tr AV × List Nat × AH :=
  match o with
  | (.ex i, r) => bif Nat.beq i id then (.nm, r) else (.ex i, r)
  | o => o
def sRegion (P : Program) (gm : Nat → Option Nat) (nat : Nat') (pls : Nat → Nat → Plan) (ih : EvT) (env : EnvL) (fc : FC) (id : Nat) (ops : Array Oper) (draw : Bool) (f : Tr AV) (ds : List Nat) (H : AH) : COuts :=
  Option.map (fun l : List (Tr AV × AH) => l.map fun r => (AX.nm, r.1, ds, r.2)) (match draw with
    | false => wplE P gm (callE P nat pls ih env) ops.toList ops.toList 0 f H
    | true => plE P gm (callE P nat pls ih env) ops.toList (fc.pl id) f H)
def sSeq (ih : EvT) (env : EnvL) (fc : FC) (a b : Code) (f : Tr AV) (ds : List Nat) (H : AH) : COuts :=
  (ih env fc a f ds H).bind fun outs => flatM (fun o => match o with
    | (.nm, f, ds, H) => ih env fc b f ds H
    | o => some [o]) outs
def sRange (P : Program) (gm : Nat → Option Nat) (nat : Nat') (pls : Nat → Nat → Plan) (ih : EvT) (env : EnvL) (fc : FC) (g : Operand) (ps : Array Nat) (x y : Code) (f : Tr AV) (ds : List Nat) (H : AH) : COuts :=
  match fc.inR, eo gm f g with
  | false, some (.f gf u v) => bif (ps.toList.all fun p => Nat.blt p fc.n && Nat.blt p tmax) && Nat.blt H.nx tmax then
      (callE P nat pls ih ((H.nx, ⟨fc.n, fc.pl, x, y, ps.toList, f⟩) :: env) (.f gf u v) [.y H.nx] (H.add (.rf false))).bind fun outs => flatM (fun r => bif isRf r.2 H.nx false then some [(.nm, f, H.nx :: ds, r.2.put H.nx (some .dn))] else none) outs
    else none
  | _, _ => none
def stepE (P : Program) (gm : Nat → Option Nat) (nat : Nat') (pls : Nat → Nat → Plan) (k : Nat) (ih : EvT) : EvT := fun env fc c f ds H =>
  match c with
  | .skip => some [(.nm, f, ds, H)]
  | .region id ops draw => sRegion P gm nat pls ih env fc id ops draw f ds H
  | .seq a b => sSeq ih env fc a b f ds H
  | .cond c a b => (match eo gm f c with
    | some (.b t) => bif t then ih env fc a f ds H else ih env fc b f ds H
    | _ => none)
  | .block id c => (ih env fc c f ds H).map fun l => l.map (outB id)
  | .loop c => loopE (ih env fc c) k f ds H
  | .rangeFunc g ps x y => sRange P gm nat pls ih env fc g ps x y f ds H
  | .exit id => some [(.ex id, f, ds, H)]
  | .ret => some [(.rt, f, ds, H)]
  | .scope c => ih env fc c f ds H
  | .label _ => some [(.nm, f, ds, H)]
  | _ => none
def evC (P : Program) (gm : Nat → Option Nat) (nat : Nat') (pls : Nat → Nat → Plan) : Nat → EvT
  | 0 => fun _ _ _ _ _ _ => none
  | k + 1 => stepE P gm nat pls k (evC P gm nat pls k)

/-! ### Are the regions of a code, of all functions, as the plans say? (Asked once, beside.) -/
def rgs (n : Nat) (pl : Nat → Plan) : Code → Bool
  | .region id ops draw => okRg n id ops.toList draw pl
  | .seq a b => rgs n pl a && rgs n pl b
  | .cond _ a b => rgs n pl a && rgs n pl b
  | .block _ c => rgs n pl c
  | .loop c => rgs n pl c
  | .scope c => rgs n pl c
  | .rangeFunc _ _ a c => rgs n pl a && rgs n pl c
  | _ => true
def rgsF (pl : Nat → Plan) (f : Func) : Bool := match f.body with | some c => rgs f.ntmps pl c | none => true
def rgsL (pls : Nat → Nat → Plan) : List Func → Nat → Bool
  | [], _ => true
  | f :: r, i => rgsF (pls i) f && rgsL pls r (i + 1)
/-- All regions of all functions. -/
def RgsOK (P : Program) (pls : Nat → Nat → Plan) : Prop := ∀ g fn, P.funcs[g]? = some fn → rgsF (pls g) fn = true
theorem rgsL_at {pls : Nat → Nat → Plan} : ∀ {l : List Func} {i : Nat}, rgsL pls l i = true → ∀ {j : Nat} {fn : Func}, l[j]? = some fn → rgsF (pls (i + j)) fn = true
  | [], _, _, j, fn, h => by simp at h
  | f :: r, i, h, 0, fn, e => by simp only [rgsL, Bool.and_eq_true] at h; simp only [List.getElem?_cons_zero, Option.some.injEq] at e; subst e; exact h.1
  | f :: r, i, h, j + 1, fn, e => by simp only [rgsL, Bool.and_eq_true] at h; rw [show i + (j + 1) = i + 1 + j by omega]; exact rgsL_at h.2 (by simpa using e)
/-- Asked in parts: of the functions from i on, so many. -/
theorem rgsOK_of {P : Program} {pls : Nat → Nat → Plan} (h : ∀ j, j < P.funcs.size → ∃ i n, i ≤ j ∧ j < i + n ∧ rgsL pls ((P.funcs.toList.drop i).take n) i = true) : RgsOK P pls := by
  intro g fn hg
  obtain ⟨hl, he⟩ := Array.getElem?_eq_some_iff.1 hg
  obtain ⟨i, n, h1, h2, h3⟩ := h g hl
  have := rgsL_at h3 (j := g - i) (fn := fn) (by
    rw [List.getElem?_take_of_lt (by omega), List.getElem?_drop, show i + (g - i) = g by omega]
    simpa using hg)
  rwa [show i + (g - i) = g by omega] at this

/-! ### What it says is so -/
structure GR (gm : Nat → Option Nat) (ρ0 ρ : Rho) : Prop where
  g : GmR ρ gm
  le : ρ0.le ρ
theorem GR.mono {gm : Nat → Option Nat} {ρ0 ρ ρ' : Rho} (h : GR gm ρ0 ρ) (hl : ρ.le ρ') : GR gm ρ0 ρ' := ⟨h.g.mono hl, h.le.trans hl⟩
def NatOK (P : Program) (B : World) (gm : Nat → Option Nat) (ρ0 : Rho) (nat : Nat') : Prop :=
  ∀ g h, nat g = some h → ∀ ρ H w, Rep B ρ H w → GR gm ρ0 ρ → ∀ args outs args', h args H = some outs → embL ρ args = some args' → ∀ K, AllK B ρ outs K → Ca P g ⟨args'⟩ w K
def DsR (ρ : Rho) : List Nat → List Deferred → Prop
  | [], [] => True
  | n :: ds, d :: r => (∃ q, ρ.at_ n = some q ∧ 0 < q.b ∧ d.target = .collected (q.b - 1)) ∧ DsR ρ ds r
  | _, _ => False
theorem DsR.mono {ρ ρ' : Rho} (h : ρ.le ρ') : ∀ {ds : List Nat} {r : List Deferred}, DsR ρ ds r → DsR ρ' ds r
  | [], [], _ => trivial
  | _ :: _, _ :: _, ⟨⟨q, a, b⟩, r⟩ => ⟨⟨q, (h.at_ _ _ a).1, b⟩, r.mono h⟩
  | [], _ :: _, h => h.elim
  | _ :: _, [], h => h.elim
/-- A round of a loop over a function may be asked for. -/
def YOK (P : Program) (ρ : Rho) (N : Nat) (ye : YE) : Prop :=
  ∃ q g, ρ.at_ N = some q ∧ FrR ρ ye.f g ∧ (ye.p.all fun p => Nat.blt p tmax) = true ∧ ∀ (xs : List Value) (w2 : World) (K : World → Prop), xs.length = ye.p.length → ρ.rd N w2 →
    SW (some q.b) P ye.n ye.x (fun e f1 ds1 wa => (e = .normal ∧ ρ.rd N wa ∧ ∀ wb, ρ.bs N wb → Mod (fun k => k = q.b) wa wb → wb.heap.size = wa.heap.size →
      SW (some q.b) P ye.n ye.y (fun e _ _ wc => e = .normal ∧ ρ.bs N wc ∧ ∀ w3, ρ.rd N w3 → Mod (fun k => k = q.b) wc w3 → w3.heap.size = wc.heap.size → K w3) f1 [] wb) ∧ ds1 = []) (updL g ye.p xs) [] w2 →
    CaV P (.func (.yield q.b) #[] #[]) ⟨xs⟩ w2 (fun v w3 => v = .bool true ∧ K w3)
theorem YOK.mono {P : Program} {ρ ρ' : Rho} (h : ρ.le ρ') {N : Nat} {ye : YE} (hy : YOK P ρ N ye) : YOK P ρ' N ye := by
  obtain ⟨q, g, h1, h2, h3, h4⟩ := hy
  obtain ⟨a, b, c⟩ := h.at_ _ _ h1
  refine ⟨q, g, a, h2.mono h, h3, ?_⟩
  rw [b, c]; exact h4
def EnvOK (P : Program) (gm : Nat → Option Nat) (ρ0 : Rho) (env : EnvL) (ρ : Rho) : Prop := GR gm ρ0 ρ ∧ ∀ N ye, lookY N env = some ye → YOK P ρ N ye ∧ rgs ye.n ye.pl ye.x = true ∧ rgs ye.n ye.pl ye.y = true
theorem env0 (P : Program) (gm : Nat → Option Nat) (ρ0 : Rho) (env : EnvL) : Env0 gm (EnvOK P gm ρ0 env) :=
  ⟨fun _ _ h he => ⟨he.1.mono h, fun N ye hy => ⟨(he.2 N ye hy).1.mono h, (he.2 N ye hy).2⟩⟩, fun _ h => h.1.g⟩
def AX.to : AX → Exit
  | .nm => .normal
  | .ex i => .exit i
  | .rt => .ret
def AllC (B : World) (ρ : Rho) (outs : List (AX × Tr AV × List Nat × AH)) (Q : Post) : Prop :=
  ∀ o ∈ outs, ∀ ρ' g' ds' w', ρ.le ρ' → Rep B ρ' o.2.2.2 w' → FrR ρ' o.2.1 g' → DsR ρ' o.2.2.1 ds' → Q o.1.to g' ds' w'
/-- An evaluation that is right. -/
def EvOK (P : Program) (gm : Nat → Option Nat) (ρ0 : Rho) (B : World) (ev : EvT) : Prop :=
  ∀ env fc c f ds H outs, ev env fc c f ds H = some outs → rgs fc.n fc.pl c = true → ∀ ρ g dsc w, Rep B ρ H w → FrR ρ f g → DsR ρ ds dsc → EnvOK P gm ρ0 env ρ → ∀ r, (fc.inR = false → r = none) → ∀ Q, AllC B ρ outs Q → SW r P fc.n c Q g dsc w
section
variable {P : Program} {B : World} {gm : Nat → Option Nat} {pls : Nat → Nat → Plan}
theorem putL_W {ρ : Rho} : ∀ (ps : List Nat) {vs : List AV} {xs : List Value} {f : Tr AV} {g : Fr}, (ps.all fun p => Nat.blt p tmax) = true → embL ρ vs = some xs → FrR ρ f g → FrR ρ (putL f ps vs) (updL g ps xs)
  | [], vs, xs, _, _, _, _, hf => by cases vs <;> cases xs <;> exact hf
  | p :: ps, [], xs, f, g, _, he, hf => by rw [embL_nil.1 he]; exact hf
  | p :: ps, v :: vs, _, f, g, hp, he, hf => by
    obtain ⟨x, r, hx, hr, rfl⟩ := embL_cons.1 he
    simp only [List.all_cons, Bool.and_eq_true] at hp
    exact putL_W ps hp.2 hr (hf.put (d := some p) hp.1 hx)
theorem mkF_W {ρ : Rho} : ∀ {l : List AV} {xs : List Value} (i : Nat) {f : Tr AV} {g : Fr}, embL ρ l = some xs → Nat.ble (i + l.length) tmax = true → FrR ρ f g → (∀ t, i ≤ t → t < i + l.length → g t = (xs[t - i]?).getD undef) → FrR ρ (mkF l i f) g
  | [], _, _, _, _, _, _, hf, _ => hf
  | v :: l, _, i, f, g, he, hl, hf, hg => by
    obtain ⟨x, r, hx, hr, rfl⟩ := embL_cons.1 he
    rw [Nat.ble_eq, List.length_cons] at hl
    have hi : Nat.blt i tmax = true := by rw [Nat.blt_eq]; omega
    refine mkF_W (i + 1) hr (by rw [Nat.ble_eq]; omega) ?_ fun t h1 h2 => ?_
    · intro t u e
      rw [Tr.get_dep _ _ hi] at e
      by_cases ht : t = i
      · rw [if_pos ht] at e; cases e
        have := hg t (by omega) (by rw [List.length_cons]; omega)
        rw [this, ht, Nat.sub_self]; exact hx
      · rw [if_neg ht] at e; exact hf t u e
    · have := hg t (by omega) (by rw [List.length_cons]; omega)
      rw [this, show t - i = (t - (i + 1)) + 1 by omega]; rfl
theorem endE_W : ∀ (ds : List Nat) {H H' : AH} {ρ : Rho} {w : World} {dsc : List Deferred} {K : World → Prop}, endE ds H = some H' → Rep B ρ H w → DsR ρ ds dsc → (∀ w', Rep B ρ H' w' → K w') → endD dsc w K
  | [], H, H', ρ, w, [], K, h, hR, _, hk => by cases h; exact hk w hR
  | [], _, _, _, _, _ :: _, _, _, _, hd, _ => hd.elim
  | _ :: _, _, _, _, _, [], _, _, _, hd, _ => hd.elim
  | n :: ds, H, H', ρ, w, d :: dsc, K, h, hR, hd, hk => by
    obtain ⟨⟨q, hq, hb, ht⟩, hd⟩ := hd
    unfold endE at h
    split at h
    · rename_i hg
      obtain ⟨q', hq', ho⟩ := hR.ok _ _ hg
      obtain rfl := Option.some.inj (hq.symm.trans hq')
      unfold endD
      rw [ht]
      refine ⟨ho.1, fun w' e => ?_⟩
      subst e
      refine endE_W ds h (hR.drop hg hq rfl rfl ((Mod.putObj w (q.b - 1) _).mono fun k _ hk => .inr ⟨rfl, ?_⟩)) hd hk
      rw [show k = q.b - 1 from hk]; omega
    · cases h
theorem resE_W {ρ : Rho} {H : AH} {w : World} {f : Tr AV} {g : Fr} (hf : FrR ρ f g) (hR : Rep B ρ H w) : ∀ {rs : List ResultVar} {l : List AV} {acc : List Value} {K : List Value → Prop}, resE P f H rs = some l → (∀ xs, embL ρ l = some xs → K (acc.reverse ++ xs)) → resVs P rs g w acc K
  | [], _, acc, K, h, hk => by cases h; have := hk [] rfl; rw [List.append_nil] at this; exact this
  | .tmp t :: rs, _, acc, K, h, hk => by
    simp only [resE, Option.bind_eq_some_iff, Option.map_eq_some_iff] at h
    obtain ⟨v, hv, l, hl, rfl⟩ := h
    refine resE_W hf hR (acc := g t :: acc) hl fun xs hxs => ?_
    have := hk (g t :: xs) (embL_cons.2 ⟨_, _, hf t v hv, hxs, rfl⟩)
    simpa using this
  | .cell a t :: rs, _, acc, K, h, hk => by
    simp only [resE, Option.bind_eq_some_iff, Option.map_eq_some_iff] at h
    obtain ⟨v, ⟨p, hp, hv⟩, l, hl, rfl⟩ := h
    obtain ⟨u, hu, hld⟩ := loadO_W hR hv (hf a p hp)
    refine hld _ (resE_W hf hR (acc := u :: acc) hl fun xs hxs => ?_)
    have := hk (u :: xs) (embL_cons.2 ⟨_, _, hu, hxs, rfl⟩)
    simpa using this
theorem oneA_W {ρ : Rho} {l : List AV} {xs : List Value} (h : embL ρ l = some xs) : emb ρ (oneA l) = some (one xs) := by
  cases l with
  | nil => rw [embL_nil.1 h]; rfl
  | cons v l =>
    obtain ⟨x, r, hx, hr, rfl⟩ := embL_cons.1 h
    cases l with
    | nil => rw [embL_nil.1 hr]; exact hx
    | cons u l =>
      obtain ⟨y, r2, hy, hr2, rfl⟩ := embL_cons.1 hr
      show (embL ρ (v :: u :: l)).map _ = _
      rw [h]; rfl
theorem isRf_W {H : AH} {n : Nat} {b : Bool} (h : isRf H n b = true) : H.get n = some (.rf b) := by
  unfold isRf at h
  split at h
  · rename_i hg; rw [beq_iff_eq] at h; rw [hg, h]
  · cases h
end
end Go.Proofs.YtbmcbbmgdcbhjaaGreatDoor.St

/- A machine that reckons closed calls: what it says of codes and calls is so. It names no program. -/
noncomputable section
namespace Go.Proofs.YtbmcbbmgdcbhjaaGreatDoor.St
open Go
section
variable {P : Program} {n : Nat}
/-- The record of a range over a function, with any number of slots. -/
def rfRec2 (fn : FuncId) (tmps : Array Value) (ps : Array Tmp) (x y : Code) (D : Nat) (st : LoopState) : Loop :=
  { state := st, pending := none, fn, tmps, params := ps, assign := x, body := y, defers := D }
def rfV (P : Program) (fv : Value) (np : Nat) (w : World) (B : List Value → World → ((World → Prop) → World → Prop) → (World → Prop) → Prop) (Q : World → Prop) : Prop :=
  (∃ g first cap, fv = .func (.func g) first cap) ∧
  ∀ (Rdy Bsy : World → Prop),
    (∀ w1 w2, Rdy w1 → w2.heap[w.heap.size]? = w1.heap[w.heap.size]? → w2.heap[w.heap.size + 1]? = w1.heap[w.heap.size + 1]? → Rdy w2) →
    (∀ w1 w2, Bsy w1 → w2.heap[w.heap.size]? = w1.heap[w.heap.size]? → w2.heap[w.heap.size + 1]? = w1.heap[w.heap.size + 1]? → Bsy w2) →
    ∀ w1, Mod (fun _ => False) w w1 → w1.heap.size = w.heap.size + 2 → Rdy w1 →
    (∀ (xs : List Value) (w2 : World) (K : World → Prop), xs.length = np → Rdy w2 →
      B xs w2 (fun body wa => Rdy wa ∧ ∀ wb, Bsy wb → Mod (fun k => k = w.heap.size + 1) wa wb → wb.heap.size = wa.heap.size → body wb)
        (fun wc => Bsy wc ∧ ∀ w3, Rdy w3 → Mod (fun k => k = w.heap.size + 1) wc w3 → w3.heap.size = wc.heap.size → K w3) →
      CaV P (.func (.yield (w.heap.size + 1)) #[] #[]) ⟨xs⟩ w2 (fun v w3 => v = .bool true ∧ K w3)) →
    CaV P fv #[.func (.yield (w.heap.size + 1)) #[] #[]] w1 fun _ w2 => Rdy w2 ∧
      ∀ w3, Mod (fun k => k = w.heap.size ∨ k = w.heap.size + 1) w2 w3 → w3.heap.size = w2.heap.size → w3.heap[w.heap.size]? = some (.deferred (some [])) → Q w3
theorem Rl.updL : ∀ (ps : List Nat) {xs : List Value} {tm : Array Value} {ds : List Deferred} {f : Fr}, (ps.all fun p => Nat.blt p n) = true → Rl n { tmps := tm, defers := ds } f ds →
    Rl n { tmps := (ps.zip xs).foldl (fun tmps (t, a) => tmps.setIfInBounds t a) tm, defers := ds } (updL f ps xs) ds
  | [], xs, tm, ds, f, _, h => by cases xs <;> exact h
  | p :: ps, [], tm, ds, f, _, h => h
  | p :: ps, x :: xs, tm, ds, f, hp, h => by
    simp only [List.all_cons, Bool.and_eq_true, Nat.blt_eq] at hp
    exact Rl.updL ps hp.2 (Rl.upd (a := { tmps := tm, defers := ds }) h x hp.1)
theorem rf_sound2 {g : Operand} {ps : Array Tmp} {x y : Code} {K : World → Prop} {Q : Post} {f : Fr} {ds : List Deferred} {w : World} {BX : Post → Fr → List Deferred → World → Prop} {BY : Post → Fr → List Deferred → World → Prop}
    (hpn : (ps.toList.all fun p => Nat.blt p n) = true)
    (hx : ∀ (Q : Post) (f : Fr) (w' : World), BX Q f [] w' → SW (some (w.heap.size + 1)) P n x (fun e f' ds' w' => Q e f' ds' w' ∧ ds' = []) f [] w')
    (hy : ∀ (Q : Post) (f : Fr) (w' : World), BY Q f [] w' → SW (some (w.heap.size + 1)) P n y Q f [] w')
    (h : rfV P (ev f g) ps.size w (fun xs w1 bg en => BX (onlyP fun f1 wa => bg (BY (onlyP fun _ wc => en wc) f1 []) wa) (St.updL f ps.toList xs) [] w1) K)
    (hQ : ∀ w3, K w3 → Q .normal f ({ target := .collected w.heap.size, args := #[] } :: ds) w3) :
    SW none P n (.rangeFunc g ps x y) Q f ds w := by
  intro a hR
  obtain ⟨⟨gf, first, cap, hfv⟩, h⟩ := h
  refine wpIn_rangeFunc ?_
  intro fn hfn
  let w1 : World := (w.alloc (.deferred (some []))).alloc (.loop (rfRec2 fn a.tmps ps x y w.heap.size .ready))
  have hD1 : w1.heap[w.heap.size]? = some (.deferred (some [])) := (heap_alloc_old (w.alloc (.deferred (some []))) _ (by rw [World.size_alloc]; omega)).trans (heap_alloc_new w _)
  have hL1 : w1.heap[w.heap.size + 1]? = some (.loop (rfRec2 fn a.tmps ps x y w.heap.size .ready)) := by
    have := heap_alloc_new (w.alloc (.deferred (some []))) (.loop (rfRec2 fn a.tmps ps x y w.heap.size .ready))
    rwa [World.size_alloc] at this
  have hs1 : w1.heap.size = w.heap.size + 2 := by
    show ((w.alloc (.deferred (some []))).alloc (.loop (rfRec2 fn a.tmps ps x y w.heap.size .ready))).heap.size = _
    rw [World.size_alloc, World.size_alloc]
  have hm1 : Mod (fun _ => False) w w1 := ⟨rfl, rfl, rfl, by omega, fun k hk _ =>
    (heap_alloc_old (w.alloc (.deferred (some []))) _ (by rw [World.size_alloc]; omega)).trans (heap_alloc_old w _ hk)⟩
  have put_l : ∀ (w' : World) (o o' : Obj), w'.heap[w.heap.size + 1]? = some o → w'.heap[w.heap.size]? = some (.deferred (some [])) →
      (w'.putObj (w.heap.size + 1) o').heap[w.heap.size + 1]? = some o' ∧ (w'.putObj (w.heap.size + 1) o').heap[w.heap.size]? = some (.deferred (some [])) ∧
      Mod (fun k => k = w.heap.size + 1) w' (w'.putObj (w.heap.size + 1) o') ∧ (w'.putObj (w.heap.size + 1) o').heap.size = w'.heap.size := by
    intro w' o o' h1 h2
    have hlt : w.heap.size + 1 < w'.heap.size := (Array.getElem?_eq_some_iff.1 h1).1
    refine ⟨?_, ?_, ⟨rfl, rfl, rfl, by simp [World.putObj], fun k _ hk => ?_⟩, by simp [World.putObj]⟩
    · simp only [World.putObj]; rw [Array.getElem?_setIfInBounds_self_of_lt hlt]
    · simp only [World.putObj]; rw [Array.getElem?_setIfInBounds_ne (by omega)]; exact h2
    · simp only [World.putObj]; rw [Array.getElem?_setIfInBounds_ne (fun e => hk e.symm)]
  have hca := h (fun w' => w'.heap[w.heap.size + 1]? = some (.loop (rfRec2 fn a.tmps ps x y w.heap.size .ready)) ∧ w'.heap[w.heap.size]? = some (.deferred (some [])))
    (fun w' => w'.heap[w.heap.size + 1]? = some (.loop (rfRec2 fn a.tmps ps x y w.heap.size .busy)) ∧ w'.heap[w.heap.size]? = some (.deferred (some [])))
    (fun w1 w2 h h1 h2 => ⟨by rw [h2]; exact h.1, by rw [h1]; exact h.2⟩) (fun w1 w2 h h1 h2 => ⟨by rw [h2]; exact h.1, by rw [h1]; exact h.2⟩)
    w1 hm1 hs1 ⟨hL1, hD1⟩
    (fun xs w2 K' hxl hr hB => ?_)
  · rw [hfv] at hca
    have hca : Ca P gf ⟨first.toList ++ ([.func (.yield (w.heap.size + 1)) #[] #[]] ++ cap.toList)⟩ w1 _ := hca
    refine ⟨w.heap.size + 1, [{ target := .collected w.heap.size, args := #[] }], w1, { target := .fn (.func gf) cap, args := first ++ #[.func (.yield (w.heap.size + 1)) #[] #[]] }, w1, gf,
      first ++ #[.func (.yield (w.heap.size + 1)) #[] #[]] ++ cap, w1, ?_, ?_, fun _ _ => trivial, ?_, (fun h => by cases h), ?_⟩
    · exact run_enterLoop_outer fn a.tmps ps x y
    · rw [hR.eval]
      exact resolve_val (c := rangeCall g (w.heap.size + 1)) (ty := 0) rfl hfv (by simp [ev])
    · have := hca.1 w1
      have e : first ++ #[.func (.yield (w.heap.size + 1)) #[] #[]] ++ cap = ⟨first.toList ++ ([.func (.yield (w.heap.size + 1)) #[] #[]] ++ cap.toList)⟩ := by apply Array.toList_inj.1; simp
      rw [invoke_func, e]
      exact this
    · have e : first ++ #[.func (.yield (w.heap.size + 1)) #[] #[]] ++ cap = ⟨first.toList ++ ([.func (.yield (w.heap.size + 1)) #[] #[]] ++ cap.toList)⟩ := by apply Array.toList_inj.1; simp
      rw [e]
      refine (callsIn_wide.2 (hca.2.mono fun e w2 ⟨v, he, hr, hk⟩ => ?_) : CallsIn Fence.wide 0 P gf _ w1 _)
      subst he
      obtain ⟨h1, h2, h3, h4⟩ := put_l w2 _ (.loop { rfRec2 fn a.tmps ps x y w.heap.size .ready with state := .exhausted }) hr.1 hr.2
      refine ⟨none, _, run_endLoop (P := P) hr.1 (by simp [rfRec2]), ?_⟩
      exact ⟨f, _, ⟨hR.size, by simp [hR.defs], hR.get⟩, hQ _ (hk _ ⟨h3.os, h3.tape, h3.output, h3.size, fun k hk hn => h3.keep k hk fun e => hn (.inr e)⟩ h4 h2)⟩
  · -- a round
    show Yi P (w.heap.size + 1) ⟨[] ++ xs⟩ w2 _
    have hyl := run_yield (P := P) (args := ⟨xs⟩) hr.1 (by simpa [rfRec2] using hxl)
    have hfold : (ps.zip (⟨xs⟩ : Array Value)).foldl (fun tmps (t, a) => tmps.setIfInBounds t a) a.tmps = (ps.toList.zip xs).foldl (fun tmps (t, a) => tmps.setIfInBounds t a) a.tmps := by
      rw [← Array.foldl_toList, Array.toList_zip]
    refine ⟨fn, (ps.toList.zip xs).foldl (fun tmps (t, a) => tmps.setIfInBounds t a) a.tmps, x, y, by rw [← hfold]; simpa [rfRec2] using hyl, ?_⟩
    refine roundIn_of_wpIn (F := wide none) trivial ?_
    have hR0 := Rl.updL (n := n) ps.toList (xs := xs) (tm := a.tmps) (ds := []) (f := f) hpn ⟨hR.size, rfl, hR.get⟩
    refine wpIn_mono (hx _ _ _ hB _ hR0) fun e a' wa ⟨f1, ds1, hR1, hq, hs⟩ => ?_
    cases e with
    | normal =>
      have hd : ds1 = [] := hs
      subst hd
      obtain ⟨hra, hbody⟩ := hq
      obtain ⟨h1, h2, h3, h4⟩ := put_l wa _ (.loop { rfRec2 fn a.tmps ps x y w.heap.size .ready with state := .busy }) hra.1 hra.2
      refine ⟨_, run_beginRound (P := P) hra.1 rfl, ?_⟩
      have hb := hbody _ ⟨h1, h2⟩ h3 h4
      refine wpIn_mono (hy _ _ _ hb a' hR1) fun e a'' wc ⟨f2, ds2, hR2, hq2⟩ => ?_
      cases e with
      | normal =>
        obtain ⟨hbc, hk⟩ := hq2
        obtain ⟨h1, h2, h3, h4⟩ := put_l wc _ (.loop { rfRec2 fn a.tmps ps x y w.heap.size .busy with state := .ready, pending := none }) hbc.1 hbc.2
        refine ⟨_, _, run_endRound (P := P) none hbc.1, _, rfl, rfl, hk _ ⟨h1, h2⟩ h3 h4⟩
      | _ => exact hq2.elim
    | _ => exact hq.elim

end
section
variable {P : Program} {B : World} {gm : Nat → Option Nat} {nat : Nat'} {pls : Nat → Nat → Plan}
theorem SW.mono {r : Option Nat} {n : Nat} {c : Code} {Q Q' : Post} {f : Fr} {ds : List Deferred} {w : World} (h : SW r P n c Q f ds w) (hq : ∀ e f ds w, Q e f ds w → Q' e f ds w) : SW r P n c Q' f ds w :=
  fun a hR => wpIn_mono (h a hR) fun _ _ _ ⟨f', ds', hR', hq'⟩ => ⟨f', ds', hR', hq _ _ _ _ hq'⟩
theorem lookY_cons {N M : Nat} {y ye : YE} {env : EnvL} (h : lookY N ((M, y) :: env) = some ye) : (M = N ∧ ye = y) ∨ lookY N env = some ye := by
  unfold lookY at h
  cases hb : Nat.beq M N with
  | true => rw [hb] at h; cases h; exact .inl ⟨(beq_iff _ _).1 hb, rfl⟩
  | false => rw [hb] at h; exact .inr h
/-- The record of a loop changes. -/
theorem Rep.turn {ρ : Rho} {H : AH} {w w' : World} (h : Rep B ρ H w) {N : Nat} {b b' : Bool} {q : Pl} (hg : H.get N = some (.rf b)) (hq : ρ.at_ N = some q) (hm : Mod (fun k => k = q.b) w w') (hb : cond b' (ρ.bs N w') (ρ.rd N w')) : Rep B ρ (H.put N (some (.rf b'))) w' := by
  obtain ⟨q', hq', ho⟩ := h.ok _ _ hg
  obtain rfl := Option.some.inj (hq.symm.trans hq')
  exact h.put hg hq rfl (hm.mono fun k _ hk => .inl hk) ⟨hb, ho.2.1, Nat.lt_of_lt_of_le ho.2.2.1 hm.size, ho.2.2.2.1, ho.2.2.2.2⟩ rfl fun k hk => hk
theorem callE_W {ρ0 : Rho} (hrg : RgsOK P pls) (hnat : NatOK P B gm ρ0 nat) {ev : EvT} (hev : EvOK P gm ρ0 B ev) (env : EnvL) : ClOK P B (EnvOK P gm ρ0 env) (callE P nat pls ev env) := by
  intro ρ H w hR hE fv ags outs fv' ags' h hfv has K hK
  simp only [callE] at h
  split at h
  · rename_i g x y
    simp only [emb, Option.bind_eq_some_iff, Option.map_eq_some_iff] at hfv
    obtain ⟨xs, hx, ys, hy, rfl⟩ := hfv
    unfold callF at h
    split at h
    · rename_i hh hnh
      exact hnat g hh hnh ρ H w hR hE.1 _ outs _ h (embL_app hx (embL_app has hy)) K hK
    split at h
    · cases h
    · rename_i fn hfn
      split at h
      · cases h
      · rename_i c hc
        obtain ⟨hok, h⟩ := Conds.of h
        simp only [Bool.and_eq_true, Bool.not_eq_true'] at hok
        obtain ⟨hn, hl, hl2⟩ := hok
        obtain ⟨os, hos, h⟩ := Option.bind_eq_some_iff.1 h
        obtain ⟨outs0, h0, hout⟩ := Option.map_eq_some_iff.1 h
        subst hout
        replace hK := mergeE_W hR.fr hK
        have hargs := embL_app hx (embL_app has hy)
        show Ca P g ⟨xs ++ (ags' ++ ys)⟩ w K
        rw [Nat.ble_eq] at hl hl2
        have hlen := embL_len hargs
        refine ⟨fun w => callFunc_run hfn hc hn _ w, ?_⟩
        refine callsIn_wide.1 (callsIn_of_wp_marks (F := Fence.wide) (n := 0) hfn hc trivial ?_ rfl)
        have hRl : Rl fn.ntmps { tmps := (⟨xs ++ (ags' ++ ys)⟩ : Array Value) ++ Array.replicate (fn.ntmps - (xs ++ (ags' ++ ys)).length) undef, defers := [] } (fr0 (xs ++ (ags' ++ ys))) [] := by
          generalize hargs' : xs ++ (ags' ++ ys) = args at hlen
          refine ⟨by simp; omega, rfl, fun t => ?_⟩
          simp only [fr0, Array.getD_eq_getD_getElem?]
          by_cases ht : t < args.length
          · rw [Array.getElem?_append_left (by simpa using ht)]; simp [ht]
          · rw [Array.getElem?_append_right (by simpa using ht)]
            simp only [List.size_toArray]
            rw [List.getElem?_eq_none (by omega)]
            by_cases h2 : t - args.length < fn.ntmps - args.length
            · simp [h2]
            · rw [Array.getElem?_eq_none (by simp; omega)]
        have hfr : FrR ρ (mkF (x ++ (ags ++ y)) 0 .lf) (fr0 (xs ++ (ags' ++ ys))) :=
          mkF_W 0 hargs (by rw [Nat.ble_eq]; omega) (fun t v e => by cases e) fun t _ _ => rfl
        have hsw := hev env ⟨fn.ntmps, pls g, false⟩ c _ _ _ os hos (by have := hrg g fn hfn; unfold rgsF at this; rw [hc] at this; exact this) ρ _ [] w hR hfr trivial hE none (fun _ => rfl) (endP P fn.results.toList K) fun o ho ρ' g' ds' w' a1 a2 a3 a4 => by
          obtain ⟨e, f, ds, H'⟩ := o
          obtain ⟨o2, ho2, hmem⟩ := flatM_mem h0 _ ho
          have fin : ∀ r, ((endE ds H').bind fun H => (resE P f H fn.results.toList).map fun l => [(oneA l, H)]) = some r → (∀ z ∈ r, z ∈ outs0) → endD ds' w' fun w'' => resVs P fn.results.toList g' w'' [] fun vs => K (one vs) w'' := fun r hr hmem => by
            obtain ⟨H2, hH2, hr⟩ := Option.bind_eq_some_iff.1 hr
            obtain ⟨l, hl, rfl⟩ := Option.map_eq_some_iff.1 hr
            refine endE_W ds hH2 a2 a4 fun w'' hR'' => resE_W a3 hR'' hl fun vs hvs => ?_
            exact hK _ (hmem _ (List.mem_singleton.2 rfl)) ρ' w'' _ a1 hR'' (oneA_W (by simpa using hvs))
          cases e with
          | nm => exact fin o2 ho2 hmem
          | rt => exact fin o2 ho2 hmem
          | ex i => cases ho2
        have hsw := hsw _ hRl
        refine wpIn_mono hsw fun e a' w' ⟨f', ds', hR', he⟩ => ?_
        cases e with
        | normal =>
          show LeavesInM _ _ _ _ _ _ _ _ _
          rw [hR'.defs]
          refine endD_leaves ds' w' _ he fun w'' h => ?_
          obtain ⟨v, hk, hr⟩ := results_run (P := P) (fn := fn) (K := fun v => K v w'') hR'.get h
          exact ⟨v, hr, v, rfl, hk⟩
        | ret =>
          show LeavesInM _ _ _ _ _ _ _ _ _
          rw [hR'.defs]
          refine endD_leaves ds' w' _ he fun w'' h => ?_
          obtain ⟨v, hk, hr⟩ := results_run (P := P) (fn := fn) (K := fun v => K v w'') hR'.get h
          exact ⟨v, hr, v, rfl, hk⟩
        | exit id => exact he.elim
        | goto id => exact he.elim
        | panic id => exact he.elim
        | outgrown => exact he.elim
  · rename_i N
    unfold callY at h
    split at h
    · rename_i ye hye
      obtain ⟨hr1, h⟩ := Conds.of h
      rw [Bool.and_eq_true, beq_iff] at hr1
      obtain ⟨hr1, hlen⟩ := hr1
      obtain ⟨os, hos, h⟩ := Option.bind_eq_some_iff.1 h
      obtain ⟨⟨q, g, hq, hf, hp, hy⟩, hrx, hry⟩ := hE.2 N ye hye
      simp only [emb, hq, Option.map_some, Option.some.injEq] at hfv
      subst hfv
      have hg1 := isRf_W hr1
      obtain ⟨q0, hq0, ho0⟩ := hR.ok _ _ hg1
      obtain rfl := Option.some.inj (hq.symm.trans hq0)
      refine CaV.mono (hy ags' w (fun w3 => K (.bool true) w3) ((embL_len has).trans hlen) ho0.1 ?_) fun v w' ⟨e, hk⟩ => by subst e; exact hk
      refine hev env ⟨ye.n, ye.pl, true⟩ ye.x _ _ _ os hos hrx ρ (updL g ye.p ags') [] w hR (putL_W ye.p hp has hf) trivial hE _ (fun e => by cases e) _ fun o ho ρ' g' ds' w' a1 a2 a3 a4 => ?_
      obtain ⟨o2, ho2, hmem⟩ := flatM_mem h _ ho
      split at ho2
      · rename_i f1 H1
        obtain ⟨hr2, ho2⟩ := Conds.of ho2
        obtain ⟨os2, hos2, ho2⟩ := Option.bind_eq_some_iff.1 ho2
        have hg2 := isRf_W hr2
        obtain ⟨b1, b2, b3⟩ := a1.at_ _ _ hq
        have hds : ds' = [] := by cases ds' with | nil => rfl | cons _ _ => exact a4.elim
        obtain ⟨q2, hq2, ho2'⟩ := a2.ok _ _ hg2
        obtain rfl := Option.some.inj (b1.symm.trans hq2)
        refine ⟨⟨rfl, by rw [← b2]; exact ho2'.1, fun wb hbs hmb _ => ?_⟩, hds⟩
        have hRb := a2.turn (b' := true) hg2 b1 hmb (by rw [b3]; exact hbs)
        refine hev env ⟨ye.n, ye.pl, true⟩ ye.y _ _ _ os2 hos2 hry ρ' g' [] wb hRb a3 trivial ((env0 P gm ρ0 env).mono _ _ a1 hE) _ (fun e => by cases e) _ fun o3 ho3 ρ3 g3 ds3 w3 c1 c2 c3 c4 => ?_
        obtain ⟨o4, ho4, hmem4⟩ := flatM_mem ho2 _ ho3
        split at ho4
        · rename_i f3 ds3' H3
          obtain ⟨hr3, ho4⟩ := Conds.of ho4
          cases ho4
          have hg3 := isRf_W hr3
          obtain ⟨d1, d2, d3⟩ := c1.at_ _ _ b1
          obtain ⟨q3, hq3, ho3'⟩ := c2.ok _ _ hg3
          obtain rfl := Option.some.inj (d1.symm.trans hq3)
          refine ⟨rfl, by rw [← b3, ← d3]; exact ho3'.1, fun w4 hrd hm4 _ => ?_⟩
          have hR4 := c2.turn (b' := false) hg3 d1 hm4 (by rw [d2, b2]; exact hrd)
          exact hK _ (hmem _ (hmem4 _ (List.mem_singleton.2 rfl))) ρ3 w4 _ (a1.trans c1) hR4 rfl
        · cases ho4
      · cases ho2
    · cases h
  · cases h
end
end Go.Proofs.YtbmcbbmgdcbhjaaGreatDoor.St

/- A machine that reckons closed calls: it is right. It names no program. -/
noncomputable section
namespace Go.Proofs.YtbmcbbmgdcbhjaaGreatDoor.St
open Go
section
variable {P : Program} {B : World} {gm : Nat → Option Nat} {nat : Nat'} {pls : Nat → Nat → Plan}
theorem loopE_W {r : Option Nat} {n : Nat} {c : Code} {body : Tr AV → List Nat → AH → COuts} {E : Rho → Prop} (hE : ∀ ρ ρ', ρ.le ρ' → E ρ → E ρ')
    (hb : ∀ f ds H outs, body f ds H = some outs → ∀ ρ g dsc w, Rep B ρ H w → FrR ρ f g → DsR ρ ds dsc → E ρ → ∀ Q, AllC B ρ outs Q → SW r P n c Q g dsc w) {Q : Post} :
    ∀ (m : Nat) {f : Tr AV} {ds : List Nat} {H : AH} {outs : List (AX × Tr AV × List Nat × AH)}, loopE body m f ds H = some outs → ∀ {ρ : Rho} {g : Fr} {dsc : List Deferred} {w : World}, Rep B ρ H w → FrR ρ f g → DsR ρ ds dsc → E ρ → AllC B ρ outs Q →
      ∀ a, Rl n a g dsc → Code.roundsIn (wide r) 0 P c (fun e a' w' => ∃ f' ds', Rl n a' f' ds' ∧ Q e f' ds' w') m a w
  | 0, _, _, _, _, h, _, _, _, _, _, _, _, _, _, _, _ => by cases h
  | m + 1, f, ds, H, outs, h, ρ, g, dsc, w, hR, hf, hd, he, hQ, a, hRl => by
    unfold loopE at h
    obtain ⟨os, hos, h⟩ := Option.bind_eq_some_iff.1 h
    rw [roundsIn_succ]
    have hsw := hb f ds H os hos ρ g dsc w hR hf hd he (fun e f' ds' w' => match e with
      | .normal => ∀ a, Rl n a f' ds' → Code.roundsIn (wide r) 0 P c (fun e a' w' => ∃ f' ds', Rl n a' f' ds' ∧ Q e f' ds' w') m a w'
      | e => Q e f' ds' w') fun o ho ρ' g' ds' w' a1 a2 a3 a4 => by
        obtain ⟨o2, ho2, hmem⟩ := flatM_mem h _ ho
        split at ho2
        · exact loopE_W hE hb m ho2 a2 a3 a4 (hE _ _ a1 he) fun z hz ρ2 g2 d2 w2 b1 b2 b3 b4 => hQ z (hmem z hz) ρ2 g2 d2 w2 (a1.trans b1) b2 b3 b4
        · rename_i hne
          cases ho2
          have := hQ _ (hmem _ (List.mem_singleton.2 rfl)) ρ' g' ds' w' a1 a2 a3 a4
          obtain ⟨e, f1, ds1, H1⟩ := o
          cases e with
          | nm => exact absurd rfl (hne _ _ _)
          | ex i => exact this
          | rt => exact this
    refine wpIn_mono (hsw a hRl) fun e a' w' ⟨f', ds', hR', hq⟩ => ?_
    cases e with
    | normal => exact hq a' hR'
    | _ => exact ⟨f', ds', hR', hq⟩
theorem stepE_W {ρ0 : Rho} (hm : P.follows .mixedOrders = true) (hrg : RgsOK P pls) (hnat : NatOK P B gm ρ0 nat) {k : Nat} {ih : EvT} (hev : EvOK P gm ρ0 B ih) : EvOK P gm ρ0 B (stepE P gm nat pls k ih) := by
  intro env fc c f ds H outs h hok ρ g dsc w hR hf hd hE r hr Q hQ
  have h0 := env0 P gm ρ0 env
  have hcl := callE_W (pls := pls) hrg hnat hev env
  have here : ∀ {x : AX}, outs = [(x, f, ds, H)] → Q x.to g dsc w := fun {x} e => by
    subst e; exact hQ _ (List.mem_singleton.2 rfl) ρ g dsc w (Rho.le.refl _) hR hf hd
  cases c with
  | skip => cases h; exact fun a hRl => wpIn_skip ⟨g, dsc, hRl, here rfl⟩
  | region id ops draw =>
    unfold stepE sRegion at h
    unfold rgs at hok
    obtain ⟨l, hl, rfl⟩ := Option.map_eq_some_iff.1 h
    have hF : AllF B ρ l fun f' w' => Q .normal f' dsc w' := fun o ho ρ' g' w' a1 a2 a3 =>
      hQ _ (List.mem_map.2 ⟨o, ho, rfl⟩) ρ' g' dsc w' a1 a2 a3 (hd.mono a1)
    intro a hRl
    cases draw with
    | false =>
      refine wpIn_region ?_
      have := wpL_sound (r := r) (P := P) (g := g) (Q := fun f' w' => Q .normal f' dsc w') (Qe := fun e a' w' => ∃ f' ds', Rl fc.n a' f' ds' ∧ Q e f' ds' w')
        (fun a f' w hR hs h => ⟨f', dsc, hR, h⟩) ops.toList 0 (by simp) hok 0 g a w hRl (fun _ _ => rfl) (wplE_W h0 hcl ops.toList 0 hl hf hR hE hF)
      rwa [List.range_eq_range', ← Array.length_toList]
    | true => exact plan_region hm hok hRl (fun a f' w hR hs h => ⟨f', dsc, hR, h⟩) (plE_W h0 hcl (fc.pl id) hl hf (hR.grow (Mod.drew w)) hE hF)
  | seq x y =>
    unfold stepE sSeq at h
    simp only [rgs, Bool.and_eq_true] at hok
    obtain ⟨os, hos, h⟩ := Option.bind_eq_some_iff.1 h
    intro a hRl
    have hx := hev env fc x f ds H os hos hok.1 ρ g dsc w hR hf hd hE r hr (thenP (SW r P fc.n y Q) Q) fun o ho ρ' g' ds' w' a1 a2 a3 a4 => by
      obtain ⟨o2, ho2, hmem⟩ := flatM_mem h _ ho
      split at ho2
      · exact hev env fc y _ _ _ o2 ho2 hok.2 ρ' g' ds' w' a2 a3 a4 (h0.mono _ _ a1 hE) r hr Q fun z hz ρ2 g2 d2 w2 b1 b2 b3 b4 => hQ z (hmem z hz) ρ2 g2 d2 w2 (a1.trans b1) b2 b3 b4
      · rename_i hne
        cases ho2
        have := hQ _ (hmem _ (List.mem_singleton.2 rfl)) ρ' g' ds' w' a1 a2 a3 a4
        obtain ⟨e, f1, ds1, H1⟩ := o
        cases e with
        | nm => exact absurd rfl (hne _ _ _)
        | ex i => exact this
        | rt => exact this
    exact wpIn_seq (wpIn_mono (hx a hRl) fun e a' w' h' => thenP_act (fun a f ds w hR h => h a hR) e a' w' h')
  | cond c x y =>
    simp only [stepE] at h
    simp only [rgs, Bool.and_eq_true] at hok
    split at h
    · rename_i b hb
      have e := eo_ok hf hE.1.g hb
      have e : ev g c = .bool b := by simpa [emb] using e.symm
      intro a hRl
      have hb' : a.eval c = .bool b := by rw [hRl.eval]; exact e
      cases b with
      | true => exact wpIn_cond_true hb' (hev env fc x f ds H outs h hok.1 ρ g dsc w hR hf hd hE r hr Q hQ a hRl)
      | false => exact wpIn_cond_false hb' (hev env fc y f ds H outs h hok.2 ρ g dsc w hR hf hd hE r hr Q hQ a hRl)
    · cases h
  | block id c =>
    unfold stepE at h
    obtain ⟨os, hos, rfl⟩ := Option.map_eq_some_iff.1 h
    intro a hRl
    have hx := hev env fc c f ds H os hos hok ρ g dsc w hR hf hd hE r hr (inBlockP id Q) fun o ho ρ' g' ds' w' a1 a2 a3 a4 => by
      have := hQ _ (List.mem_map.2 ⟨o, ho, rfl⟩) ρ' g' ds' w'
      obtain ⟨e, f1, ds1, H1⟩ := o
      cases e with
      | nm => exact this a1 a2 a3 a4
      | rt => exact this a1 a2 a3 a4
      | ex i =>
        simp only [AX.to, inBlockP]
        cases hb : Nat.beq i id with
        | true => simp only [outB, hb, cond_true] at this; exact this a1 a2 a3 a4
        | false => simp only [outB, hb, cond_false] at this; exact this a1 a2 a3 a4
    exact wpIn_block (wpIn_mono (hx a hRl) fun e a' w' h' => inBlockP_act e a' w' h')
  | loop c =>
    unfold stepE at h
    intro a hRl
    exact wpIn_loop_rounds k (loopE_W (E := EnvOK P gm ρ0 env) h0.mono (fun f ds H outs hb ρ g dsc w hR hf hd hE Q hQ => hev env fc c f ds H outs hb hok ρ g dsc w hR hf hd hE r hr Q hQ) k h hR hf hd hE hQ a hRl)
  | rangeFunc gv ps x y =>
    simp only [stepE, sRange] at h
    simp only [rgs, Bool.and_eq_true] at hok
    split at h
    · rename_i gf u v hin hgv
      obtain ⟨hc, h⟩ := Conds.of h
      rw [Bool.and_eq_true, List.all_eq_true] at hc
      obtain ⟨hpp, hnx⟩ := hc
      have hpn : (ps.toList.all fun p => Nat.blt p fc.n) = true := List.all_eq_true.2 fun p hp => by have := hpp p hp; rw [Bool.and_eq_true] at this; exact this.1
      have hpt : (ps.toList.all fun p => Nat.blt p tmax) = true := List.all_eq_true.2 fun p hp => by have := hpp p hp; rw [Bool.and_eq_true] at this; exact this.2
      obtain ⟨os, hos, h⟩ := Option.bind_eq_some_iff.1 h
      cases hr hin
      have hgv' := eo_ok hf hE.1.g hgv
      have hgv2 := hgv'
      simp only [emb, Option.bind_eq_some_iff, Option.map_eq_some_iff] at hgv2
      obtain ⟨us, hu, vs, hv, hev0⟩ := hgv2
      refine rf_sound2 (K := fun w3 => Q .normal g ({ target := .collected w.heap.size, args := #[] } :: dsc) w3)
        (BX := fun Q f _ w' => SW (some (w.heap.size + 1)) P fc.n x (fun e f' ds' w' => Q e f' ds' w' ∧ ds' = []) f [] w')
        (BY := fun Q f _ w' => SW (some (w.heap.size + 1)) P fc.n y Q f [] w') hpn (fun Q f w' h => h) (fun Q f w' h => h) ?_ fun w3 hk => hk
      refine ⟨⟨gf, ⟨us⟩, ⟨vs⟩, hev0.symm⟩, ?_⟩
      intro Rdy Bsy hRs hBs w1 hm1 hs1 hr1 hy
      have hbk : ∀ {o : AO} {k : Nat}, Bk o ⟨w.heap.size + 1, 0, 0⟩ k → k = w.heap.size + 1 ∨ k = w.heap.size := fun {o k} hk => by
        rcases hk with h | ⟨_, h⟩
        · exact .inl h
        · exact .inr (by simpa using h)
      have hle : ρ.le (ρ.ext H.nx ⟨w.heap.size + 1, 0, 0⟩ Rdy Bsy) := Rho.ext_le hR.none_at
      have hR1 : Rep B (ρ.ext H.nx ⟨w.heap.size + 1, 0, 0⟩ Rdy Bsy) (H.add (.rf false)) w1 := hR.add hm1 hnx rfl
        ⟨by simpa [Rho.ext] using hr1, by simp, by simp only; omega, by simpa [Rho.ext, Shut] using fun a b c d e => hRs a b c e d, by simpa [Rho.ext, Shut] using fun a b c d e => hBs a b c e d⟩
        (fun k hk => by rcases hbk hk with h | h <;> omega)
      have hE1 : EnvOK P gm ρ0 ((H.nx, ⟨fc.n, fc.pl, x, y, ps.toList, f⟩) :: env) (ρ.ext H.nx ⟨w.heap.size + 1, 0, 0⟩ Rdy Bsy) := by
        refine ⟨hE.1.mono hle, fun N ye hy' => ?_⟩
        rcases lookY_cons hy' with ⟨rfl, rfl⟩ | hy'
        · refine ⟨⟨_, g, Rho.ext_at, hf.mono hle, hpt, fun x' w2 K' hxl hrd hsw => hy x' w2 K' (by simpa using hxl) (by simpa [Rho.ext] using hrd) ?_⟩, hok⟩
          refine SW.mono hsw fun e f1 ds1 wa ⟨⟨he, h1, h2⟩, h3⟩ => ⟨?_, h3⟩
          subst he
          refine ⟨by simpa [Rho.ext] using h1, fun wb hb hmb hsb => SW.mono (h2 wb (by simpa [Rho.ext] using hb) hmb hsb) fun e f2 ds2 wc ⟨he, h4, h5⟩ => ?_⟩
          subst he
          exact ⟨by simpa [Rho.ext] using h4, fun w3 hr3 => h5 w3 (by simpa [Rho.ext] using hr3)⟩
        · exact ⟨(hE.2 N ye hy').1.mono hle, (hE.2 N ye hy').2⟩
      have e0 : ev g gv = .func (.func gf) ⟨us⟩ ⟨vs⟩ := hev0.symm
      rw [e0]
      have hcl1 := callE_W (pls := pls) hrg hnat hev ((H.nx, ⟨fc.n, fc.pl, x, y, ps.toList, f⟩) :: env) _ _ w1 hR1 hE1 (.f gf u v) [.y H.nx] os (.func (.func gf) ⟨us⟩ ⟨vs⟩) [.func (.yield (w.heap.size + 1)) #[] #[]] hos
        (by simp only [emb, embL_mono hle _ hu, embL_mono hle _ hv]; rfl) (embL_cons.2 ⟨_, _, by simp only [emb, Rho.ext_at]; rfl, rfl, rfl⟩)
      refine hcl1 _ fun o ho ρ2 w2 x2 a1 a2 a3 => ?_
      obtain ⟨o2, ho2, hmem⟩ := flatM_mem h _ ho
      obtain ⟨hr2, ho2⟩ := Conds.of ho2
      cases ho2
      have hg2 := isRf_W hr2
      obtain ⟨b1, b2, b3⟩ := a1.at_ _ _ (Rho.ext_at (ρ := ρ) (n := H.nx) (q := ⟨w.heap.size + 1, 0, 0⟩) (rd := Rdy) (bs := Bsy))
      obtain ⟨q2, hq2, ho2'⟩ := a2.ok _ _ hg2
      obtain rfl := Option.some.inj (b1.symm.trans hq2)
      refine ⟨by have := ho2'.1; rw [b2] at this; simpa [Rho.ext] using this, fun w3 hm3 hs3 hd3 => ?_⟩
      have hR3 : Rep B ρ2 (o.2.put H.nx (some .dn)) w3 := a2.put hg2 b1 rfl (hm3.mono fun k _ hk => by
        rcases hk with h | h
        · exact .inr ⟨rfl, by simp only; omega⟩
        · exact .inl h) ⟨by simpa using hd3, by simp, by have := ho2'.2.2.1; rw [hs3]; exact this⟩ rfl fun k hk => hk
      exact hQ _ (hmem _ (List.mem_singleton.2 rfl)) ρ2 g _ w3 (hle.trans a1) hR3 (hf.mono (hle.trans a1)) ⟨⟨_, b1, by simp, by simp⟩, hd.mono (hle.trans a1)⟩
    · cases h
  | exit id => cases h; exact fun a hRl => wpIn_exit ⟨g, dsc, hRl, here (x := .ex id) rfl⟩
  | ret => cases h; exact fun a hRl => wpIn_ret ⟨g, dsc, hRl, here (x := .rt) rfl⟩
  | scope c =>
    unfold stepE at h
    intro a hRl
    have hx := hev env fc c f ds H outs h hok ρ g dsc w hR hf hd hE r hr (noGotoP Q) fun o ho ρ' g' ds' w' a1 a2 a3 a4 => by
      have := hQ o ho ρ' g' ds' w' a1 a2 a3 a4
      obtain ⟨e, f1, ds1, H1⟩ := o
      cases e <;> exact this
    refine wpIn_scope (wpIn_mono (hx a hRl) fun e a' w' ⟨f', ds', hR', hq⟩ => ?_)
    cases e with
    | goto l => exact hq.elim
    | normal => exact ⟨f', ds', hR', hq⟩
    | exit i => exact ⟨f', ds', hR', hq⟩
    | ret => exact ⟨f', ds', hR', hq⟩
    | panic i => exact ⟨f', ds', hR', hq⟩
    | outgrown => exact ⟨f', ds', hR', hq⟩
  | label l => cases h; exact fun a hRl => wpIn_label ⟨g, dsc, hRl, here (x := .nm) rfl⟩
  | goto l => cases h
  | refuse s => cases h
theorem evC_W {ρ0 : Rho} (hm : P.follows .mixedOrders = true) (hrg : RgsOK P pls) (hnat : NatOK P B gm ρ0 nat) : ∀ k : Nat, EvOK P gm ρ0 B (evC P gm nat pls k)
  | 0 => fun _ _ _ _ _ _ _ h => by cases h
  | k + 1 => stepE_W hm hrg hnat (evC_W hm hrg hnat k)
/-- A call whose reckoning ends always so. -/
theorem call_reckoned (hm : P.follows .mixedOrders = true) (hrg : RgsOK P pls) {ρ : Rho} (hnat : NatOK P B gm ρ nat) {k : Nat} {g : FuncId} {args : List AV} {args' : List Value} {H : AH} {outs : List (AV × AH)} (h : callE P nat pls (evC P gm nat pls k) [] (.f g [] []) args H = some outs) {w : World} (hR : Rep B ρ H w) (hG : GmR ρ gm) (ha : embL ρ args = some args')
    {K : Value → World → Prop} (hK : AllK B ρ outs K) : Ca P g ⟨args'⟩ w K := by
  have := callE_W (pls := pls) hrg hnat (evC_W (B := B) (gm := gm) hm hrg hnat k) [] ρ H w hR ⟨⟨hG, Rho.le.refl _⟩, fun N ye e => by cases e⟩ (.f g [] []) args outs (.func (.func g) #[] #[]) args' h rfl ha K hK
  simpa [CaV] using this
end
end Go.Proofs.YtbmcbbmgdcbhjaaGreatDoor.St

/- Plans of regions, printed by a program of mine (plans.py). -/
set_option maxRecDepth 1000000
namespace Go.Proofs.YtbmcbbmgdcbhjaaGreatDoor
open Go Go.Proofs.YtbmcbbmgdcbhjaaGreatDoor.St
def pl4 : Nat → Plan
  | 18 => (.quiet 0 (.quiet 1 (.quiet 2 (.quiet 3 (.quiet 4 (.quiet 5 (.eff 6 [4] (.eff 7 [] (.quiet 8 .done)))))))))
  | _ => .done
def pl5 : Nat → Plan
  | 6 => (.quiet 0 (.quiet 1 (.quiet 2 (.quiet 3 (.quiet 4 (.quiet 5 (.quiet 6 (.quiet 7 (.quiet 8 (.quiet 9 (.quiet 10 (.eff 11 [] .done))))))))))))
  | 8 => (.quiet 0 (.quiet 1 (.quiet 2 (.quiet 3 (.quiet 4 (.quiet 5 (.quiet 6 (.quiet 7 (.quiet 8 .done)))))))))
  | 9 => (.quiet 0 (.quiet 1 (.quiet 2 (.quiet 3 (.quiet 4 (.quiet 5 (.quiet 6 (.quiet 7 (.quiet 8 (.eff 9 [4] (.eff 10 [] (.quiet 11 .done))))))))))))
  | _ => .done
def pl16 : Nat → Plan
  | 4 => (.quiet 0 (.quiet 1 (.quiet 2 (.quiet 3 (.quiet 5 (.quiet 6 (.quiet 7 (.quiet 8 (.eff 4 [8] (.eff 9 [] (.quiet 10 (.eff 11 [] (.quiet 12 (.eff 13 [] .done))))))))))))))
  | 9 => (.quiet 0 (.quiet 1 (.quiet 2 (.quiet 3 (.eff 4 [1] (.eff 5 [] .done))))))
  | 13 => (.quiet 0 (.quiet 1 (.quiet 2 (.quiet 3 (.quiet 4 (.eff 5 [1] (.eff 6 [] .done)))))))
  | _ => .done
def pl17 : Nat → Plan
  | 5 => (.quiet 0 (.quiet 1 (.quiet 3 (.quiet 4 (.eff 2 [4] (.eff 5 [] (.quiet 6 (.quiet 7 (.quiet 8 (.quiet 9 .done))))))))))
  | _ => .done
def pl18 : Nat → Plan
  | 6 => (.quiet 0 (.quiet 1 (.quiet 2 (.quiet 3 (.quiet 4 (.quiet 5 (.eff 6 [4] (.eff 7 [4] (.eff 8 [] (.quiet 9 (.quiet 10 (.eff 11 [] .done))))))))))))
  | _ => .done
def pl20 : Nat → Plan
  | 8 => (.quiet 0 (.quiet 1 (.eff 2 [0] (.eff 3 [] (.eff 4 [] .done)))))
  | 15 => (.quiet 0 (.quiet 1 (.quiet 2 (.quiet 3 (.quiet 4 (.eff 5 [] (.quiet 6 (.quiet 7 (.quiet 8 (.quiet 9 (.quiet 10 .done)))))))))))
  | _ => .done
def pl21 : Nat → Plan
  | 17 => (.quiet 0 (.quiet 1 (.eff 2 [0] (.eff 3 [] (.quiet 4 .done)))))
  | _ => .done
def pl25 : Nat → Plan
  | 4 => (.quiet 0 (.quiet 1 (.fork (.eff 2 [1] (.fork (.eff 3 [1] (.fork (.eff 4 [1] (.eff 5 [1] (.quiet 6 (.eff 7 [] (.quiet 8 .done))))) (.eff 5 [1] (.eff 4 [1] (.quiet 6 (.eff 7 [] (.quiet 8 .done))))))) (.fork (.eff 4 [1] (.fork (.eff 3 [1] (.eff 5 [1] (.quiet 6 (.eff 7 [] (.quiet 8 .done))))) (.eff 5 [1] (.eff 3 [1] (.quiet 6 (.eff 7 [] (.quiet 8 .done))))))) (.eff 5 [1] (.fork (.eff 3 [1] (.eff 4 [1] (.quiet 6 (.eff 7 [] (.quiet 8 .done))))) (.eff 4 [1] (.eff 3 [1] (.quiet 6 (.eff 7 [] (.quiet 8 .done)))))))))) (.fork (.eff 3 [1] (.fork (.eff 2 [1] (.fork (.eff 4 [1] (.eff 5 [1] (.quiet 6 (.eff 7 [] (.quiet 8 .done))))) (.eff 5 [1] (.eff 4 [1] (.quiet 6 (.eff 7 [] (.quiet 8 .done))))))) (.eff 5 [1] (.eff 2 [1] (.eff 4 [1] (.quiet 6 (.eff 7 [] (.quiet 8 .done)))))))) (.eff 5 [1] (.fork (.eff 2 [1] (.fork (.eff 3 [1] (.eff 4 [1] (.quiet 6 (.eff 7 [] (.quiet 8 .done))))) (.eff 4 [1] (.eff 3 [1] (.quiet 6 (.eff 7 [] (.quiet 8 .done))))))) (.eff 3 [1] (.eff 2 [1] (.eff 4 [1] (.quiet 6 (.eff 7 [] (.quiet 8 .done))))))))))))
  | _ => .done
def pl29 : Nat → Plan
  | 7 => (.quiet 0 (.quiet 1 (.quiet 2 (.quiet 3 (.quiet 4 (.eff 5 [] (.quiet 6 (.quiet 7 (.quiet 8 (.quiet 9 (.quiet 10 .done)))))))))))
  | _ => .done
def pl31 : Nat → Plan
  | 5 => (.quiet 0 (.quiet 1 (.quiet 2 (.quiet 3 (.quiet 4 (.quiet 5 (.quiet 6 (.quiet 7 (.quiet 8 (.quiet 9 (.quiet 10 (.quiet 11 (.quiet 12 (.quiet 13 (.quiet 14 (.quiet 15 (.quiet 16 (.quiet 17 (.eff 18 [] (.quiet 19 .done))))))))))))))))))))
  | 6 => (.quiet 0 (.quiet 1 (.quiet 2 (.quiet 3 (.quiet 4 (.quiet 5 (.quiet 6 (.quiet 7 (.quiet 8 (.quiet 9 (.quiet 10 (.quiet 11 (.quiet 12 (.quiet 13 (.quiet 14 (.quiet 15 (.quiet 16 (.quiet 17 (.quiet 18 (.quiet 19 (.eff 20 [] .done)))))))))))))))))))))
  | _ => .done
def pl34 : Nat → Plan
  | 3 => (.quiet 0 (.quiet 1 (.quiet 2 (.quiet 3 (.quiet 4 (.quiet 5 (.quiet 6 (.quiet 7 (.quiet 8 (.quiet 9 (.quiet 10 (.quiet 11 (.quiet 13 (.quiet 14 (.quiet 15 (.quiet 16 (.fork (.eff 12 [3, 7, 16] (.fork (.eff 17 [3, 7] (.quiet 18 (.eff 19 [3, 7, 11, 16] (.eff 20 [] .done)))) (.eff 19 [3, 7, 11, 16] (.eff 17 [3, 7] (.quiet 18 (.eff 20 [] .done)))))) (.eff 19 [3, 7, 11, 16] (.eff 12 [3, 7, 16] (.eff 17 [3, 7] (.quiet 18 (.eff 20 [] .done))))))))))))))))))))))
  | 13 => (.quiet 0 (.quiet 1 (.quiet 2 (.quiet 3 (.quiet 4 (.quiet 5 (.quiet 6 (.quiet 7 (.eff 8 [1] (.quiet 9 (.eff 10 [1] (.eff 11 [] (.quiet 12 (.eff 13 [] .done))))))))))))))
  | _ => .done
def pl36 : Nat → Plan
  | 3 => (.quiet 0 (.quiet 1 (.quiet 2 (.quiet 3 (.quiet 5 (.quiet 6 (.quiet 7 (.quiet 8 (.eff 4 [8] (.eff 9 [] (.quiet 10 (.eff 11 [] (.quiet 12 .done)))))))))))))
  | _ => .done
def pl37 : Nat → Plan
  | 7 => (.quiet 0 (.quiet 1 (.quiet 2 (.quiet 4 (.quiet 5 (.eff 3 [0] (.quiet 6 (.eff 7 [] .done))))))))
  | _ => .done
def pl38 : Nat → Plan
  | 3 => (.quiet 0 (.quiet 1 (.quiet 2 (.quiet 3 (.quiet 4 (.quiet 5 (.quiet 6 (.quiet 7 (.quiet 8 (.quiet 10 (.quiet 11 (.quiet 12 (.quiet 13 (.eff 9 [3, 7, 13] (.eff 14 [3, 7] (.quiet 15 (.eff 16 [] (.quiet 17 .done))))))))))))))))))
  | _ => .done
def pl40 : Nat → Plan
  | 7 => (.quiet 0 (.quiet 1 (.quiet 2 (.quiet 3 (.quiet 4 (.eff 5 [] (.quiet 6 (.quiet 7 (.quiet 8 (.eff 9 [] (.quiet 10 .done)))))))))))
  | _ => .done
def pl50 : Nat → Plan
  | 1 => (.quiet 0 (.quiet 1 (.quiet 2 (.quiet 3 (.quiet 4 (.quiet 5 (.eff 6 [] (.quiet 7 .done))))))))
  | _ => .done
def pl51 : Nat → Plan
  | 4 => (.quiet 0 (.quiet 2 (.quiet 3 (.eff 1 [2] (.quiet 4 (.quiet 5 .done))))))
  | _ => .done
def pl52 : Nat → Plan
  | 1 => (.quiet 0 (.quiet 1 (.quiet 2 (.quiet 3 (.quiet 4 (.eff 5 [] (.quiet 6 .done)))))))
  | _ => .done
def pl56 : Nat → Plan
  | 1 => (.quiet 0 (.quiet 1 (.quiet 2 (.quiet 3 (.quiet 4 (.quiet 5 (.quiet 6 (.quiet 7 (.quiet 8 (.eff 9 [3] (.eff 10 [] (.quiet 11 .done))))))))))))
  | _ => .done
def pl62 : Nat → Plan
  | 1 => (.quiet 0 (.quiet 1 (.quiet 2 (.quiet 3 (.quiet 4 (.eff 5 [] (.quiet 6 .done)))))))
  | _ => .done
def pl64 : Nat → Plan
  | 1 => (.quiet 0 (.quiet 1 (.quiet 2 (.quiet 3 (.quiet 4 (.eff 5 [0, 3] (.eff 6 [] (.quiet 7 .done))))))))
  | _ => .done
def pl68 : Nat → Plan
  | 5 => (.quiet 0 (.quiet 1 (.quiet 2 (.quiet 3 (.quiet 4 (.eff 5 [3] (.eff 6 [] (.quiet 7 .done))))))))
  | _ => .done
def pl85 : Nat → Plan
  | 1 => (.quiet 0 (.quiet 1 (.quiet 2 (.quiet 3 (.quiet 4 (.eff 5 [3] (.eff 6 [] (.quiet 7 (.eff 8 [] .done)))))))))
  | _ => .done
def pl89 : Nat → Plan
  | 5 => (.quiet 0 (.quiet 1 (.quiet 3 (.quiet 4 (.eff 2 [] (.quiet 5 (.eff 6 [] .done)))))))
  | _ => .done
def pl91 : Nat → Plan
  | 8 => (.quiet 0 (.quiet 1 (.quiet 2 (.quiet 3 (.quiet 4 (.quiet 5 (.quiet 6 .done)))))))
  | _ => .done
def pl94 : Nat → Plan
  | 1 => (.quiet 0 (.quiet 1 (.quiet 3 (.eff 2 [0, 3] (.eff 4 [] (.quiet 5 .done))))))
  | _ => .done
def pl95 : Nat → Plan
  | 4 => (.quiet 0 (.quiet 1 (.quiet 2 (.quiet 3 (.quiet 4 (.quiet 5 (.quiet 6 (.quiet 7 (.quiet 8 (.quiet 9 (.quiet 10 (.quiet 11 .done))))))))))))
  | _ => .done
def pl96 : Nat → Plan
  | 1 => (.quiet 0 (.quiet 1 (.eff 2 [0] (.eff 3 [] (.quiet 4 .done)))))
  | _ => .done
def pl97 : Nat → Plan
  | 1 => (.quiet 0 (.quiet 1 (.eff 2 [0] (.eff 3 [] (.quiet 4 .done)))))
  | _ => .done
def pl109 : Nat → Plan
  | 4 => (.quiet 0 (.quiet 1 (.quiet 2 (.quiet 3 (.quiet 4 (.quiet 5 (.quiet 6 (.quiet 7 (.eff 8 [5] (.quiet 9 (.quiet 10 (.eff 11 [] .done))))))))))))
  | _ => .done
def pl110 : Nat → Plan
  | 6 => (.quiet 0 (.quiet 1 (.quiet 2 (.quiet 3 (.quiet 4 (.quiet 5 (.quiet 6 (.quiet 7 (.quiet 8 .done)))))))))
  | _ => .done
def pl136 : Nat → Plan
  | 4 => (.quiet 0 (.quiet 1 (.quiet 2 (.eff 3 [0] (.eff 4 [] (.quiet 5 .done))))))
  | 7 => (.quiet 0 (.quiet 1 (.quiet 2 (.quiet 3 (.quiet 4 (.quiet 5 (.quiet 6 (.quiet 7 (.quiet 8 (.eff 9 [0, 6] (.quiet 10 (.quiet 11 (.eff 12 [6] (.quiet 13 .done))))))))))))))
  | 10 => (.quiet 0 (.quiet 1 (.quiet 2 (.quiet 3 (.eff 4 [2] (.quiet 5 .done))))))
  | 13 => (.quiet 0 (.quiet 1 (.quiet 2 (.quiet 3 (.quiet 4 (.quiet 5 (.quiet 6 (.quiet 7 (.quiet 8 (.eff 9 [6] (.quiet 10 .done)))))))))))
  | 16 => (.quiet 0 (.quiet 1 (.quiet 2 (.eff 3 [0] (.eff 4 [] (.quiet 5 .done))))))
  | 19 => (.quiet 0 (.quiet 1 (.quiet 2 (.quiet 3 (.eff 4 [0] (.quiet 5 (.quiet 6 (.quiet 7 (.quiet 8 (.eff 9 [0] (.quiet 10 (.quiet 11 (.quiet 12 (.quiet 13 (.quiet 14 (.quiet 15 (.quiet 16 (.quiet 17 (.eff 18 [14] (.quiet 19 .done))))))))))))))))))))
  | 21 => (.quiet 0 (.quiet 1 (.quiet 2 (.eff 3 [0] (.eff 4 [] (.quiet 5 .done))))))
  | _ => .done
def pl137 : Nat → Plan
  | 1 => (.quiet 0 (.quiet 1 (.quiet 2 (.quiet 3 (.quiet 4 (.quiet 5 (.eff 6 [] (.quiet 7 .done))))))))
  | 2 => (.quiet 0 (.quiet 1 (.quiet 2 (.quiet 3 (.quiet 5 (.quiet 6 (.eff 4 [6] (.quiet 7 (.quiet 8 (.quiet 9 .done))))))))))
  | 8 => (.quiet 0 (.quiet 1 (.quiet 2 (.quiet 3 (.quiet 4 (.quiet 5 (.quiet 6 (.quiet 7 (.eff 8 [3, 5] (.eff 9 [] .done))))))))))
  | _ => .done
def pl138 : Nat → Plan
  | 1 => (.quiet 0 (.quiet 1 (.quiet 2 (.quiet 3 (.quiet 4 (.quiet 5 (.eff 6 [] (.quiet 7 .done))))))))
  | 3 => (.quiet 0 (.quiet 1 (.quiet 2 (.quiet 3 (.quiet 4 (.quiet 5 (.eff 6 [] .done)))))))
  | 4 => (.quiet 0 (.quiet 1 (.quiet 2 (.quiet 3 (.quiet 4 (.quiet 5 (.eff 6 [] .done)))))))
  | _ => .done
def pl139 : Nat → Plan
  | 3 => (.quiet 0 (.quiet 1 (.quiet 2 (.quiet 3 (.quiet 4 (.quiet 5 (.eff 6 [] (.quiet 7 (.quiet 8 .done)))))))))
  | 5 => (.quiet 0 (.quiet 1 (.quiet 2 (.quiet 3 (.quiet 4 (.quiet 5 (.eff 6 [] (.quiet 7 (.quiet 8 .done)))))))))
  | 6 => (.quiet 0 (.quiet 1 (.quiet 2 (.quiet 3 (.quiet 4 (.quiet 5 (.eff 6 [] (.quiet 7 (.quiet 8 .done)))))))))
  | _ => .done
def pl140 : Nat → Plan
  | 1 => (.quiet 0 (.quiet 1 (.quiet 2 (.quiet 3 (.quiet 4 (.quiet 5 (.quiet 6 (.eff 7 [] (.quiet 8 .done)))))))))
  | 3 => (.quiet 0 (.quiet 1 (.quiet 2 (.quiet 3 (.quiet 4 (.quiet 5 (.eff 6 [] (.quiet 7 (.quiet 8 .done)))))))))
  | _ => .done
def pl141 : Nat → Plan
  | 3 => (.quiet 0 (.quiet 1 (.quiet 2 (.quiet 3 (.quiet 4 (.quiet 5 (.quiet 6 (.quiet 7 .done))))))))
  | 11 => (.quiet 0 (.quiet 1 (.quiet 2 (.quiet 3 (.quiet 4 (.quiet 5 (.quiet 6 (.quiet 7 (.quiet 8 (.quiet 9 (.quiet 10 (.eff 11 [] (.quiet 12 .done)))))))))))))
  | 14 => (.quiet 0 (.quiet 1 (.quiet 2 (.quiet 3 (.quiet 4 (.quiet 5 (.eff 6 [] .done)))))))
  | 15 => (.quiet 0 (.quiet 1 (.quiet 2 (.quiet 3 (.quiet 4 (.quiet 5 (.quiet 6 (.quiet 7 .done))))))))
  | 20 => (.quiet 0 (.quiet 1 (.quiet 2 (.quiet 3 (.quiet 4 (.quiet 6 (.eff 5 [6] (.eff 7 [] .done))))))))
  | 26 => (.quiet 0 (.quiet 1 (.quiet 2 (.quiet 3 (.quiet 4 (.quiet 5 (.quiet 6 (.quiet 7 (.quiet 8 (.quiet 9 (.quiet 11 (.fork (.eff 10 [0, 3, 11] (.eff 12 [0, 3, 5, 8] (.eff 13 [0, 3] (.eff 14 [] .done)))) (.eff 12 [0, 3, 5, 8] (.eff 10 [0, 3, 11] (.eff 13 [0, 3] (.eff 14 [] .done))))))))))))))))
  | _ => .done
def pl142 : Nat → Plan
  | 1 => (.quiet 0 (.quiet 1 (.quiet 2 (.quiet 3 (.quiet 4 (.quiet 5 (.quiet 6 (.quiet 7 (.quiet 9 (.quiet 10 (.eff 8 [10] (.eff 11 [] (.quiet 12 (.quiet 13 .done))))))))))))))
  | 3 => (.quiet 0 (.quiet 1 (.quiet 2 (.quiet 3 (.quiet 4 (.quiet 5 (.quiet 8 (.quiet 9 (.eff 6 [9] (.quiet 7 (.quiet 10 (.quiet 11 .done))))))))))))
  | 5 => (.quiet 0 (.quiet 1 (.quiet 2 (.quiet 3 (.quiet 4 (.quiet 5 (.quiet 6 (.quiet 7 (.quiet 8 (.quiet 9 (.quiet 10 (.quiet 11 (.quiet 13 (.quiet 14 (.eff 12 [3, 5, 14] (.quiet 15 (.eff 16 [3, 5] (.eff 17 [] .done))))))))))))))))))
  | _ => .done
def pl144 : Nat → Plan
  | 1 => (.quiet 0 (.quiet 1 (.quiet 2 (.quiet 3 (.quiet 4 (.quiet 5 (.eff 6 [] (.quiet 7 .done))))))))
  | _ => .done
def pl153 : Nat → Plan
  | 0 => (.quiet 0 (.quiet 1 (.quiet 2 (.quiet 3 (.quiet 4 (.quiet 5 (.eff 6 [0] (.eff 7 [0] (.quiet 8 (.quiet 9 (.eff 10 [] .done)))))))))))
  | _ => .done
def pl155 : Nat → Plan
  | 0 => (.quiet 0 (.quiet 1 (.quiet 2 (.quiet 3 (.quiet 4 (.quiet 5 (.quiet 6 (.eff 7 [] .done))))))))
  | _ => .done
def pl157 : Nat → Plan
  | 0 => (.quiet 0 (.quiet 1 (.quiet 2 (.quiet 3 (.quiet 4 (.eff 5 [] .done))))))
  | _ => .done
def pl158 : Nat → Plan
  | 0 => (.quiet 0 (.quiet 1 (.quiet 2 (.quiet 3 (.quiet 4 (.quiet 5 (.eff 6 [0, 3, 4] (.eff 7 [] .done))))))))
  | _ => .done
def pl160 : Nat → Plan
  | 0 => (.quiet 0 (.quiet 1 (.quiet 2 (.quiet 3 (.quiet 4 (.eff 5 [] .done))))))
  | 1 => (.quiet 0 (.quiet 1 (.quiet 2 (.quiet 3 (.quiet 4 (.quiet 5 (.eff 6 [] .done)))))))
  | _ => .done
def pl162 : Nat → Plan
  | 0 => (.quiet 0 (.quiet 1 (.quiet 2 (.quiet 3 (.quiet 4 (.eff 5 [0] (.quiet 6 (.quiet 7 (.eff 8 [] .done)))))))))
  | _ => .done
def pl166 : Nat → Plan
  | 7 => (.quiet 0 (.quiet 1 (.quiet 2 (.quiet 3 (.eff 4 [] (.quiet 5 (.quiet 6 (.quiet 7 (.quiet 8 (.quiet 9 (.quiet 10 (.eff 11 [] (.quiet 12 (.quiet 13 (.quiet 14 (.quiet 15 (.quiet 16 (.quiet 17 (.quiet 18 (.quiet 19 (.quiet 20 (.quiet 21 (.quiet 22 (.quiet 23 (.quiet 24 (.quiet 25 (.quiet 26 (.quiet 27 (.quiet 28 (.quiet 29 .done))))))))))))))))))))))))))))))
  | 9 => (.quiet 0 (.quiet 1 (.quiet 2 (.quiet 3 (.quiet 4 (.quiet 5 (.eff 6 [] .done)))))))
  | _ => .done
def pl174 : Nat → Plan
  | 7 => (.quiet 0 (.quiet 1 (.quiet 2 (.quiet 3 .done))))
  | _ => .done
def pl175 : Nat → Plan
  | 0 => (.quiet 0 (.quiet 1 (.quiet 2 (.quiet 3 (.quiet 4 (.quiet 5 (.quiet 6 (.eff 7 [0] (.quiet 8 (.quiet 9 (.eff 10 [] .done)))))))))))
  | _ => .done
def pl181 : Nat → Plan
  | 1 => (.quiet 0 (.quiet 2 (.eff 1 [2] (.eff 3 [] (.quiet 4 (.eff 5 [] .done))))))
  | _ => .done
def pl184 : Nat → Plan
  | 4 => (.quiet 0 (.quiet 1 (.quiet 2 (.quiet 3 (.quiet 4 (.eff 5 [] (.quiet 6 .done)))))))
  | 10 => (.quiet 0 (.quiet 1 (.quiet 2 (.quiet 3 (.quiet 4 (.eff 5 [] (.quiet 6 .done)))))))
  | 20 => (.quiet 0 (.quiet 1 (.quiet 2 (.quiet 3 (.quiet 4 (.quiet 5 (.quiet 6 (.quiet 7 (.quiet 8 (.eff 9 [8] (.quiet 10 (.eff 11 [8] (.quiet 12 .done)))))))))))))
  | 22 => (.quiet 0 (.quiet 1 (.quiet 2 (.quiet 3 (.quiet 4 (.quiet 5 (.quiet 6 (.quiet 7 (.quiet 8 (.quiet 9 (.quiet 10 (.eff 11 [6] (.eff 12 [] (.quiet 13 (.quiet 14 (.quiet 15 (.quiet 16 (.quiet 17 (.quiet 18 (.quiet 19 (.quiet 20 (.eff 21 [16] (.eff 22 [] (.quiet 23 (.quiet 24 .done)))))))))))))))))))))))))
  | _ => .done
def pl185 : Nat → Plan
  | 5 => (.quiet 0 (.quiet 1 (.quiet 2 (.quiet 3 (.quiet 4 (.quiet 5 (.quiet 6 (.quiet 7 (.quiet 8 (.quiet 9 (.quiet 10 (.quiet 11 (.quiet 12 (.quiet 13 (.quiet 14 (.quiet 15 (.quiet 16 (.quiet 17 (.quiet 18 (.eff 19 [] (.quiet 20 (.quiet 21 .done))))))))))))))))))))))
  | 10 => (.quiet 0 (.quiet 1 (.quiet 2 (.quiet 3 (.quiet 4 (.quiet 5 (.quiet 6 (.quiet 7 (.eff 8 [] (.quiet 9 .done))))))))))
  | 18 => (.quiet 0 (.quiet 1 (.quiet 2 (.quiet 3 (.quiet 4 (.quiet 5 (.quiet 6 (.quiet 7 (.quiet 9 (.quiet 10 (.eff 8 [3, 5, 10] (.eff 11 [10] (.quiet 12 (.eff 13 [10] (.quiet 14 .done)))))))))))))))
  | _ => .done
def pl189 : Nat → Plan
  | 1 => (.quiet 0 (.quiet 1 (.quiet 2 (.quiet 3 (.quiet 4 (.quiet 5 (.quiet 6 (.quiet 7 (.quiet 8 (.quiet 9 (.quiet 10 .done)))))))))))
  | _ => .done
def pl190 : Nat → Plan
  | 1 => (.quiet 0 (.quiet 1 (.quiet 2 (.quiet 3 (.quiet 4 (.quiet 5 (.quiet 6 (.quiet 7 (.quiet 8 (.quiet 9 .done))))))))))
  | _ => .done
def pl201 : Nat → Plan
  | 1 => (.quiet 0 (.quiet 1 (.quiet 2 (.quiet 3 (.quiet 5 (.quiet 6 (.quiet 7 (.quiet 8 (.quiet 10 (.quiet 11 (.quiet 12 (.quiet 13 (.eff 4 [6, 8, 11, 13] (.eff 9 [11, 13] (.eff 14 [] (.eff 15 [] (.eff 16 [] (.quiet 17 .done))))))))))))))))))
  | _ => .done
def pl218 : Nat → Plan
  | 5 => (.quiet 0 (.quiet 1 (.quiet 2 (.quiet 3 (.quiet 4 (.quiet 5 (.fork (.eff 6 [] (.quiet 7 (.quiet 8 (.quiet 9 (.eff 10 [3, 5] (.eff 11 [] (.quiet 12 .done))))))) (.eff 10 [3, 5] (.eff 6 [] (.quiet 7 (.quiet 8 (.quiet 9 (.eff 11 [] (.quiet 12 .done))))))))))))))
  | 12 => (.quiet 0 (.quiet 1 (.quiet 2 (.quiet 3 (.quiet 4 (.quiet 5 (.quiet 6 (.eff 7 [] .done))))))))
  | _ => .done
def pl219 : Nat → Plan
  | 3 => (.quiet 0 (.quiet 1 (.quiet 2 (.quiet 3 (.quiet 4 (.fork (.eff 5 [] (.quiet 6 (.quiet 7 (.quiet 8 (.eff 9 [3, 4] (.eff 10 [] (.quiet 11 .done))))))) (.eff 9 [3, 4] (.eff 5 [] (.quiet 6 (.quiet 7 (.quiet 8 (.eff 10 [] (.quiet 11 .done)))))))))))))
  | 6 => (.quiet 0 (.quiet 1 (.quiet 2 (.quiet 3 (.quiet 4 (.eff 5 [] .done))))))
  | _ => .done
def pl221 : Nat → Plan
  | 3 => (.quiet 0 (.quiet 1 (.quiet 2 (.quiet 3 (.quiet 4 (.quiet 5 (.fork (.eff 6 [] (.quiet 7 (.quiet 8 (.quiet 9 (.eff 10 [3, 5] (.eff 11 [] (.quiet 12 .done))))))) (.eff 10 [3, 5] (.eff 6 [] (.quiet 7 (.quiet 8 (.quiet 9 (.eff 11 [] (.quiet 12 .done))))))))))))))
  | 4 => (.quiet 0 (.quiet 1 (.quiet 2 (.quiet 3 (.quiet 4 (.fork (.eff 5 [] (.quiet 6 (.quiet 7 (.quiet 8 (.eff 9 [3, 4] (.eff 10 [] (.quiet 11 .done))))))) (.eff 9 [3, 4] (.eff 5 [] (.quiet 6 (.quiet 7 (.quiet 8 (.eff 10 [] (.quiet 11 .done)))))))))))))
  | 13 => (.quiet 0 (.quiet 1 (.quiet 2 (.quiet 3 (.quiet 4 (.quiet 5 (.eff 6 [] .done)))))))
  | _ => .done
def pl222 : Nat → Plan
  | 1 => (.quiet 0 (.quiet 1 (.quiet 2 (.quiet 3 (.quiet 4 (.quiet 5 (.eff 6 [] .done)))))))
  | 3 => (.quiet 0 (.quiet 1 (.quiet 2 (.quiet 3 (.quiet 4 (.quiet 5 (.quiet 6 (.quiet 7 (.quiet 8 (.quiet 9 (.quiet 10 (.eff 11 [] (.quiet 12 .done)))))))))))))
  | _ => .done
def pl223 : Nat → Plan
  | 1 => (.quiet 0 (.quiet 1 (.quiet 2 (.quiet 3 (.quiet 4 (.quiet 5 (.fork (.eff 6 [] (.quiet 7 (.quiet 8 (.quiet 9 (.eff 10 [3, 5] (.eff 11 [] (.quiet 12 .done))))))) (.eff 10 [3, 5] (.eff 6 [] (.quiet 7 (.quiet 8 (.quiet 9 (.eff 11 [] (.quiet 12 .done))))))))))))))
  | 4 => (.quiet 0 (.quiet 1 (.quiet 2 (.quiet 3 (.quiet 4 (.quiet 5 (.quiet 6 (.quiet 7 (.quiet 8 (.quiet 9 .done))))))))))
  | _ => .done
def pl224 : Nat → Plan
  | 1 => (.quiet 0 (.quiet 1 (.quiet 2 (.quiet 3 (.quiet 4 (.quiet 5 (.quiet 6 (.quiet 7 (.quiet 9 (.eff 8 [] (.eff 10 [] (.quiet 11 .done))))))))))))
  | _ => .done
def pl228 : Nat → Plan
  | 1 => (.quiet 0 (.quiet 1 (.quiet 2 (.quiet 4 (.quiet 5 (.eff 3 [5] (.eff 6 [] (.quiet 7 .done))))))))
  | _ => .done
def pl229 : Nat → Plan
  | 7 => (.quiet 0 (.quiet 1 (.quiet 2 (.quiet 3 (.quiet 4 (.quiet 5 (.quiet 6 (.quiet 7 (.quiet 8 (.quiet 9 (.quiet 10 (.eff 11 [4] (.eff 12 [] (.quiet 13 (.quiet 14 (.eff 15 [] .done))))))))))))))))
  | _ => .done
def pl234 : Nat → Plan
  | 5 => (.quiet 0 (.quiet 1 (.quiet 2 (.quiet 3 (.quiet 4 (.quiet 6 (.quiet 7 (.fork (.eff 5 [0, 7] (.eff 8 [0, 1, 4] (.eff 9 [0] (.quiet 10 (.quiet 11 (.eff 12 [] .done)))))) (.eff 8 [0, 1, 4] (.eff 5 [0, 7] (.eff 9 [0] (.quiet 10 (.quiet 11 (.eff 12 [] .done))))))))))))))
  | _ => .done
def pl235 : Nat → Plan
  | 5 => (.quiet 0 (.quiet 1 (.quiet 2 (.quiet 3 (.quiet 4 (.quiet 5 (.quiet 6 (.eff 7 [] .done))))))))
  | _ => .done
def pl243 : Nat → Plan
  | 17 => (.quiet 0 (.quiet 1 (.quiet 2 (.quiet 3 (.quiet 4 (.quiet 5 (.quiet 6 (.quiet 7 (.quiet 8 (.quiet 9 (.quiet 10 (.quiet 11 (.eff 12 [] (.quiet 13 (.quiet 14 .done)))))))))))))))
  | _ => .done
def pl246 : Nat → Plan
  | 4 => (.quiet 0 (.quiet 1 (.quiet 2 (.quiet 3 (.eff 4 [0, 1] (.quiet 5 (.quiet 6 (.eff 7 [1] (.quiet 8 (.quiet 9 (.eff 10 [] .done)))))))))))
  | 8 => (.quiet 0 (.quiet 1 (.quiet 2 (.quiet 3 (.quiet 4 (.quiet 5 (.quiet 6 (.eff 7 [] .done))))))))
  | _ => .done
def pl252 : Nat → Plan
  | 1 => (.quiet 0 (.quiet 1 (.quiet 2 (.quiet 3 (.quiet 4 (.quiet 5 (.quiet 6 (.quiet 7 (.quiet 8 (.quiet 9 (.quiet 10 (.quiet 11 (.quiet 12 (.quiet 13 (.quiet 14 (.quiet 15 (.quiet 16 (.quiet 17 (.quiet 18 .done)))))))))))))))))))
  | 5 => (.quiet 0 (.quiet 1 (.quiet 2 (.quiet 3 (.quiet 4 (.quiet 5 (.quiet 6 (.quiet 7 (.quiet 8 (.quiet 9 (.quiet 10 (.quiet 11 (.quiet 12 (.quiet 13 (.quiet 14 (.quiet 15 .done))))))))))))))))
  | _ => .done
def pl266 : Nat → Plan
  | 17 => (.quiet 0 (.quiet 1 (.quiet 2 (.quiet 3 (.quiet 4 (.quiet 5 (.quiet 6 (.quiet 7 (.quiet 8 (.quiet 9 (.quiet 10 (.quiet 11 (.eff 12 [] (.quiet 13 (.quiet 14 .done)))))))))))))))
  | _ => .done
def pl277 : Nat → Plan
  | 1 => (.quiet 0 (.quiet 1 (.quiet 2 (.quiet 4 (.quiet 5 (.eff 3 [5] (.eff 6 [] (.quiet 7 .done))))))))
  | _ => .done
def pl284 : Nat → Plan
  | 3 => (.quiet 0 (.quiet 1 (.quiet 2 (.quiet 3 (.quiet 4 (.quiet 5 (.quiet 6 (.quiet 7 (.quiet 8 (.quiet 9 (.quiet 10 (.quiet 11 (.quiet 12 (.quiet 13 (.eff 14 [3, 7] (.quiet 15 (.quiet 16 .done)))))))))))))))))
  | _ => .done
def pl293 : Nat → Plan
  | 1 => (.quiet 0 (.quiet 1 (.quiet 2 (.quiet 3 (.quiet 4 (.quiet 5 (.quiet 6 (.quiet 7 (.quiet 8 (.quiet 9 (.quiet 10 .done)))))))))))
  | _ => .done
def pl294 : Nat → Plan
  | 11 => (.quiet 0 (.quiet 1 (.quiet 2 (.quiet 3 (.quiet 4 (.quiet 5 (.quiet 6 (.quiet 7 (.eff 8 [] .done)))))))))
  | 15 => (.quiet 0 (.quiet 1 (.quiet 2 (.quiet 3 (.quiet 4 (.quiet 5 (.quiet 6 (.quiet 7 (.eff 8 [] .done)))))))))
  | _ => .done
def pl299 : Nat → Plan
  | 1 => (.quiet 0 (.quiet 1 (.quiet 3 (.eff 2 [3] (.quiet 4 (.eff 5 [] (.quiet 6 .done)))))))
  | _ => .done
def pl300 : Nat → Plan
  | 1 => (.quiet 0 (.quiet 1 (.quiet 3 (.eff 2 [3] (.quiet 4 (.eff 5 [] (.quiet 6 .done)))))))
  | _ => .done
def pl303 : Nat → Plan
  | 4 => (.quiet 0 (.quiet 1 (.quiet 2 (.quiet 3 (.quiet 4 (.quiet 5 (.quiet 6 (.quiet 7 (.quiet 8 (.quiet 9 (.quiet 10 (.quiet 11 (.quiet 12 (.eff 13 [] (.quiet 14 .done)))))))))))))))
  | 6 => (.quiet 0 (.quiet 1 (.quiet 2 (.quiet 3 (.quiet 4 (.quiet 5 (.quiet 6 (.quiet 7 (.quiet 8 (.quiet 9 (.quiet 10 (.quiet 11 (.quiet 12 (.quiet 13 (.quiet 14 (.eff 15 [] (.quiet 16 (.eff 17 [] .done))))))))))))))))))
  | _ => .done
def pl304 : Nat → Plan
  | 10 => (.quiet 0 (.quiet 1 (.quiet 2 (.quiet 3 (.quiet 4 (.quiet 5 (.quiet 6 (.quiet 7 (.quiet 8 (.quiet 9 (.quiet 10 (.quiet 11 (.quiet 12 (.quiet 13 (.quiet 14 (.quiet 15 (.quiet 16 (.eff 17 [] (.quiet 18 (.eff 19 [] .done))))))))))))))))))))
  | _ => .done
def pl305 : Nat → Plan
  | 10 => (.quiet 0 (.quiet 1 (.quiet 2 (.quiet 3 (.quiet 4 (.quiet 5 (.quiet 6 (.quiet 7 (.quiet 8 (.quiet 9 (.quiet 10 (.quiet 11 (.quiet 12 (.quiet 13 (.quiet 14 (.quiet 15 (.quiet 16 (.eff 17 [] (.quiet 18 (.eff 19 [] .done))))))))))))))))))))
  | _ => .done
def pl307 : Nat → Plan
  | 3 => (.quiet 0 (.quiet 1 (.quiet 2 (.quiet 3 (.quiet 4 (.quiet 5 (.quiet 6 (.quiet 7 (.quiet 8 (.quiet 9 (.quiet 10 (.quiet 11 (.quiet 12 (.eff 13 [] (.quiet 14 (.eff 15 [] .done))))))))))))))))
  | _ => .done
def pl308 : Nat → Plan
  | 5 => (.quiet 0 (.quiet 1 (.quiet 2 (.quiet 3 (.quiet 4 (.quiet 5 (.quiet 6 (.quiet 7 (.quiet 8 (.quiet 9 (.quiet 10 (.quiet 11 (.quiet 12 (.eff 13 [] (.quiet 14 (.quiet 15 .done))))))))))))))))
  | 11 => (.quiet 0 (.quiet 1 (.quiet 2 (.quiet 3 (.quiet 4 (.quiet 5 (.quiet 6 (.quiet 7 (.quiet 8 (.quiet 9 (.quiet 10 (.quiet 11 (.quiet 12 (.quiet 13 (.quiet 14 (.eff 15 [] (.quiet 16 (.eff 17 [] .done))))))))))))))))))
  | 16 => (.quiet 0 (.quiet 1 (.quiet 2 (.quiet 3 (.quiet 4 (.quiet 5 (.quiet 6 (.quiet 7 (.quiet 8 (.eff 9 [] (.quiet 10 .done)))))))))))
  | 17 => (.quiet 0 (.quiet 1 (.quiet 2 (.quiet 3 (.quiet 4 (.quiet 5 (.quiet 6 (.quiet 7 (.quiet 8 (.quiet 9 (.quiet 10 (.quiet 11 (.quiet 12 (.quiet 13 (.quiet 14 (.eff 15 [] (.quiet 16 (.eff 17 [] .done))))))))))))))))))
  | 22 => (.quiet 0 (.quiet 1 (.quiet 2 (.quiet 3 (.quiet 4 (.quiet 5 (.quiet 6 (.quiet 7 (.quiet 8 (.eff 9 [] (.quiet 10 .done)))))))))))
  | 23 => (.quiet 0 (.quiet 1 (.quiet 2 (.quiet 3 (.quiet 4 (.quiet 5 (.quiet 6 (.quiet 7 (.quiet 8 (.quiet 9 (.quiet 10 (.quiet 11 (.quiet 12 (.quiet 13 (.quiet 14 (.eff 15 [] (.quiet 16 (.eff 17 [] .done))))))))))))))))))
  | _ => .done
def pl310 : Nat → Plan
  | 1 => (.quiet 0 (.quiet 1 (.quiet 2 (.quiet 3 (.quiet 4 (.quiet 5 (.quiet 6 (.quiet 7 (.quiet 8 (.quiet 9 (.quiet 10 (.quiet 11 (.quiet 12 (.eff 13 [] (.quiet 14 (.eff 15 [] .done))))))))))))))))
  | 3 => (.quiet 0 (.quiet 1 (.quiet 2 (.quiet 3 (.quiet 4 (.quiet 5 (.quiet 6 (.quiet 7 (.quiet 8 (.quiet 9 (.quiet 10 (.quiet 11 (.eff 12 [] (.quiet 13 (.quiet 14 .done)))))))))))))))
  | 5 => (.quiet 0 (.quiet 1 (.quiet 2 (.quiet 3 (.quiet 4 (.quiet 5 (.quiet 6 (.quiet 7 (.quiet 8 (.quiet 9 (.quiet 10 (.quiet 11 (.eff 12 [] (.quiet 13 .done))))))))))))))
  | 8 => (.quiet 0 (.quiet 1 (.quiet 2 (.quiet 3 (.quiet 4 (.quiet 5 (.quiet 6 (.quiet 7 (.quiet 8 (.quiet 9 (.quiet 10 (.quiet 11 (.quiet 12 (.eff 13 [] (.quiet 14 (.eff 15 [] .done))))))))))))))))
  | _ => .done
def pl311 : Nat → Plan
  | 1 => (.quiet 0 (.quiet 1 (.quiet 2 (.quiet 3 (.quiet 4 (.quiet 5 (.quiet 6 (.quiet 7 (.quiet 8 (.quiet 9 (.quiet 10 (.quiet 11 (.quiet 12 (.eff 13 [] (.quiet 14 (.eff 15 [] .done))))))))))))))))
  | 3 => (.quiet 0 (.quiet 1 (.quiet 2 (.quiet 3 (.quiet 4 (.quiet 5 (.quiet 6 (.quiet 7 (.quiet 8 (.quiet 9 (.quiet 10 (.quiet 11 (.eff 12 [] (.quiet 13 .done))))))))))))))
  | 5 => (.quiet 0 (.quiet 1 (.quiet 2 (.quiet 3 (.quiet 4 (.quiet 5 (.quiet 6 (.quiet 7 (.quiet 8 (.quiet 9 (.quiet 10 (.quiet 11 (.eff 12 [] (.quiet 13 (.quiet 14 .done)))))))))))))))
  | 8 => (.quiet 0 (.quiet 1 (.quiet 2 (.quiet 3 (.quiet 4 (.quiet 5 (.quiet 6 (.quiet 7 (.quiet 8 (.quiet 9 (.quiet 10 (.quiet 11 (.quiet 12 (.eff 13 [] (.quiet 14 (.eff 15 [] .done))))))))))))))))
  | 10 => (.quiet 0 (.quiet 1 (.quiet 2 (.quiet 3 (.quiet 4 (.quiet 5 (.quiet 6 (.quiet 7 (.quiet 8 (.quiet 9 (.quiet 10 (.quiet 11 (.quiet 12 (.eff 13 [] (.quiet 14 (.eff 15 [] .done))))))))))))))))
  | 13 => (.quiet 0 (.quiet 1 (.quiet 2 (.quiet 3 (.quiet 4 (.quiet 5 (.quiet 6 (.quiet 7 (.quiet 8 (.quiet 9 (.quiet 10 (.quiet 11 (.eff 12 [] (.quiet 13 .done))))))))))))))
  | 15 => (.quiet 0 (.quiet 1 (.quiet 2 (.quiet 3 (.quiet 4 (.quiet 5 (.quiet 6 (.quiet 7 (.quiet 8 (.quiet 9 (.quiet 10 (.quiet 11 (.eff 12 [] (.quiet 13 (.quiet 14 .done)))))))))))))))
  | 18 => (.quiet 0 (.quiet 1 (.quiet 2 (.quiet 3 (.quiet 4 (.quiet 5 (.quiet 6 (.quiet 7 (.quiet 8 (.quiet 9 (.quiet 10 (.quiet 11 (.quiet 12 (.eff 13 [] (.quiet 14 (.eff 15 [] .done))))))))))))))))
  | 21 => (.quiet 0 (.quiet 1 (.quiet 2 (.quiet 3 (.quiet 4 (.quiet 5 (.quiet 6 (.quiet 7 (.quiet 8 (.quiet 9 (.quiet 10 (.quiet 11 (.quiet 12 (.eff 13 [] (.quiet 14 (.eff 15 [] .done))))))))))))))))
  | _ => .done
def pl315 : Nat → Plan
  | 1 => (.quiet 0 (.quiet 1 (.quiet 2 (.quiet 3 (.quiet 4 (.quiet 5 (.fork (.eff 6 [] (.quiet 7 (.quiet 8 (.quiet 9 (.eff 10 [0, 3, 5] (.eff 11 [] (.quiet 12 .done))))))) (.eff 10 [0, 3, 5] (.eff 6 [] (.quiet 7 (.quiet 8 (.quiet 9 (.eff 11 [] (.quiet 12 .done))))))))))))))
  | _ => .done
def pl317 : Nat → Plan
  | 6 => (.quiet 0 (.quiet 1 (.quiet 2 (.quiet 3 (.quiet 4 (.quiet 5 (.quiet 6 (.quiet 7 (.eff 8 [] .done)))))))))
  | _ => .done
def pl318 : Nat → Plan
  | 6 => (.quiet 0 (.quiet 1 (.quiet 2 (.quiet 3 (.quiet 4 (.quiet 5 (.quiet 6 (.quiet 7 (.eff 8 [] .done)))))))))
  | _ => .done
def pl322 : Nat → Plan
  | 17 => (.quiet 0 (.quiet 1 (.quiet 2 (.quiet 3 (.quiet 4 (.quiet 5 (.quiet 6 (.quiet 7 (.quiet 8 (.quiet 9 (.quiet 10 (.quiet 11 (.eff 12 [] (.quiet 13 (.quiet 14 .done)))))))))))))))
  | _ => .done
def pl324 : Nat → Plan
  | 17 => (.quiet 0 (.quiet 1 (.quiet 2 (.quiet 3 (.quiet 4 (.quiet 5 (.quiet 6 (.quiet 7 (.quiet 8 (.quiet 9 (.quiet 10 (.quiet 11 (.quiet 12 (.eff 13 [] (.quiet 14 (.quiet 15 (.quiet 16 .done)))))))))))))))))
  | _ => .done
def pl326 : Nat → Plan
  | 17 => (.quiet 0 (.quiet 1 (.quiet 2 (.quiet 3 (.quiet 4 (.quiet 5 (.quiet 6 (.quiet 7 (.quiet 8 (.quiet 9 (.quiet 10 (.quiet 11 (.quiet 12 (.eff 13 [] (.quiet 14 (.quiet 15 (.quiet 16 .done)))))))))))))))))
  | _ => .done
def pl327 : Nat → Plan
  | 4 => (.quiet 0 (.quiet 1 (.quiet 2 (.quiet 3 (.quiet 4 (.quiet 5 (.quiet 6 (.quiet 7 (.quiet 8 (.quiet 9 (.quiet 10 (.quiet 11 (.quiet 12 (.eff 13 [] (.quiet 14 .done)))))))))))))))
  | 6 => (.quiet 0 (.quiet 1 (.quiet 2 (.quiet 3 (.quiet 4 (.quiet 5 (.quiet 6 (.quiet 7 (.quiet 8 (.quiet 9 (.quiet 10 (.quiet 11 (.quiet 12 (.quiet 13 (.quiet 14 (.eff 15 [] (.quiet 16 (.eff 17 [] .done))))))))))))))))))
  | _ => .done
def pl328 : Nat → Plan
  | 10 => (.quiet 0 (.quiet 1 (.quiet 2 (.quiet 3 (.quiet 4 (.quiet 5 (.quiet 6 (.quiet 7 (.quiet 8 (.quiet 9 (.quiet 10 (.quiet 11 (.quiet 12 (.quiet 13 (.quiet 14 (.quiet 15 (.quiet 16 (.eff 17 [] (.quiet 18 (.eff 19 [] .done))))))))))))))))))))
  | _ => .done
def pl329 : Nat → Plan
  | 10 => (.quiet 0 (.quiet 1 (.quiet 2 (.quiet 3 (.quiet 4 (.quiet 5 (.quiet 6 (.quiet 7 (.quiet 8 (.quiet 9 (.quiet 10 (.quiet 11 (.quiet 12 (.quiet 13 (.quiet 14 (.quiet 15 (.quiet 16 (.eff 17 [] (.quiet 18 (.eff 19 [] .done))))))))))))))))))))
  | _ => .done
def pl331 : Nat → Plan
  | 3 => (.quiet 0 (.quiet 1 (.quiet 2 (.quiet 3 (.quiet 4 (.quiet 5 (.quiet 6 (.quiet 7 (.quiet 8 (.quiet 9 (.quiet 10 (.quiet 11 (.quiet 12 (.eff 13 [] (.quiet 14 (.eff 15 [] .done))))))))))))))))
  | _ => .done
def pl332 : Nat → Plan
  | 5 => (.quiet 0 (.quiet 1 (.quiet 2 (.quiet 3 (.quiet 4 (.quiet 5 (.quiet 6 (.quiet 7 (.quiet 8 (.quiet 9 (.quiet 10 (.quiet 11 (.quiet 12 (.eff 13 [] (.quiet 14 (.quiet 15 .done))))))))))))))))
  | 11 => (.quiet 0 (.quiet 1 (.quiet 2 (.quiet 3 (.quiet 4 (.quiet 5 (.quiet 6 (.quiet 7 (.quiet 8 (.quiet 9 (.quiet 10 (.quiet 11 (.quiet 12 (.quiet 13 (.quiet 14 (.eff 15 [] (.quiet 16 (.eff 17 [] .done))))))))))))))))))
  | 16 => (.quiet 0 (.quiet 1 (.quiet 2 (.quiet 3 (.quiet 4 (.quiet 5 (.quiet 6 (.quiet 7 (.quiet 8 (.eff 9 [] (.quiet 10 .done)))))))))))
  | 17 => (.quiet 0 (.quiet 1 (.quiet 2 (.quiet 3 (.quiet 4 (.quiet 5 (.quiet 6 (.quiet 7 (.quiet 8 (.quiet 9 (.quiet 10 (.quiet 11 (.quiet 12 (.quiet 13 (.quiet 14 (.eff 15 [] (.quiet 16 (.eff 17 [] .done))))))))))))))))))
  | 22 => (.quiet 0 (.quiet 1 (.quiet 2 (.quiet 3 (.quiet 4 (.quiet 5 (.quiet 6 (.quiet 7 (.quiet 8 (.eff 9 [] (.quiet 10 .done)))))))))))
  | 23 => (.quiet 0 (.quiet 1 (.quiet 2 (.quiet 3 (.quiet 4 (.quiet 5 (.quiet 6 (.quiet 7 (.quiet 8 (.quiet 9 (.quiet 10 (.quiet 11 (.quiet 12 (.quiet 13 (.quiet 14 (.eff 15 [] (.quiet 16 (.eff 17 [] .done))))))))))))))))))
  | _ => .done
def pl334 : Nat → Plan
  | 1 => (.quiet 0 (.quiet 1 (.quiet 2 (.quiet 3 (.quiet 4 (.quiet 5 (.quiet 6 (.quiet 7 (.quiet 8 (.quiet 9 (.quiet 10 (.quiet 11 (.quiet 12 (.eff 13 [] (.quiet 14 (.eff 15 [] .done))))))))))))))))
  | 3 => (.quiet 0 (.quiet 1 (.quiet 2 (.quiet 3 (.quiet 4 (.quiet 5 (.quiet 6 (.quiet 7 (.quiet 8 (.quiet 9 (.quiet 10 (.quiet 11 (.eff 12 [] (.quiet 13 (.quiet 14 .done)))))))))))))))
  | 5 => (.quiet 0 (.quiet 1 (.quiet 2 (.quiet 3 (.quiet 4 (.quiet 5 (.quiet 6 (.quiet 7 (.quiet 8 (.quiet 9 (.quiet 10 (.quiet 11 (.eff 12 [] (.quiet 13 .done))))))))))))))
  | 8 => (.quiet 0 (.quiet 1 (.quiet 2 (.quiet 3 (.quiet 4 (.quiet 5 (.quiet 6 (.quiet 7 (.quiet 8 (.quiet 9 (.quiet 10 (.quiet 11 (.quiet 12 (.eff 13 [] (.quiet 14 (.eff 15 [] .done))))))))))))))))
  | _ => .done
def pl335 : Nat → Plan
  | 1 => (.quiet 0 (.quiet 1 (.quiet 2 (.quiet 3 (.quiet 4 (.quiet 5 (.quiet 6 (.quiet 7 (.quiet 8 (.quiet 9 (.quiet 10 (.quiet 11 (.quiet 12 (.eff 13 [] (.quiet 14 (.eff 15 [] .done))))))))))))))))
  | 3 => (.quiet 0 (.quiet 1 (.quiet 2 (.quiet 3 (.quiet 4 (.quiet 5 (.quiet 6 (.quiet 7 (.quiet 8 (.quiet 9 (.quiet 10 (.quiet 11 (.eff 12 [] (.quiet 13 .done))))))))))))))
  | 5 => (.quiet 0 (.quiet 1 (.quiet 2 (.quiet 3 (.quiet 4 (.quiet 5 (.quiet 6 (.quiet 7 (.quiet 8 (.quiet 9 (.quiet 10 (.quiet 11 (.eff 12 [] (.quiet 13 (.quiet 14 .done)))))))))))))))
  | 8 => (.quiet 0 (.quiet 1 (.quiet 2 (.quiet 3 (.quiet 4 (.quiet 5 (.quiet 6 (.quiet 7 (.quiet 8 (.quiet 9 (.quiet 10 (.quiet 11 (.quiet 12 (.eff 13 [] (.quiet 14 (.eff 15 [] .done))))))))))))))))
  | 10 => (.quiet 0 (.quiet 1 (.quiet 2 (.quiet 3 (.quiet 4 (.quiet 5 (.quiet 6 (.quiet 7 (.quiet 8 (.quiet 9 (.quiet 10 (.quiet 11 (.quiet 12 (.eff 13 [] (.quiet 14 (.eff 15 [] .done))))))))))))))))
  | 13 => (.quiet 0 (.quiet 1 (.quiet 2 (.quiet 3 (.quiet 4 (.quiet 5 (.quiet 6 (.quiet 7 (.quiet 8 (.quiet 9 (.quiet 10 (.quiet 11 (.eff 12 [] (.quiet 13 .done))))))))))))))
  | 15 => (.quiet 0 (.quiet 1 (.quiet 2 (.quiet 3 (.quiet 4 (.quiet 5 (.quiet 6 (.quiet 7 (.quiet 8 (.quiet 9 (.quiet 10 (.quiet 11 (.eff 12 [] (.quiet 13 (.quiet 14 .done)))))))))))))))
  | 18 => (.quiet 0 (.quiet 1 (.quiet 2 (.quiet 3 (.quiet 4 (.quiet 5 (.quiet 6 (.quiet 7 (.quiet 8 (.quiet 9 (.quiet 10 (.quiet 11 (.quiet 12 (.eff 13 [] (.quiet 14 (.eff 15 [] .done))))))))))))))))
  | 21 => (.quiet 0 (.quiet 1 (.quiet 2 (.quiet 3 (.quiet 4 (.quiet 5 (.quiet 6 (.quiet 7 (.quiet 8 (.quiet 9 (.quiet 10 (.quiet 11 (.quiet 12 (.eff 13 [] (.quiet 14 (.eff 15 [] .done))))))))))))))))
  | _ => .done
def pl347 : Nat → Plan
  | 3 => (.quiet 0 (.quiet 1 (.quiet 2 (.quiet 3 (.quiet 4 (.quiet 5 (.quiet 6 (.quiet 7 (.quiet 8 (.quiet 9 (.quiet 10 (.quiet 11 (.quiet 12 (.quiet 13 (.quiet 14 (.quiet 15 (.quiet 16 .done)))))))))))))))))
  | 6 => (.quiet 0 (.quiet 1 (.quiet 2 (.quiet 3 (.quiet 4 (.quiet 5 (.quiet 6 (.quiet 7 (.quiet 8 (.quiet 9 (.quiet 10 (.quiet 11 (.quiet 12 (.quiet 13 (.quiet 14 (.quiet 15 (.quiet 16 (.quiet 17 (.quiet 18 (.quiet 19 (.quiet 20 .done)))))))))))))))))))))
  | 10 => (.quiet 0 (.quiet 1 (.quiet 2 (.quiet 3 (.quiet 4 (.quiet 5 (.quiet 6 (.quiet 7 (.quiet 8 (.quiet 11 (.eff 9 [4] (.eff 10 [] (.eff 12 [] (.quiet 13 (.quiet 14 (.eff 15 [] .done))))))))))))))))
  | _ => .done
def pl352 : Nat → Plan
  | 7 => (.quiet 0 (.quiet 1 (.quiet 2 (.quiet 3 (.quiet 4 (.quiet 5 (.quiet 6 (.quiet 7 (.quiet 8 (.quiet 9 (.quiet 10 (.quiet 11 (.eff 12 [] (.quiet 13 (.eff 14 [] .done)))))))))))))))
  | 8 => (.quiet 0 (.quiet 1 (.quiet 2 (.quiet 3 (.quiet 4 (.quiet 5 (.quiet 6 (.quiet 7 (.quiet 8 (.quiet 9 (.quiet 10 (.quiet 11 (.eff 12 [] (.quiet 13 (.eff 14 [] .done)))))))))))))))
  | 9 => (.quiet 0 (.quiet 1 (.quiet 2 (.quiet 3 (.quiet 4 (.quiet 5 (.quiet 6 (.quiet 7 (.quiet 8 (.quiet 9 (.quiet 10 (.quiet 11 (.eff 12 [] (.quiet 13 (.eff 14 [] .done)))))))))))))))
  | 10 => (.quiet 0 (.quiet 1 (.quiet 2 (.quiet 3 (.quiet 4 (.quiet 5 (.quiet 6 (.quiet 7 (.quiet 8 (.quiet 9 (.quiet 10 (.quiet 11 (.eff 12 [] (.quiet 13 (.eff 14 [] .done)))))))))))))))
  | 17 => (.quiet 0 (.quiet 1 (.quiet 2 (.quiet 3 (.quiet 4 (.quiet 5 (.quiet 6 (.quiet 7 (.quiet 8 (.quiet 9 (.quiet 10 (.quiet 11 (.eff 12 [] (.quiet 13 (.eff 14 [] .done)))))))))))))))
  | 18 => (.quiet 0 (.quiet 1 (.quiet 2 (.quiet 3 (.quiet 4 (.quiet 5 (.quiet 6 (.quiet 7 (.quiet 8 (.quiet 9 (.quiet 10 (.quiet 11 (.eff 12 [] (.quiet 13 (.eff 14 [] .done)))))))))))))))
  | 23 => (.quiet 0 (.quiet 1 (.quiet 2 (.quiet 3 (.quiet 4 (.quiet 5 (.quiet 6 (.quiet 7 (.quiet 8 (.quiet 9 (.quiet 10 (.quiet 11 (.eff 12 [] (.quiet 13 (.eff 14 [] .done)))))))))))))))
  | _ => .done
def pl357 : Nat → Plan
  | 3 => (.quiet 0 (.quiet 1 (.quiet 2 (.quiet 3 (.quiet 4 (.quiet 5 (.quiet 6 (.quiet 7 (.quiet 8 (.quiet 9 (.quiet 10 (.quiet 11 (.quiet 12 (.quiet 13 (.quiet 14 (.quiet 15 (.quiet 16 (.quiet 17 (.eff 18 [] (.quiet 19 .done))))))))))))))))))))
  | 5 => (.quiet 0 (.quiet 1 (.quiet 2 (.quiet 3 (.quiet 4 (.quiet 5 (.quiet 6 (.quiet 7 (.quiet 8 (.quiet 9 (.quiet 10 (.quiet 11 (.eff 12 [] (.quiet 13 .done))))))))))))))
  | 6 => (.quiet 0 (.quiet 1 (.quiet 2 (.quiet 3 (.quiet 4 (.quiet 5 (.quiet 6 (.quiet 7 (.quiet 8 (.quiet 9 (.quiet 10 (.quiet 11 (.quiet 12 (.quiet 13 (.quiet 14 (.quiet 15 (.quiet 16 (.quiet 17 (.quiet 18 (.quiet 19 (.quiet 20 (.eff 21 [] (.quiet 22 (.eff 23 [] .done))))))))))))))))))))))))
  | _ => .done
def pl359 : Nat → Plan
  | 1 => (.quiet 0 (.quiet 1 (.quiet 2 (.quiet 3 (.quiet 4 (.quiet 5 (.quiet 6 (.quiet 7 (.quiet 8 (.eff 9 [] .done))))))))))
  | 2 => (.quiet 0 (.quiet 1 (.quiet 2 (.quiet 3 (.quiet 4 (.quiet 5 (.quiet 6 (.quiet 7 (.quiet 8 (.eff 9 [] .done))))))))))
  | 3 => (.quiet 0 (.quiet 1 (.quiet 2 (.quiet 3 (.quiet 4 (.quiet 5 (.quiet 6 (.quiet 7 (.quiet 8 (.eff 9 [] .done))))))))))
  | _ => .done
def pl364 : Nat → Plan
  | 4 => (.quiet 0 (.quiet 1 (.quiet 2 (.quiet 3 (.quiet 4 (.quiet 5 (.quiet 6 (.quiet 7 (.quiet 8 (.quiet 9 (.quiet 10 (.quiet 11 (.quiet 12 (.eff 13 [] (.quiet 14 .done)))))))))))))))
  | 6 => (.quiet 0 (.quiet 1 (.quiet 2 (.quiet 3 (.quiet 4 (.quiet 5 (.quiet 6 (.quiet 7 (.quiet 8 (.quiet 9 (.quiet 10 (.quiet 11 (.quiet 12 (.quiet 13 (.quiet 14 (.eff 15 [] (.quiet 16 (.eff 17 [] .done))))))))))))))))))
  | _ => .done
def pl365 : Nat → Plan
  | 10 => (.quiet 0 (.quiet 1 (.quiet 2 (.quiet 3 (.quiet 4 (.quiet 5 (.quiet 6 (.quiet 7 (.quiet 8 (.quiet 9 (.quiet 10 (.quiet 11 (.quiet 12 (.quiet 13 (.quiet 14 (.quiet 15 (.quiet 16 (.eff 17 [] (.quiet 18 (.eff 19 [] .done))))))))))))))))))))
  | _ => .done
def pl366 : Nat → Plan
  | 10 => (.quiet 0 (.quiet 1 (.quiet 2 (.quiet 3 (.quiet 4 (.quiet 5 (.quiet 6 (.quiet 7 (.quiet 8 (.quiet 9 (.quiet 10 (.quiet 11 (.quiet 12 (.quiet 13 (.quiet 14 (.quiet 15 (.quiet 16 (.eff 17 [] (.quiet 18 (.eff 19 [] .done))))))))))))))))))))
  | _ => .done
def pl368 : Nat → Plan
  | 3 => (.quiet 0 (.quiet 1 (.quiet 2 (.quiet 3 (.quiet 4 (.quiet 5 (.quiet 6 (.quiet 7 (.quiet 8 (.quiet 9 (.quiet 10 (.quiet 11 (.quiet 12 (.eff 13 [] (.quiet 14 (.eff 15 [] .done))))))))))))))))
  | _ => .done
def pl369 : Nat → Plan
  | 5 => (.quiet 0 (.quiet 1 (.quiet 2 (.quiet 3 (.quiet 4 (.quiet 5 (.quiet 6 (.quiet 7 (.quiet 8 (.quiet 9 (.quiet 10 (.quiet 11 (.quiet 12 (.eff 13 [] (.quiet 14 (.quiet 15 .done))))))))))))))))
  | 11 => (.quiet 0 (.quiet 1 (.quiet 2 (.quiet 3 (.quiet 4 (.quiet 5 (.quiet 6 (.quiet 7 (.quiet 8 (.quiet 9 (.quiet 10 (.quiet 11 (.quiet 12 (.quiet 13 (.quiet 14 (.eff 15 [] (.quiet 16 (.eff 17 [] .done))))))))))))))))))
  | 16 => (.quiet 0 (.quiet 1 (.quiet 2 (.quiet 3 (.quiet 4 (.quiet 5 (.quiet 6 (.quiet 7 (.quiet 8 (.eff 9 [] (.quiet 10 .done)))))))))))
  | 17 => (.quiet 0 (.quiet 1 (.quiet 2 (.quiet 3 (.quiet 4 (.quiet 5 (.quiet 6 (.quiet 7 (.quiet 8 (.quiet 9 (.quiet 10 (.quiet 11 (.quiet 12 (.quiet 13 (.quiet 14 (.eff 15 [] (.quiet 16 (.eff 17 [] .done))))))))))))))))))
  | 22 => (.quiet 0 (.quiet 1 (.quiet 2 (.quiet 3 (.quiet 4 (.quiet 5 (.quiet 6 (.quiet 7 (.quiet 8 (.eff 9 [] (.quiet 10 .done)))))))))))
  | 23 => (.quiet 0 (.quiet 1 (.quiet 2 (.quiet 3 (.quiet 4 (.quiet 5 (.quiet 6 (.quiet 7 (.quiet 8 (.quiet 9 (.quiet 10 (.quiet 11 (.quiet 12 (.quiet 13 (.quiet 14 (.eff 15 [] (.quiet 16 (.eff 17 [] .done))))))))))))))))))
  | _ => .done
def pl371 : Nat → Plan
  | 1 => (.quiet 0 (.quiet 1 (.quiet 2 (.quiet 3 (.quiet 4 (.quiet 5 (.quiet 6 (.quiet 7 (.quiet 8 (.quiet 9 (.quiet 10 (.quiet 11 (.quiet 12 (.eff 13 [] (.quiet 14 (.eff 15 [] .done))))))))))))))))
  | 3 => (.quiet 0 (.quiet 1 (.quiet 2 (.quiet 3 (.quiet 4 (.quiet 5 (.quiet 6 (.quiet 7 (.quiet 8 (.quiet 9 (.quiet 10 (.quiet 11 (.eff 12 [] (.quiet 13 (.quiet 14 .done)))))))))))))))
  | 5 => (.quiet 0 (.quiet 1 (.quiet 2 (.quiet 3 (.quiet 4 (.quiet 5 (.quiet 6 (.quiet 7 (.quiet 8 (.quiet 9 (.quiet 10 (.quiet 11 (.eff 12 [] (.quiet 13 .done))))))))))))))
  | 8 => (.quiet 0 (.quiet 1 (.quiet 2 (.quiet 3 (.quiet 4 (.quiet 5 (.quiet 6 (.quiet 7 (.quiet 8 (.quiet 9 (.quiet 10 (.quiet 11 (.quiet 12 (.eff 13 [] (.quiet 14 (.eff 15 [] .done))))))))))))))))
  | _ => .done
def pl372 : Nat → Plan
  | 1 => (.quiet 0 (.quiet 1 (.quiet 2 (.quiet 3 (.quiet 4 (.quiet 5 (.quiet 6 (.quiet 7 (.quiet 8 (.quiet 9 (.quiet 10 (.quiet 11 (.quiet 12 (.eff 13 [] (.quiet 14 (.eff 15 [] .done))))))))))))))))
  | 3 => (.quiet 0 (.quiet 1 (.quiet 2 (.quiet 3 (.quiet 4 (.quiet 5 (.quiet 6 (.quiet 7 (.quiet 8 (.quiet 9 (.quiet 10 (.quiet 11 (.eff 12 [] (.quiet 13 .done))))))))))))))
  | 5 => (.quiet 0 (.quiet 1 (.quiet 2 (.quiet 3 (.quiet 4 (.quiet 5 (.quiet 6 (.quiet 7 (.quiet 8 (.quiet 9 (.quiet 10 (.quiet 11 (.eff 12 [] (.quiet 13 (.quiet 14 .done)))))))))))))))
  | 8 => (.quiet 0 (.quiet 1 (.quiet 2 (.quiet 3 (.quiet 4 (.quiet 5 (.quiet 6 (.quiet 7 (.quiet 8 (.quiet 9 (.quiet 10 (.quiet 11 (.quiet 12 (.eff 13 [] (.quiet 14 (.eff 15 [] .done))))))))))))))))
  | 10 => (.quiet 0 (.quiet 1 (.quiet 2 (.quiet 3 (.quiet 4 (.quiet 5 (.quiet 6 (.quiet 7 (.quiet 8 (.quiet 9 (.quiet 10 (.quiet 11 (.quiet 12 (.eff 13 [] (.quiet 14 (.eff 15 [] .done))))))))))))))))
  | 13 => (.quiet 0 (.quiet 1 (.quiet 2 (.quiet 3 (.quiet 4 (.quiet 5 (.quiet 6 (.quiet 7 (.quiet 8 (.quiet 9 (.quiet 10 (.quiet 11 (.eff 12 [] (.quiet 13 .done))))))))))))))
  | 15 => (.quiet 0 (.quiet 1 (.quiet 2 (.quiet 3 (.quiet 4 (.quiet 5 (.quiet 6 (.quiet 7 (.quiet 8 (.quiet 9 (.quiet 10 (.quiet 11 (.eff 12 [] (.quiet 13 (.quiet 14 .done)))))))))))))))
  | 18 => (.quiet 0 (.quiet 1 (.quiet 2 (.quiet 3 (.quiet 4 (.quiet 5 (.quiet 6 (.quiet 7 (.quiet 8 (.quiet 9 (.quiet 10 (.quiet 11 (.quiet 12 (.eff 13 [] (.quiet 14 (.eff 15 [] .done))))))))))))))))
  | 21 => (.quiet 0 (.quiet 1 (.quiet 2 (.quiet 3 (.quiet 4 (.quiet 5 (.quiet 6 (.quiet 7 (.quiet 8 (.quiet 9 (.quiet 10 (.quiet 11 (.quiet 12 (.eff 13 [] (.quiet 14 (.eff 15 [] .done))))))))))))))))
  | _ => .done
def pl373 : Nat → Plan
  | 4 => (.quiet 0 (.quiet 1 (.quiet 2 (.quiet 3 (.quiet 4 (.quiet 5 (.quiet 6 (.quiet 7 (.quiet 8 (.quiet 9 (.quiet 10 (.quiet 11 (.quiet 12 (.quiet 13 (.eff 14 [] (.quiet 15 (.quiet 16 .done)))))))))))))))))
  | 6 => (.quiet 0 (.quiet 1 (.quiet 2 (.quiet 3 (.quiet 4 (.quiet 5 (.quiet 6 (.quiet 7 (.quiet 8 (.quiet 9 (.quiet 10 (.quiet 11 (.quiet 12 (.quiet 13 (.quiet 14 (.eff 15 [] (.quiet 16 (.eff 17 [] .done))))))))))))))))))
  | _ => .done
def pl374 : Nat → Plan
  | 10 => (.quiet 0 (.quiet 1 (.quiet 2 (.quiet 3 (.quiet 4 (.quiet 5 (.quiet 6 (.quiet 7 (.quiet 8 (.quiet 9 (.quiet 10 (.quiet 11 (.quiet 12 (.quiet 13 (.quiet 14 (.quiet 15 (.quiet 16 (.eff 17 [] (.quiet 18 (.eff 19 [] .done))))))))))))))))))))
  | _ => .done
def pl375 : Nat → Plan
  | 10 => (.quiet 0 (.quiet 1 (.quiet 2 (.quiet 3 (.quiet 4 (.quiet 5 (.quiet 6 (.quiet 7 (.quiet 8 (.quiet 9 (.quiet 10 (.quiet 11 (.quiet 12 (.quiet 13 (.quiet 14 (.quiet 15 (.quiet 16 (.eff 17 [] (.quiet 18 (.eff 19 [] .done))))))))))))))))))))
  | _ => .done
def pl377 : Nat → Plan
  | 3 => (.quiet 0 (.quiet 1 (.quiet 2 (.quiet 3 (.quiet 4 (.quiet 5 (.quiet 6 (.quiet 7 (.quiet 8 (.quiet 9 (.quiet 10 (.quiet 11 (.quiet 12 (.eff 13 [] (.quiet 14 (.eff 15 [] .done))))))))))))))))
  | _ => .done
def pl378 : Nat → Plan
  | 5 => (.quiet 0 (.quiet 1 (.quiet 2 (.quiet 3 (.quiet 4 (.quiet 5 (.quiet 6 (.quiet 7 (.quiet 8 (.quiet 9 (.quiet 10 (.quiet 11 (.quiet 12 (.quiet 13 (.eff 14 [] (.quiet 15 (.quiet 16 (.quiet 17 .done))))))))))))))))))
  | 11 => (.quiet 0 (.quiet 1 (.quiet 2 (.quiet 3 (.quiet 4 (.quiet 5 (.quiet 6 (.quiet 7 (.quiet 8 (.quiet 9 (.quiet 10 (.quiet 11 (.quiet 12 (.quiet 13 (.quiet 14 (.eff 15 [] (.quiet 16 (.eff 17 [] .done))))))))))))))))))
  | 16 => (.quiet 0 (.quiet 1 (.quiet 2 (.quiet 3 (.quiet 4 (.quiet 5 (.quiet 6 (.quiet 7 (.quiet 8 (.quiet 9 (.eff 10 [] (.quiet 11 (.quiet 12 .done)))))))))))))
  | 17 => (.quiet 0 (.quiet 1 (.quiet 2 (.quiet 3 (.quiet 4 (.quiet 5 (.quiet 6 (.quiet 7 (.quiet 8 (.quiet 9 (.quiet 10 (.quiet 11 (.quiet 12 (.quiet 13 (.quiet 14 (.eff 15 [] (.quiet 16 (.eff 17 [] .done))))))))))))))))))
  | 22 => (.quiet 0 (.quiet 1 (.quiet 2 (.quiet 3 (.quiet 4 (.quiet 5 (.quiet 6 (.quiet 7 (.quiet 8 (.quiet 9 (.eff 10 [] (.quiet 11 (.quiet 12 .done)))))))))))))
  | 23 => (.quiet 0 (.quiet 1 (.quiet 2 (.quiet 3 (.quiet 4 (.quiet 5 (.quiet 6 (.quiet 7 (.quiet 8 (.quiet 9 (.quiet 10 (.quiet 11 (.quiet 12 (.quiet 13 (.quiet 14 (.eff 15 [] (.quiet 16 (.eff 17 [] .done))))))))))))))))))
  | _ => .done
def pl379 : Nat → Plan
  | 1 => (.quiet 0 (.quiet 1 (.quiet 2 (.quiet 3 (.quiet 4 (.quiet 5 (.quiet 6 (.quiet 7 (.quiet 8 (.quiet 9 (.quiet 10 (.quiet 11 (.quiet 12 (.eff 13 [] (.quiet 14 (.eff 15 [] .done))))))))))))))))
  | 3 => (.quiet 0 (.quiet 1 (.quiet 2 (.quiet 3 (.quiet 4 (.quiet 5 (.quiet 6 (.quiet 7 (.quiet 8 (.quiet 9 (.quiet 10 (.quiet 11 (.quiet 12 (.eff 13 [] (.quiet 14 (.quiet 15 (.quiet 16 .done)))))))))))))))))
  | 5 => (.quiet 0 (.quiet 1 (.quiet 2 (.quiet 3 (.quiet 4 (.quiet 5 (.quiet 6 (.quiet 7 (.quiet 8 (.quiet 9 (.quiet 10 (.quiet 11 (.quiet 12 (.eff 13 [] (.quiet 14 (.quiet 15 .done))))))))))))))))
  | 8 => (.quiet 0 (.quiet 1 (.quiet 2 (.quiet 3 (.quiet 4 (.quiet 5 (.quiet 6 (.quiet 7 (.quiet 8 (.quiet 9 (.quiet 10 (.quiet 11 (.quiet 12 (.eff 13 [] (.quiet 14 (.eff 15 [] .done))))))))))))))))
  | _ => .done
def pl380 : Nat → Plan
  | 1 => (.quiet 0 (.quiet 1 (.quiet 2 (.quiet 3 (.quiet 4 (.quiet 5 (.quiet 6 (.quiet 7 (.quiet 8 (.quiet 9 (.quiet 10 (.quiet 11 (.quiet 12 (.eff 13 [] (.quiet 14 (.eff 15 [] .done))))))))))))))))
  | 3 => (.quiet 0 (.quiet 1 (.quiet 2 (.quiet 3 (.quiet 4 (.quiet 5 (.quiet 6 (.quiet 7 (.quiet 8 (.quiet 9 (.quiet 10 (.quiet 11 (.quiet 12 (.eff 13 [] (.quiet 14 (.quiet 15 .done))))))))))))))))
  | 5 => (.quiet 0 (.quiet 1 (.quiet 2 (.quiet 3 (.quiet 4 (.quiet 5 (.quiet 6 (.quiet 7 (.quiet 8 (.quiet 9 (.quiet 10 (.quiet 11 (.quiet 12 (.eff 13 [] (.quiet 14 (.quiet 15 (.quiet 16 .done)))))))))))))))))
  | 8 => (.quiet 0 (.quiet 1 (.quiet 2 (.quiet 3 (.quiet 4 (.quiet 5 (.quiet 6 (.quiet 7 (.quiet 8 (.quiet 9 (.quiet 10 (.quiet 11 (.quiet 12 (.eff 13 [] (.quiet 14 (.eff 15 [] .done))))))))))))))))
  | 10 => (.quiet 0 (.quiet 1 (.quiet 2 (.quiet 3 (.quiet 4 (.quiet 5 (.quiet 6 (.quiet 7 (.quiet 8 (.quiet 9 (.quiet 10 (.quiet 11 (.quiet 12 (.eff 13 [] (.quiet 14 (.eff 15 [] .done))))))))))))))))
  | 13 => (.quiet 0 (.quiet 1 (.quiet 2 (.quiet 3 (.quiet 4 (.quiet 5 (.quiet 6 (.quiet 7 (.quiet 8 (.quiet 9 (.quiet 10 (.quiet 11 (.quiet 12 (.eff 13 [] (.quiet 14 (.quiet 15 .done))))))))))))))))
  | 15 => (.quiet 0 (.quiet 1 (.quiet 2 (.quiet 3 (.quiet 4 (.quiet 5 (.quiet 6 (.quiet 7 (.quiet 8 (.quiet 9 (.quiet 10 (.quiet 11 (.quiet 12 (.eff 13 [] (.quiet 14 (.quiet 15 (.quiet 16 .done)))))))))))))))))
  | 18 => (.quiet 0 (.quiet 1 (.quiet 2 (.quiet 3 (.quiet 4 (.quiet 5 (.quiet 6 (.quiet 7 (.quiet 8 (.quiet 9 (.quiet 10 (.quiet 11 (.quiet 12 (.eff 13 [] (.quiet 14 (.eff 15 [] .done))))))))))))))))
  | 21 => (.quiet 0 (.quiet 1 (.quiet 2 (.quiet 3 (.quiet 4 (.quiet 5 (.quiet 6 (.quiet 7 (.quiet 8 (.quiet 9 (.quiet 10 (.quiet 11 (.quiet 12 (.eff 13 [] (.quiet 14 (.eff 15 [] .done))))))))))))))))
  | _ => .done
def pl381 : Nat → Plan
  | 4 => (.quiet 0 (.quiet 1 (.quiet 2 (.quiet 3 (.quiet 4 (.quiet 5 (.quiet 6 (.quiet 7 (.quiet 8 (.quiet 9 (.quiet 10 (.quiet 11 (.quiet 12 (.quiet 13 (.eff 14 [] (.quiet 15 (.quiet 16 .done)))))))))))))))))
  | 6 => (.quiet 0 (.quiet 1 (.quiet 2 (.quiet 3 (.quiet 4 (.quiet 5 (.quiet 6 (.quiet 7 (.quiet 8 (.quiet 9 (.quiet 10 (.quiet 11 (.quiet 12 (.quiet 13 (.quiet 14 (.eff 15 [] (.quiet 16 (.eff 17 [] .done))))))))))))))))))
  | _ => .done
def pl382 : Nat → Plan
  | 10 => (.quiet 0 (.quiet 1 (.quiet 2 (.quiet 3 (.quiet 4 (.quiet 5 (.quiet 6 (.quiet 7 (.quiet 8 (.quiet 9 (.quiet 10 (.quiet 11 (.quiet 12 (.quiet 13 (.quiet 14 (.quiet 15 (.quiet 16 (.eff 17 [] (.quiet 18 (.eff 19 [] .done))))))))))))))))))))
  | _ => .done
def pl383 : Nat → Plan
  | 10 => (.quiet 0 (.quiet 1 (.quiet 2 (.quiet 3 (.quiet 4 (.quiet 5 (.quiet 6 (.quiet 7 (.quiet 8 (.quiet 9 (.quiet 10 (.quiet 11 (.quiet 12 (.quiet 13 (.quiet 14 (.quiet 15 (.quiet 16 (.eff 17 [] (.quiet 18 (.eff 19 [] .done))))))))))))))))))))
  | _ => .done
def pl385 : Nat → Plan
  | 3 => (.quiet 0 (.quiet 1 (.quiet 2 (.quiet 3 (.quiet 4 (.quiet 5 (.quiet 6 (.quiet 7 (.quiet 8 (.quiet 9 (.quiet 10 (.quiet 11 (.quiet 12 (.eff 13 [] (.quiet 14 (.eff 15 [] .done))))))))))))))))
  | _ => .done
def pl386 : Nat → Plan
  | 5 => (.quiet 0 (.quiet 1 (.quiet 2 (.quiet 3 (.quiet 4 (.quiet 5 (.quiet 6 (.quiet 7 (.quiet 8 (.quiet 9 (.quiet 10 (.quiet 11 (.quiet 12 (.quiet 13 (.eff 14 [] (.quiet 15 (.quiet 16 (.quiet 17 .done))))))))))))))))))
  | 11 => (.quiet 0 (.quiet 1 (.quiet 2 (.quiet 3 (.quiet 4 (.quiet 5 (.quiet 6 (.quiet 7 (.quiet 8 (.quiet 9 (.quiet 10 (.quiet 11 (.quiet 12 (.quiet 13 (.quiet 14 (.eff 15 [] (.quiet 16 (.eff 17 [] .done))))))))))))))))))
  | 16 => (.quiet 0 (.quiet 1 (.quiet 2 (.quiet 3 (.quiet 4 (.quiet 5 (.quiet 6 (.quiet 7 (.quiet 8 (.quiet 9 (.eff 10 [] (.quiet 11 (.quiet 12 .done)))))))))))))
  | 17 => (.quiet 0 (.quiet 1 (.quiet 2 (.quiet 3 (.quiet 4 (.quiet 5 (.quiet 6 (.quiet 7 (.quiet 8 (.quiet 9 (.quiet 10 (.quiet 11 (.quiet 12 (.quiet 13 (.quiet 14 (.eff 15 [] (.quiet 16 (.eff 17 [] .done))))))))))))))))))
  | 22 => (.quiet 0 (.quiet 1 (.quiet 2 (.quiet 3 (.quiet 4 (.quiet 5 (.quiet 6 (.quiet 7 (.quiet 8 (.quiet 9 (.eff 10 [] (.quiet 11 (.quiet 12 .done)))))))))))))
  | 23 => (.quiet 0 (.quiet 1 (.quiet 2 (.quiet 3 (.quiet 4 (.quiet 5 (.quiet 6 (.quiet 7 (.quiet 8 (.quiet 9 (.quiet 10 (.quiet 11 (.quiet 12 (.quiet 13 (.quiet 14 (.eff 15 [] (.quiet 16 (.eff 17 [] .done))))))))))))))))))
  | _ => .done
def pl387 : Nat → Plan
  | 1 => (.quiet 0 (.quiet 1 (.quiet 2 (.quiet 3 (.quiet 4 (.quiet 5 (.quiet 6 (.quiet 7 (.quiet 8 (.quiet 9 (.quiet 10 (.quiet 11 (.quiet 12 (.eff 13 [] (.quiet 14 (.eff 15 [] .done))))))))))))))))
  | 3 => (.quiet 0 (.quiet 1 (.quiet 2 (.quiet 3 (.quiet 4 (.quiet 5 (.quiet 6 (.quiet 7 (.quiet 8 (.quiet 9 (.quiet 10 (.quiet 11 (.quiet 12 (.eff 13 [] (.quiet 14 (.quiet 15 (.quiet 16 .done)))))))))))))))))
  | 5 => (.quiet 0 (.quiet 1 (.quiet 2 (.quiet 3 (.quiet 4 (.quiet 5 (.quiet 6 (.quiet 7 (.quiet 8 (.quiet 9 (.quiet 10 (.quiet 11 (.quiet 12 (.eff 13 [] (.quiet 14 (.quiet 15 .done))))))))))))))))
  | 8 => (.quiet 0 (.quiet 1 (.quiet 2 (.quiet 3 (.quiet 4 (.quiet 5 (.quiet 6 (.quiet 7 (.quiet 8 (.quiet 9 (.quiet 10 (.quiet 11 (.quiet 12 (.eff 13 [] (.quiet 14 (.eff 15 [] .done))))))))))))))))
  | _ => .done
def pl388 : Nat → Plan
  | 1 => (.quiet 0 (.quiet 1 (.quiet 2 (.quiet 3 (.quiet 4 (.quiet 5 (.quiet 6 (.quiet 7 (.quiet 8 (.quiet 9 (.quiet 10 (.quiet 11 (.quiet 12 (.eff 13 [] (.quiet 14 (.eff 15 [] .done))))))))))))))))
  | 3 => (.quiet 0 (.quiet 1 (.quiet 2 (.quiet 3 (.quiet 4 (.quiet 5 (.quiet 6 (.quiet 7 (.quiet 8 (.quiet 9 (.quiet 10 (.quiet 11 (.quiet 12 (.eff 13 [] (.quiet 14 (.quiet 15 .done))))))))))))))))
  | 5 => (.quiet 0 (.quiet 1 (.quiet 2 (.quiet 3 (.quiet 4 (.quiet 5 (.quiet 6 (.quiet 7 (.quiet 8 (.quiet 9 (.quiet 10 (.quiet 11 (.quiet 12 (.eff 13 [] (.quiet 14 (.quiet 15 (.quiet 16 .done)))))))))))))))))
  | 8 => (.quiet 0 (.quiet 1 (.quiet 2 (.quiet 3 (.quiet 4 (.quiet 5 (.quiet 6 (.quiet 7 (.quiet 8 (.quiet 9 (.quiet 10 (.quiet 11 (.quiet 12 (.eff 13 [] (.quiet 14 (.eff 15 [] .done))))))))))))))))
  | 10 => (.quiet 0 (.quiet 1 (.quiet 2 (.quiet 3 (.quiet 4 (.quiet 5 (.quiet 6 (.quiet 7 (.quiet 8 (.quiet 9 (.quiet 10 (.quiet 11 (.quiet 12 (.eff 13 [] (.quiet 14 (.eff 15 [] .done))))))))))))))))
  | 13 => (.quiet 0 (.quiet 1 (.quiet 2 (.quiet 3 (.quiet 4 (.quiet 5 (.quiet 6 (.quiet 7 (.quiet 8 (.quiet 9 (.quiet 10 (.quiet 11 (.quiet 12 (.eff 13 [] (.quiet 14 (.quiet 15 .done))))))))))))))))
  | 15 => (.quiet 0 (.quiet 1 (.quiet 2 (.quiet 3 (.quiet 4 (.quiet 5 (.quiet 6 (.quiet 7 (.quiet 8 (.quiet 9 (.quiet 10 (.quiet 11 (.quiet 12 (.eff 13 [] (.quiet 14 (.quiet 15 (.quiet 16 .done)))))))))))))))))
  | 18 => (.quiet 0 (.quiet 1 (.quiet 2 (.quiet 3 (.quiet 4 (.quiet 5 (.quiet 6 (.quiet 7 (.quiet 8 (.quiet 9 (.quiet 10 (.quiet 11 (.quiet 12 (.eff 13 [] (.quiet 14 (.eff 15 [] .done))))))))))))))))
  | 21 => (.quiet 0 (.quiet 1 (.quiet 2 (.quiet 3 (.quiet 4 (.quiet 5 (.quiet 6 (.quiet 7 (.quiet 8 (.quiet 9 (.quiet 10 (.quiet 11 (.quiet 12 (.eff 13 [] (.quiet 14 (.eff 15 [] .done))))))))))))))))
  | _ => .done
def pl389 : Nat → Plan
  | 3 => (.quiet 0 (.quiet 1 (.quiet 2 (.quiet 3 (.quiet 4 (.quiet 5 (.quiet 6 (.quiet 7 (.quiet 8 (.quiet 9 (.quiet 10 (.quiet 11 (.quiet 12 (.quiet 13 (.quiet 14 (.quiet 15 (.quiet 16 (.quiet 17 (.eff 18 [] (.quiet 19 .done))))))))))))))))))))
  | 5 => (.quiet 0 (.quiet 1 (.quiet 2 (.quiet 3 (.quiet 4 (.quiet 5 (.quiet 6 (.quiet 7 (.quiet 8 (.quiet 9 (.quiet 10 (.quiet 11 (.eff 12 [] (.quiet 13 .done))))))))))))))
  | 6 => (.quiet 0 (.quiet 1 (.quiet 2 (.quiet 3 (.quiet 4 (.quiet 5 (.quiet 6 (.quiet 7 (.quiet 8 (.quiet 9 (.quiet 10 (.quiet 11 (.quiet 12 (.quiet 13 (.quiet 14 (.quiet 15 (.quiet 16 (.quiet 17 (.quiet 18 (.quiet 19 (.quiet 20 (.eff 21 [] (.quiet 22 (.eff 23 [] .done))))))))))))))))))))))))
  | _ => .done
def pl397 : Nat → Plan
  | 6 => (.quiet 0 (.quiet 1 (.quiet 2 (.quiet 3 (.quiet 4 (.quiet 5 (.quiet 6 (.quiet 7 (.quiet 8 (.quiet 9 .done))))))))))
  | 11 => (.quiet 0 (.quiet 1 (.quiet 2 (.quiet 3 (.quiet 4 (.quiet 5 (.quiet 6 (.quiet 7 (.quiet 8 (.quiet 9 .done))))))))))
  | _ => .done
def pl405 : Nat → Plan
  | 1 => (.quiet 0 (.quiet 1 (.quiet 2 (.quiet 3 (.quiet 4 (.quiet 5 (.quiet 6 (.quiet 7 (.eff 8 [] .done)))))))))
  | _ => .done
def pl406 : Nat → Plan
  | 3 => (.quiet 0 (.quiet 1 (.quiet 2 (.quiet 3 (.quiet 4 (.quiet 5 (.quiet 6 (.quiet 7 (.quiet 8 (.quiet 9 (.quiet 10 (.quiet 11 (.quiet 12 (.quiet 13 (.quiet 14 (.quiet 15 (.quiet 16 (.quiet 17 (.eff 18 [] (.quiet 19 .done))))))))))))))))))))
  | 5 => (.quiet 0 (.quiet 1 (.quiet 2 (.quiet 3 (.quiet 4 (.quiet 5 (.quiet 6 (.quiet 7 (.quiet 8 (.quiet 9 (.quiet 10 (.quiet 11 (.eff 12 [] (.quiet 13 .done))))))))))))))
  | 6 => (.quiet 0 (.quiet 1 (.quiet 2 (.quiet 3 (.quiet 4 (.quiet 5 (.quiet 6 (.quiet 7 (.quiet 8 (.quiet 9 (.quiet 10 (.quiet 11 (.quiet 12 (.quiet 13 (.quiet 14 (.quiet 15 (.quiet 16 (.quiet 17 (.quiet 18 (.quiet 19 (.quiet 20 (.eff 21 [] (.quiet 22 (.eff 23 [] .done))))))))))))))))))))))))
  | _ => .done
def pl410 : Nat → Plan
  | 3 => (.quiet 0 (.quiet 1 (.quiet 2 (.quiet 3 (.quiet 4 (.quiet 5 (.quiet 6 (.quiet 7 (.quiet 8 (.quiet 9 (.quiet 10 (.quiet 11 (.quiet 12 (.quiet 13 (.quiet 14 (.quiet 15 (.quiet 16 (.quiet 17 (.quiet 18 (.eff 19 [] (.quiet 20 (.quiet 21 .done))))))))))))))))))))))
  | 5 => (.quiet 0 (.quiet 1 (.quiet 2 (.quiet 3 (.quiet 4 (.quiet 5 (.quiet 6 (.quiet 7 (.quiet 8 (.quiet 9 (.quiet 10 (.quiet 11 (.quiet 12 (.eff 13 [] (.quiet 14 (.quiet 15 .done))))))))))))))))
  | 6 => (.quiet 0 (.quiet 1 (.quiet 2 (.quiet 3 (.quiet 4 (.quiet 5 (.quiet 6 (.quiet 7 (.quiet 8 (.quiet 9 (.quiet 10 (.quiet 11 (.quiet 12 (.quiet 13 (.quiet 14 (.quiet 15 (.quiet 16 (.quiet 17 (.quiet 18 (.quiet 19 (.quiet 20 (.eff 21 [] (.quiet 22 (.eff 23 [] .done))))))))))))))))))))))))
  | _ => .done
def pl413 : Nat → Plan
  | 3 => (.quiet 0 (.quiet 1 (.quiet 2 (.quiet 3 (.quiet 4 (.quiet 5 (.quiet 6 (.quiet 7 (.quiet 8 (.quiet 9 (.quiet 10 (.quiet 11 (.quiet 12 (.quiet 13 (.quiet 14 (.quiet 15 (.quiet 16 (.quiet 17 (.quiet 18 (.eff 19 [] (.quiet 20 (.quiet 21 .done))))))))))))))))))))))
  | 5 => (.quiet 0 (.quiet 1 (.quiet 2 (.quiet 3 (.quiet 4 (.quiet 5 (.quiet 6 (.quiet 7 (.quiet 8 (.quiet 9 (.quiet 10 (.quiet 11 (.quiet 12 (.eff 13 [] (.quiet 14 (.quiet 15 .done))))))))))))))))
  | 6 => (.quiet 0 (.quiet 1 (.quiet 2 (.quiet 3 (.quiet 4 (.quiet 5 (.quiet 6 (.quiet 7 (.quiet 8 (.quiet 9 (.quiet 10 (.quiet 11 (.quiet 12 (.quiet 13 (.quiet 14 (.quiet 15 (.quiet 16 (.quiet 17 (.quiet 18 (.quiet 19 (.quiet 20 (.eff 21 [] (.quiet 22 (.eff 23 [] .done))))))))))))))))))))))))
  | _ => .done
def pl416 : Nat → Plan
  | 1 => (.quiet 0 (.quiet 1 (.quiet 2 (.quiet 3 (.quiet 4 (.quiet 5 (.quiet 6 (.quiet 7 (.eff 8 [] .done)))))))))
  | _ => .done
def pl418 : Nat → Plan
  | 1 => (.quiet 0 (.quiet 1 (.quiet 2 (.quiet 3 (.quiet 4 (.quiet 5 (.quiet 6 (.quiet 7 .done))))))))
  | _ => .done
def pl422 : Nat → Plan
  | 3 => (.quiet 0 (.quiet 1 (.quiet 2 (.quiet 3 (.quiet 4 (.quiet 5 (.quiet 6 (.quiet 7 (.quiet 8 (.quiet 9 (.quiet 10 (.quiet 11 (.quiet 12 (.eff 13 [] (.quiet 14 (.eff 15 [] .done))))))))))))))))
  | _ => .done
def pl425 : Nat → Plan
  | 1 => (.quiet 0 (.quiet 1 (.quiet 2 (.quiet 3 (.quiet 4 (.quiet 5 (.quiet 6 (.quiet 7 (.eff 8 [] .done)))))))))
  | _ => .done
def pl426 : Nat → Plan
  | 1 => (.quiet 0 (.quiet 1 (.quiet 2 (.quiet 3 (.quiet 4 (.quiet 5 (.quiet 6 (.quiet 7 (.quiet 8 (.eff 9 [] (.quiet 10 .done)))))))))))
  | _ => .done
def pl427 : Nat → Plan
  | 1 => (.quiet 0 (.quiet 1 (.quiet 2 (.quiet 3 (.quiet 4 (.quiet 5 (.quiet 6 (.quiet 7 (.quiet 8 (.eff 9 [] (.quiet 10 .done)))))))))))
  | _ => .done
def pls : Nat → Nat → Plan
  | 4 => pl4
  | 5 => pl5
  | 16 => pl16
  | 17 => pl17
  | 18 => pl18
  | 20 => pl20
  | 21 => pl21
  | 25 => pl25
  | 29 => pl29
  | 31 => pl31
  | 34 => pl34
  | 36 => pl36
  | 37 => pl37
  | 38 => pl38
  | 40 => pl40
  | 50 => pl50
  | 51 => pl51
  | 52 => pl52
  | 56 => pl56
  | 62 => pl62
  | 64 => pl64
  | 68 => pl68
  | 85 => pl85
  | 89 => pl89
  | 91 => pl91
  | 94 => pl94
  | 95 => pl95
  | 96 => pl96
  | 97 => pl97
  | 109 => pl109
  | 110 => pl110
  | 136 => pl136
  | 137 => pl137
  | 138 => pl138
  | 139 => pl139
  | 140 => pl140
  | 141 => pl141
  | 142 => pl142
  | 144 => pl144
  | 153 => pl153
  | 155 => pl155
  | 157 => pl157
  | 158 => pl158
  | 160 => pl160
  | 162 => pl162
  | 166 => pl166
  | 174 => pl174
  | 175 => pl175
  | 181 => pl181
  | 184 => pl184
  | 185 => pl185
  | 189 => pl189
  | 190 => pl190
  | 201 => pl201
  | 218 => pl218
  | 219 => pl219
  | 221 => pl221
  | 222 => pl222
  | 223 => pl223
  | 224 => pl224
  | 228 => pl228
  | 229 => pl229
  | 234 => pl234
  | 235 => pl235
  | 243 => pl243
  | 246 => pl246
  | 252 => pl252
  | 266 => pl266
  | 277 => pl277
  | 284 => pl284
  | 293 => pl293
  | 294 => pl294
  | 299 => pl299
  | 300 => pl300
  | 303 => pl303
  | 304 => pl304
  | 305 => pl305
  | 307 => pl307
  | 308 => pl308
  | 310 => pl310
  | 311 => pl311
  | 315 => pl315
  | 317 => pl317
  | 318 => pl318
  | 322 => pl322
  | 324 => pl324
  | 326 => pl326
  | 327 => pl327
  | 328 => pl328
  | 329 => pl329
  | 331 => pl331
  | 332 => pl332
  | 334 => pl334
  | 335 => pl335
  | 347 => pl347
  | 352 => pl352
  | 357 => pl357
  | 359 => pl359
  | 364 => pl364
  | 365 => pl365
  | 366 => pl366
  | 368 => pl368
  | 369 => pl369
  | 371 => pl371
  | 372 => pl372
  | 373 => pl373
  | 374 => pl374
  | 375 => pl375
  | 377 => pl377
  | 378 => pl378
  | 379 => pl379
  | 380 => pl380
  | 381 => pl381
  | 382 => pl382
  | 383 => pl383
  | 385 => pl385
  | 386 => pl386
  | 387 => pl387
  | 388 => pl388
  | 389 => pl389
  | 397 => pl397
  | 405 => pl405
  | 406 => pl406
  | 410 => pl410
  | 413 => pl413
  | 416 => pl416
  | 418 => pl418
  | 422 => pl422
  | 425 => pl425
  | 426 => pl426
  | 427 => pl427
  | _ => fun _ => .done
theorem rgs_0 : rgsL pls ((Tryz.prog.funcs.toList.drop 0).take 120) 0 = true := by kernel_rfl
theorem rgs_1 : rgsL pls ((Tryz.prog.funcs.toList.drop 120).take 120) 120 = true := by kernel_rfl
theorem rgs_2 : rgsL pls ((Tryz.prog.funcs.toList.drop 240).take 120) 240 = true := by kernel_rfl
theorem rgs_3 : rgsL pls ((Tryz.prog.funcs.toList.drop 360).take 120) 360 = true := by kernel_rfl
theorem rgs_all : RgsOK Tryz.prog pls := rgsOK_of fun j hj => by
  have hs : Tryz.prog.funcs.size = 480 := by kernel_rfl
  rw [hs] at hj
  by_cases h0 : j < 120
  · exact ⟨0, 120, by omega, by omega, rgs_0⟩
  by_cases h1 : j < 240
  · exact ⟨120, 120, by omega, by omega, rgs_1⟩
  by_cases h2 : j < 360
  · exact ⟨240, 120, by omega, by omega, rgs_2⟩
  by_cases h3 : j < 480
  · exact ⟨360, 120, by omega, by omega, rgs_3⟩
  omega
end Go.Proofs.YtbmcbbmgdcbhjaaGreatDoor

/- Arguments that are structs, opened field by field. It names no program. -/
namespace Go.Proofs.YtbmcbbmgdcbhjaaGreatDoor.St
open Go Go.ChangeShapes Go.WideShapes Go.Deep

section
variable {H : Type} {enc : TypeId × Value → H} {P : Program} {w : World} {base : Nat} {spare : Nat → Bool} {held : Bool}
theorem agg_weights {t : TypeId} {fs : Array Field} {ys : List (DataW H × List MemPlace)} (hs : P.underlying t = some (.struct fs)) {j : Nat} {f : Field} (hj : fs[j]? = some f) {y : DataW H × List MemPlace} (hy : ys[j]? = some y)
    {B : Nat} (h : ∀ n ∈ (DataW.agg (ys.map (·.1))).weights P t, n ≤ B) : ∀ n ∈ y.1.weights P f.type, n ≤ B := by
  intro n hn
  refine h n ?_
  rw [DataW.weights, hs]
  refine DataW.weights_mem_each (j := j) (t := f.type) (d := y.1) ?_ ?_ n hn
  · rw [List.getElem?_map, Array.getElem?_toList, hj]; rfl
  · rw [List.getElem?_map, hy]; rfl
theorem slice_weights {t e : TypeId} {elems spare' : List (DataW H)} (hs : P.underlying t = some (.slice e)) {x : DataW H} (hx : x ∈ elems ++ spare') {B : Nat} (h : ∀ n ∈ (DataW.slice elems spare').weights P t, n ≤ B) : ∀ n ∈ x.weights P e, n ≤ B := by
  have all : ∀ (l : List (DataW H)), x ∈ l → ∀ n ∈ x.weights P e, n ∈ DataW.weightsAll P e l := by
    intro l
    induction l with
    | nil => intro h; cases h
    | cons y r ih =>
      intro h n hn
      rw [DataW.weightsAll, List.mem_append]
      rcases List.mem_cons.1 h with rfl | h
      · exact .inl hn
      · exact .inr (ih h n hn)
  intro n hn
  refine h n ?_
  rw [DataW.weights, hs]
  rcases List.mem_append.1 hx with hx | hx
  · exact List.mem_cons_of_mem _ (List.mem_append_left _ (all _ hx n hn))
  · exact List.mem_cons_of_mem _ (List.mem_append_right _ (all _ hx n hn))
theorem slice_size {t e : TypeId} {elems spare' : List (DataW H)} (hs : P.underlying t = some (.slice e)) {B : Nat} (h : ∀ n ∈ (DataW.slice elems spare').weights P t, n ≤ B) : (elems.length + spare'.length) * P.bytesOf e ≤ B := by
  refine h _ ?_
  rw [DataW.weights, hs]
  exact List.mem_cons_self
end
end Go.Proofs.YtbmcbbmgdcbhjaaGreatDoor.St

/- Arguments that are rows of structs: they are read, never written. It names no program. -/
namespace Go.Proofs.YtbmcbbmgdcbhjaaGreatDoor.St
open Go Go.ChangeShapes Go.WideShapes Go.Deep

/-- An argument's row. -/
structure ArgRow {α : Type} (L : Lay α) (w : World) (a : Option Addr) (l c : Nat) (xs : List α) : Prop where
  len : xs.length = l
  lc : l ≤ c
  cm : c ≤ 9223372036854775807
  blk : ∀ ad, a = some ad → 0 < l → ad.block < w.heap.size
  get : ∀ (i : Nat) (h : i < xs.length), ∃ ad, a = some ad ∧ ∀ j v, (L.cs xs[i])[j]? = some v → w.cell? (Addr.add (Addr.add ad (i * L.s)) j) = some v
theorem cell_no {w w' : World} (h : Mod no w w') {ad : Addr} (hb : ad.block < w.heap.size) : w'.cell? ad = w.cell? ad := by
  have := h.keep ad.block hb id
  unfold World.cell?
  rw [this]
theorem add_block (ad : Addr) (n : Nat) : (Addr.add ad n).block = ad.block := by unfold Addr.add; split <;> rfl
theorem ArgRow.no {α : Type} {L : Lay α} {w w' : World} {a : Option Addr} {l c : Nat} {xs : List α} (h : ArgRow L w a l c xs) (hm : Mod no w w') : ArgRow L w' a l c xs := by
  refine ⟨h.len, h.lc, h.cm, fun ad had hl => Nat.lt_of_lt_of_le (h.blk ad had hl) hm.size, fun i hi => ?_⟩
  obtain ⟨ad, had, hg⟩ := h.get i hi
  refine ⟨ad, had, fun j v hj => ?_⟩
  rw [cell_no hm (by rw [add_block, add_block]; exact h.blk ad had (by have := h.len; omega))]
  exact hg j v hj
theorem cell_lt {w : World} {ad : Addr} {v : Value} (h : w.cell? ad = some v) : ad.block < w.heap.size := by
  unfold World.cell? at h
  cases hh : w.heap[ad.block]? with
  | none => rw [hh] at h; cases h
  | some o => exact lt_of_heap hh


end Go.Proofs.YtbmcbbmgdcbhjaaGreatDoor.St

/- Arguments, whatever they are made of, told by their leaves. It names no program. -/
namespace Go.Proofs.YtbmcbbmgdcbhjaaGreatDoor.St
open Go Go.ChangeShapes Go.WideShapes Go.Deep

/-- These cells are a value of type t, as far as n steps go. -/
def Leaf (P : Program) (w : World) (B : Nat) : Nat → TypeId → List Value → Prop
  | 0, _, _ => True
  | n + 1, t, cs => match P.underlying t with
    | some (.struct fs) => cs.length = P.cellsOf t ∧ ∀ (i : Nat) (f : Field), fs[i]? = some f → Leaf P w B n f.type ((cs.drop f.offset).take (P.cellsOf f.type))
    | some (.int k) => ∃ x, cs = [.int k x] ∧ (Lit.int k x).wf = true
    | some .string => ∃ s : ByteArray, cs = [.string s] ∧ s.size ≤ B
    | some .bool => ∃ b, cs = [.bool b]
    | some (.slice e) => ∃ (a : Option Addr) (l c : Nat), cs = [.slice a l c] ∧ l ≤ c ∧ c ≤ 9223372036854775807 ∧ c * P.bytesOf e ≤ B ∧ (a = none → c = 0) ∧
        ∀ i, i < l → ∃ ad, a = some ad ∧ ∃ cs', cs'.length = P.cellsOf e ∧ (∀ j v, cs'[j]? = some v → w.cell? (Addr.add (Addr.add ad (i * P.cellsOf e)) j) = some v) ∧ Leaf P w B n e cs'
    | _ => True
section
variable {H : Type} {enc : TypeId × Value → H} {P : Program} {w : World} {base : Nat} {B : Nat}
theorem leaf_of : ∀ (m : Nat) {t : TypeId} {cs : List Value} {x : DataW H × List MemPlace} {fuel : Nat}, DataW.trod enc P w base (fun _ => true) true fuel t cs = some x → (∀ n ∈ x.1.weights P t, n ≤ B) → Leaf P w B m t cs
  | 0, _, _, _, _, _, _ => trivial
  | m + 1, t, cs, x, fuel, h, hz => by
    unfold Leaf
    split
    · rename_i fs ht
      obtain ⟨ys, n, _, rfl, hl, hlen, hf⟩ := DataW.trod_struct ht h
      refine ⟨hl, fun i f hi => ?_⟩
      have h1 := hf i f hi
      have hil : i < fs.size := (Array.getElem?_eq_some_iff.1 hi).1
      have hys : ys[i]? = some (ys[i]'(by omega)) := List.getElem?_eq_getElem (by omega)
      rw [hys] at h1
      exact leaf_of m h1 (agg_weights ht hi hys hz)
    · rename_i k ht
      obtain ⟨n, h1, _, h2⟩ := DataW.trod_int ht h
      exact ⟨n, h1, h2⟩
    · rename_i ht
      obtain ⟨s, h1, rfl, _⟩ := DataW.trod_string ht h
      exact ⟨s, h1, hz _ (by simp [DataW.weights])⟩
    · rename_i ht
      obtain ⟨b, h1, _⟩ := DataW.trod_bool ht h
      exact ⟨b, h1⟩
    · rename_i e ht
      rcases DataW.trod_slice ht h with ⟨h1, _⟩ | ⟨a, len, cap, elems, rest, n, _, h1, rfl, _, hl, hm, hel, hget, hsp, _⟩
      · exact ⟨none, 0, 0, h1, Nat.le_refl _, by decide, by rw [Nat.zero_mul]; exact Nat.zero_le _, fun _ => rfl, fun i hi => by omega⟩
      · refine ⟨some a, len, cap, h1, hl, by simpa [maxLen] using hm, ?_, (fun h => by cases h), fun i hi => ⟨a, rfl, ?_⟩⟩
        · have := slice_size ht hz
          rw [List.length_map, List.length_map, hel, (hsp rfl).1, show len + (cap - len) = cap by omega] at this
          exact this
        · have h2 := hget i hi
          have hys : elems[i]? = some (elems[i]'(by omega)) := List.getElem?_eq_getElem (by omega)
          rw [hys] at h2
          obtain ⟨cs', h3, h4⟩ := Option.bind_eq_some_iff.1 h2
          obtain ⟨_, hcl, hat⟩ := World.cells?_some h3
          refine ⟨cs', hcl, fun j v hj => ?_, leaf_of m h4 ?_⟩
          · have hjl : j < P.cellsOf e := by have := (List.getElem?_eq_some_iff.1 hj).1; omega
            rw [hat j hjl, hj]
          · exact slice_weights ht (List.mem_append_left _ (List.mem_map.2 ⟨_, List.getElem_mem (by omega), rfl⟩)) hz
    · trivial
/-- A row whose elements are told by their leaves. -/
theorem leaf_row {α : Type} [Inhabited α] {L : Lay α} (Q : α → Prop) {e : TypeId} {a : Option Addr} {l c n : Nat} (hs : L.s = P.cellsOf e) (hx : ∀ cs, cs.length = L.s → Leaf P w B n e cs → ∃ x, L.cs x = cs ∧ Q x) (hl : l ≤ c) (hc : c ≤ 9223372036854775807)
    (h : ∀ i, i < l → ∃ ad, a = some ad ∧ ∃ cs', cs'.length = P.cellsOf e ∧ (∀ j v, cs'[j]? = some v → w.cell? (Addr.add (Addr.add ad (i * P.cellsOf e)) j) = some v) ∧ Leaf P w B n e cs') : ∃ xs, ArgRow L w a l c xs ∧ ∀ x ∈ xs, Q x := by
  have hall : ∀ i, ∃ x : α, i < l → (∃ ad, a = some ad ∧ ∀ j u, (L.cs x)[j]? = some u → w.cell? (Addr.add (Addr.add ad (i * L.s)) j) = some u) ∧ Q x := by
    intro i
    by_cases hi : i < l
    · obtain ⟨ad, had, cs', h1, h2, h3⟩ := h i hi
      obtain ⟨x, rfl, hq⟩ := hx cs' (by rw [h1, hs]) h3
      exact ⟨x, fun _ => ⟨⟨ad, had, fun j u hj => by rw [hs]; exact h2 j u hj⟩, hq⟩⟩
    · exact ⟨default, fun h' => absurd h' hi⟩
  obtain ⟨f, hf⟩ := Classical.axiomOfChoice hall
  refine ⟨(List.range l).map f, ⟨by simp, hl, hc, fun ad had hl0 => ?_, fun i hi => ?_⟩, fun x hx => ?_⟩
  · obtain ⟨⟨ad', had', hg⟩, _⟩ := hf 0 hl0
    rw [had] at had'
    cases had'
    have := cell_lt (hg 0 ((L.cs (f 0))[0]'(by rw [L.len]; exact L.pos)) (List.getElem?_eq_getElem _))
    rwa [add_block, add_block] at this
  · rw [List.length_map, List.length_range] at hi
    obtain ⟨⟨ad, had, hg⟩, _⟩ := hf i hi
    refine ⟨ad, had, fun j v hj => ?_⟩
    rw [List.getElem_map, List.getElem_range] at hj
    exact hg j v hj
  · obtain ⟨i, hi, rfl⟩ := List.mem_map.1 hx
    exact (hf i (List.mem_range.1 hi)).2
end

/-! ### Rows of a program's own, read as an argument's; and an argument's, appended -/
theorem Lay.div {α : Type} (L : Lay α) : ∀ {xs : List α} {k : Nat} {v : Value}, (xs.flatMap L.cs)[k]? = some v → ∃ (i : Nat) (hi : i < xs.length) (j : Nat), k = i * L.s + j ∧ (L.cs (xs[i]'hi))[j]? = some v
  | [], k, v, h => by simp at h
  | x :: r, k, v, h => by
    rw [List.flatMap_cons] at h
    by_cases hk : k < L.s
    · rw [List.getElem?_append_left (by rw [L.len]; exact hk)] at h
      exact ⟨0, by simp, k, by simp, h⟩
    · rw [List.getElem?_append_right (by rw [L.len]; omega), L.len] at h
      obtain ⟨i, hi, j, he, hj⟩ := L.div h
      exact ⟨i + 1, by simpa using hi, j, by rw [Nat.add_mul]; omega, by simpa using hj⟩
theorem ArgRow.all {α : Type} {L : Lay α} {w : World} {a : Option Addr} {l c : Nat} {xs : List α} (h : ArgRow L w a l c xs) : (∀ ad, a = some ad → ∀ j v, (xs.flatMap L.cs)[j]? = some v → w.cell? (ad.add j) = some v) := by
  intro ad had k v hk
  obtain ⟨i, hi, j, rfl, hj⟩ := L.div hk
  obtain ⟨ad', had', hg⟩ := h.get i hi
  rw [had] at had'
  cases had'
  rw [← Go.Deep.add_add]
  exact hg j v hj
end Go.Proofs.YtbmcbbmgdcbhjaaGreatDoor.St

/- Leaves, opened. It names no program. -/
namespace Go.Proofs.YtbmcbbmgdcbhjaaGreatDoor.St
open Go Go.ChangeShapes Go.WideShapes Go.Deep
section
variable {P : Program} {w : World} {B n : Nat} {t : TypeId} {cs : List Value}
theorem leaf_struct {fs : Array Field} (ht : P.underlying t = some (.struct fs)) (h : Leaf P w B (n + 1) t cs) : cs.length = P.cellsOf t ∧ ∀ (i : Nat) (f : Field), fs[i]? = some f → Leaf P w B n f.type ((cs.drop f.offset).take (P.cellsOf f.type)) := by
  unfold Leaf at h; rw [ht] at h; exact h
theorem leaf_int {k : IntKind} (ht : P.underlying t = some (.int k)) (h : Leaf P w B (n + 1) t cs) : ∃ x, cs = [.int k x] ∧ (Lit.int k x).wf = true := by
  unfold Leaf at h; rw [ht] at h; exact h
theorem leaf_string (ht : P.underlying t = some .string) (h : Leaf P w B (n + 1) t cs) : ∃ s : ByteArray, cs = [.string s] ∧ s.size ≤ B := by
  unfold Leaf at h; rw [ht] at h; exact h
theorem leaf_bool (ht : P.underlying t = some .bool) (h : Leaf P w B (n + 1) t cs) : ∃ b, cs = [.bool b] := by
  unfold Leaf at h; rw [ht] at h; exact h
theorem leaf_slice {e : TypeId} (ht : P.underlying t = some (.slice e)) (h : Leaf P w B (n + 1) t cs) : ∃ (a : Option Addr) (l c : Nat), cs = [.slice a l c] ∧ l ≤ c ∧ c ≤ 9223372036854775807 ∧ c * P.bytesOf e ≤ B ∧ (a = none → c = 0) ∧
        ∀ i, i < l → ∃ ad, a = some ad ∧ ∃ cs', cs'.length = P.cellsOf e ∧ (∀ j v, cs'[j]? = some v → w.cell? (Addr.add (Addr.add ad (i * P.cellsOf e)) j) = some v) ∧ Leaf P w B n e cs' := by
  unfold Leaf at h; rw [ht] at h; exact h
/-- A field of one cell. -/
theorem field1 {fs : Array Field} {f : Field} (h : ∀ (i : Nat) (f : Field), fs[i]? = some f → Leaf P w B n f.type ((cs.drop f.offset).take (P.cellsOf f.type))) (i : Nat) (hf : fs[i]? = some f) {o : Nat} (ho : f.offset = o) {u : TypeId} (hu : f.type = u) {k : Nat} (hk : P.cellsOf u = k) : Leaf P w B n u ((cs.drop o).take k) := by
  subst ho; subst hu; subst hk; exact h i f hf
end
theorem struct_arg {H : Type} {enc : TypeId × Value → H} {P : Program} {w : World} {v : Value} {d : DataW H} {p : List MemPlace} {base : Nat} {r : Reach} {b0 : Nat} {t : TypeId} {fs : Array Field} {B : Nat} (n : Nat) (ht : P.underlying t = some (.struct fs))
    (hv : Value.okWide P w r b0 t v) (h : DataW.Trod enc P w base (fun _ => true) true t v d p) (hz : ∀ n ∈ d.weights P t, n ≤ B) : ∃ cs : List Value, v = .agg ⟨cs⟩ ∧ Leaf P w B n t cs := by
  obtain ⟨cs, rfl, _⟩ := okWide_struct ht hv
  obtain ⟨fuel, hf⟩ := h
  exact ⟨cs.toList, rfl, leaf_of n hf hz⟩
end Go.Proofs.YtbmcbbmgdcbhjaaGreatDoor.St

/- What a row gives to the machine that reckons: arguments of which nothing is known but their kinds, and a table of texts. It names no program. -/
noncomputable section
namespace Go.Proofs.YtbmcbbmgdcbhjaaGreatDoor.St
open Go Go.ChangeShapes Go.WideShapes Go.Deep

def okOp : List CT → Bool
  | [] => true
  | .int _ :: r => okOp r
  | .bool :: r => okOp r
  | .str :: r => okOp r
  | .slice :: r => okOp r
  | _ :: _ => false
/-- Values of these kinds, of which nothing is known. -/
def opqL : List CT → Nat → List AV
  | [], _ => []
  | .int k :: r, i => .oi k i :: opqL r (i + 1)
  | .bool :: r, i => .ob i :: opqL r (i + 1)
  | .str :: r, i => .os i :: opqL r (i + 1)
  | .slice :: r, i => .ol i :: opqL r (i + 1)
  | _ :: r, i => .np :: opqL r (i + 1)
def valI : Option Value → Int
  | some (.int _ x) => x
  | _ => 0
def valB : Option Value → Bool
  | some (.bool x) => x
  | _ => false
def valS : Option Value → ByteArray × Option Addr × Nat × Nat
  | some (.string x) => (x, none, 0, 0)
  | some (.slice a l c) => (ByteArray.empty, a, l, c)
  | _ => (ByteArray.empty, none, 0, 0)
theorem opq_emb {ρ : Rho} : ∀ {ks : List CT} {cs : List Value} (i : Nat), okOp ks = true → okCs ks cs → (∀ j v, cs[j]? = some v → ρ.oi (i + j) = valI (some v) ∧ ρ.ob (i + j) = valB (some v) ∧ ρ.os (i + j) = valS (some v)) → embL ρ (opqL ks i) = some cs
  | [], [], _, _, _, _ => rfl
  | [], _ :: _, _, _, h, _ => h.elim
  | _ :: _, [], _, _, h, _ => h.elim
  | c :: ks, v :: cs, i, ho, h, hv => by
    have h0 := hv 0 v rfl
    have hr : okOp ks = true := by cases c <;> first | exact ho | cases ho
    have ih := opq_emb (ρ := ρ) (i + 1) hr h.2 fun j u hj => by
      have := hv (j + 1) u (by simpa using hj)
      rw [show i + 1 + j = i + (j + 1) by omega]; exact this
    cases c with
    | int k => obtain ⟨x, rfl⟩ := h.1; exact embL_cons.2 ⟨_, _, by simp only [emb]; rw [show i = i + 0 from rfl, h0.1]; rfl, ih, rfl⟩
    | bool => obtain ⟨x, rfl⟩ := h.1; exact embL_cons.2 ⟨_, _, by simp only [emb]; rw [show i = i + 0 from rfl, h0.2.1]; rfl, ih, rfl⟩
    | str => obtain ⟨x, rfl⟩ := h.1; exact embL_cons.2 ⟨_, _, by simp only [emb]; rw [show i = i + 0 from rfl, h0.2.2]; rfl, ih, rfl⟩
    | slice => obtain ⟨a, l, c, rfl⟩ := h.1; exact embL_cons.2 ⟨_, _, by simp only [emb]; rw [show i = i + 0 from rfl, h0.2.2]; rfl, ih, rfl⟩
    | _ => cases ho
section
variable {P : Program} {w : World} {B : Nat}
theorem leaf_kinds : ∀ (d m : Nat) (t : TypeId) (ks : List CT) (cs : List Value), eqK P d t = some ks → P.cellsOf t = ks.length → d ≤ m → Leaf P w B m t cs → okCs ks cs
  | 0, _, _, _, _, h, _, _, _ => by simp [eqK] at h
  | d + 1, 0, _, _, _, _, _, h, _ => by omega
  | d + 1, m + 1, t, ks, cs, hk, hc, hd, hl => by
    unfold eqK at hk
    split at hk
    · rename_i hu; cases hk; obtain ⟨b, rfl⟩ := leaf_bool hu hl; exact ⟨⟨b, rfl⟩, trivial⟩
    · rename_i hu; cases hk; obtain ⟨b, rfl, _⟩ := leaf_int hu hl; exact ⟨⟨b, rfl⟩, trivial⟩
    · rename_i hu; cases hk; obtain ⟨b, rfl, _⟩ := leaf_string hu hl; exact ⟨⟨b, rfl⟩, trivial⟩
    · rename_i fs hu
      split at hk
      · cases hk
      · obtain ⟨hlen, hf⟩ := leaf_struct hu hl
        have key : ∀ (l : List Field) (i o : Nat) (ks : List CT), (∀ j, l[j]? = fs[i + j]?) → eqFs P (eqK P d) l o = some ks → cs.length = o + ks.length → okCs ks (cs.drop o) := by
          intro l
          induction l with
          | nil =>
            intro i o ks _ h hl
            cases h
            rw [List.drop_eq_nil_of_le (by simp at hl; omega)]
            trivial
          | cons f r ih =>
            intro i o ks hi h hl
            unfold eqFs at h
            split at h
            · rename_i k1 h1
              split at h
              · rename_i hc
                simp only [Bool.and_eq_true, bne_iff_ne, ne_eq, beq_iff_eq] at hc
                obtain ⟨⟨⟨c1, c2⟩, c3⟩, c4⟩ := hc
                obtain ⟨k2, h2, rfl⟩ := Option.map_eq_some_iff.1 h
                rw [List.length_append] at hl
                have hfi : fs[i]? = some f := by have := hi 0; simpa using this.symm
                have l1 := hf i f hfi
                rw [c2, c3] at l1
                have o1 := leaf_kinds d m f.type k1 _ h1 c3 (by omega) l1
                have o2 := ih (i + 1) (o + k1.length) k2 (fun j => by have := hi (j + 1); rw [show i + 1 + j = i + (j + 1) by omega]; simpa using this) h2 (by omega)
                have e : cs.drop o = (cs.drop o).take k1.length ++ cs.drop (o + k1.length) := by rw [← List.drop_drop, List.take_append_drop]
                rw [e]
                have app : ∀ {k1 k2 : List CT} {xs ys : List Value}, okCs k1 xs → okCs k2 ys → okCs (k1 ++ k2) (xs ++ ys) := by
                  intro k1
                  induction k1 with
                  | nil => intro k2 xs ys h h'; cases xs with | nil => exact h' | cons _ _ => exact h.elim
                  | cons a k1 ih => intro k2 xs ys h h'; cases xs with | nil => exact h.elim | cons _ _ => exact ⟨h.1, ih h.2 h'⟩
                exact app o1 o2
              · cases h
            · cases h
        have := key fs.toList 0 0 ks (fun j => by simp) hk (by rw [hlen, hc]; simp)
        simpa using this
    · cases hk
/-- A struct of plain leaves, as an argument. -/
theorem args_kinds {H : Type} {enc : TypeId × Value → H} {v : Value} {d : DataW H} {p : List MemPlace} {base : Nat} {r : Reach} {b0 : Nat} {t : TypeId} {fs : Array Field} {ks : List CT} (hu : P.underlying t = some (.struct fs)) (hk : eqK P 8 t = some ks) (hc : P.cellsOf t = ks.length)
    (hv : Value.okWide P w r b0 t v) (h : DataW.Trod enc P w base (fun _ => true) true t v d p) (hz : ∀ n ∈ d.weights P t, n ≤ B) : ∃ cs : List Value, v = .agg ⟨cs⟩ ∧ okCs ks cs := by
  obtain ⟨cs, rfl, hl⟩ := struct_arg 8 hu hv h hz
  exact ⟨cs, rfl, leaf_kinds 8 8 t ks cs hk hc (Nat.le_refl _) hl⟩
end
theorem cells_of_strs {H : Type} {enc : TypeId × Value → H} {P : Program} {w : World} {base : Nat} {sp : Nat → Bool} {held : Bool} {fuel : Nat} {t e : TypeId} {n : Nat} {cs : List Value} {ss : List (List UInt8)} {p : List MemPlace}
    (ht : P.underlying t = some (.array n e)) (he : P.underlying e = some .string) (hce : P.cellsOf e = 1) (hct : P.cellsOf t = n)
    (h : DataW.trod enc P w base sp held fuel t cs = some (.agg (ss.map fun s => .lit (.string s)), p)) : cs = ss.map fun s => Value.string ⟨⟨s⟩⟩ := by
  cases fuel with
  | zero => simp [DataW.trod] at h
  | succ fuel =>
    simp only [DataW.trod, ht, hce, hct, Nat.mul_one] at h
    split at h
    · obtain ⟨xs, hm, hx⟩ := Option.map_eq_some_iff.1 h
      have hxs : xs.map (·.1) = ss.map fun s => (DataW.lit (.string s) : DataW H) := by
        have := congrArg Prod.fst hx
        simpa using this
      have hxl : xs.length = n := by simpa using Lib.mapM_length hm
      have hzl : ss.length = n := by
        have := congrArg List.length hxs
        simp at this
        omega
      apply List.ext_getElem?
      intro i
      by_cases hi : i < n
      · obtain ⟨b, hb, hf⟩ := Lib.mapM_at hm i i (by simp [hi])
        obtain ⟨s, hc, rfl, _⟩ := DataW.trod_string he hf
        have h1 : cs[i]? = some (.string s) := by
          have := congrArg (·[0]?) hc
          simpa [List.getElem?_take, List.getElem?_drop] using this
        have h2 : (xs.map (·.1))[i]? = some (DataW.lit (.string s.data.toList) : DataW H) := by simp [hb]
        rw [hxs] at h2
        simp only [List.getElem?_map, Option.map_eq_some_iff, DataW.lit.injEq, Lit.string.injEq] at h2
        obtain ⟨z', hz', e2⟩ := h2
        rw [h1, List.getElem?_map, hz', e2]
        rfl
      · rw [List.getElem?_eq_none (by omega), List.getElem?_eq_none (by simp; omega)]
    · cases h
theorem strs_of_head {P : Program} {W : World} {name : String} {ss : List (List UInt8)} {rest : List (String × DataW Unit)} {g : Nat} {t e : TypeId} {n : Nat}
    (hg : P.globalNamed name = some g) (hty : (P.globals[g]?).map (·.type) = some t) (ht : P.underlying t = some (.array n e)) (he : P.underlying e = some .string) (hce : P.cellsOf e = 1) (hct : P.cellsOf t = n)
    (h : laidMet P ((name, .agg (ss.map fun s => .lit (.string s))) :: rest) W) : ∃ c e fz, W.heap[g]? = some (.cells c e fz) ∧ c.toList = ss.map fun s => Value.string ⟨⟨s⟩⟩ := by
  obtain ⟨ps, ⟨g', t', cs, fuel, p, q, hg', ht', hvar, hd, _, _⟩, _⟩ := h
  obtain rfl := Option.some.inj (hg.symm.trans hg')
  obtain rfl := Option.some.inj (hty.symm.trans ht')
  have hc := cells_of_strs ht he hce hct hd
  simp only [World.var?, hg, Option.bind_some] at hvar
  split at hvar
  · rename_i cs' e' z hb
    cases hvar
    exact ⟨_, _, _, hb, hc⟩
  · cases hvar
end Go.Proofs.YtbmcbbmgdcbhjaaGreatDoor.St

/- The first heap of the machine that reckons: tables that a row lists. It names no program. -/
noncomputable section
namespace Go.Proofs.YtbmcbbmgdcbhjaaGreatDoor.St
open Go Go.ChangeShapes Go.WideShapes Go.Deep
abbrev Tab := Nat × List AV
def putT : List Tab → Nat → Tr AO → Tr AO
  | [], _, t => t
  | x :: r, i, t => putT r (i + 1) (t.put (some (.c x.2 none true 0)) dep i)
def heapT (tabs : List Tab) : AH := ⟨putT tabs 0 .lf, tabs.length⟩
def gmT : List Tab → Nat → Nat → Option Nat
  | [], _, _ => none
  | x :: r, i, h => bif Nat.beq h x.1 then some i else gmT r (i + 1) h
def rhoT (tabs : List Tab) (cs : List Value) : Rho :=
  { at_ := fun n => (tabs[n]?).map fun x => ⟨x.1, 0, 0⟩, oi := fun i => valI cs[i]?, ob := fun i => valB cs[i]?, os := fun i => valS cs[i]?, rd := fun _ _ => False, bs := fun _ _ => False }
/-- A variable holds this table. -/
def TabOk (w : World) (x : Tab) : Prop := ∃ c e fz, w.heap[x.1]? = some (.cells c e fz) ∧ ∀ ρ, embL ρ x.2 = some c.toList
theorem putT_get : ∀ (tabs : List Tab) (i : Nat) (t : Tr AO) (n : Nat), i + tabs.length ≤ tmax → (putT tabs i t).get n = if i ≤ n ∧ n < i + tabs.length then (tabs[n - i]?).map fun x => .c x.2 none true 0 else t.get n
  | [], i, t, n, _ => by rw [if_neg (by simp only [List.length_nil]; omega)]; rfl
  | x :: r, i, t, n, h => by
    simp only [List.length_cons] at h
    have hi : Nat.blt i tmax = true := by rw [Nat.blt_eq]; omega
    show (putT r (i + 1) _).get n = _
    rw [putT_get r (i + 1) _ n (by omega), Tr.get_dep _ _ hi]
    simp only [List.length_cons]
    by_cases h1 : i + 1 ≤ n ∧ n < i + 1 + r.length
    · rw [if_pos h1, if_pos (by omega), show n - i = (n - (i + 1)) + 1 by omega]; rfl
    · rw [if_neg h1]
      by_cases h2 : n = i
      · subst h2; rw [if_pos rfl, if_pos (by omega), Nat.sub_self]; rfl
      · rw [if_neg h2, if_neg (by omega)]
theorem gmT_at : ∀ (tabs : List Tab) (i h n : Nat), gmT tabs i h = some n → i ≤ n ∧ (tabs[n - i]?).map (·.1) = some h
  | [], _, _, _, e => by cases e
  | x :: r, i, h, n, e => by
    unfold gmT at e
    cases hb : Nat.beq h x.1 with
    | true => rw [hb] at e; cases e; exact ⟨Nat.le_refl _, by rw [Nat.sub_self, (beq_iff _ _).1 hb]; rfl⟩
    | false =>
      rw [hb] at e
      obtain ⟨h1, h2⟩ := gmT_at r (i + 1) h n e
      exact ⟨by omega, by rw [show n - i = (n - (i + 1)) + 1 by omega]; exact h2⟩
theorem repT {tabs : List Tab} {cs : List Value} {w : World} (hn : (tabs.map (·.1)).Nodup) (hl : tabs.length ≤ tmax) (h : ∀ x ∈ tabs, TabOk w x) : Rep w (rhoT tabs cs) (heapT tabs) w ∧ GmR (rhoT tabs cs) (gmT tabs 0) := by
  have hg : ∀ {n : Nat} {o : AO}, (heapT tabs).get n = some o → ∃ x, tabs[n]? = some x ∧ o = .c x.2 none true 0 := fun {n o} e => by
    simp only [heapT, AH.get] at e
    rw [putT_get _ _ _ _ (by omega)] at e
    by_cases hc : 0 ≤ n ∧ n < 0 + tabs.length
    · rw [if_pos hc, Nat.sub_zero] at e
      obtain ⟨x, hx, rfl⟩ := Option.map_eq_some_iff.1 e
      exact ⟨x, hx, rfl⟩
    · rw [if_neg hc] at e; cases e
  have hat : ∀ {n : Nat} {q : Pl}, (rhoT tabs cs).at_ n = some q → ∃ x, tabs[n]? = some x ∧ q = ⟨x.1, 0, 0⟩ := fun {n q} e => by
    obtain ⟨x, hx, rfl⟩ := Option.map_eq_some_iff.1 e; exact ⟨x, hx, rfl⟩
  refine ⟨⟨fun n o e => ?_, fun n q e => ?_, hl, fun n o j e ej => ?_, fun i j o o' q q' hi hj qi qj hij _ k hk hk' => ?_, fun i o q e _ hro => ?_, Mod.refl _ _⟩, fun k n e => ?_⟩
  · obtain ⟨x, hx, rfl⟩ := hg e
    obtain ⟨c, t, fz, h1, h2⟩ := h x (List.mem_of_getElem? hx)
    exact ⟨⟨x.1, 0, 0⟩, by simp [rhoT, hx], c, t, fz, h1, (fun h => by cases h), by simp, c.toList, h2 _, by simp, fun k v hk => by simpa using hk⟩
  · obtain ⟨x, hx, _⟩ := hat e; exact (List.getElem?_eq_some_iff.1 hx).1
  · obtain ⟨x, hx, rfl⟩ := hg e; cases ej
  · obtain ⟨x, hx, rfl⟩ := hg hi
    obtain ⟨y, hy, rfl⟩ := hg hj
    obtain ⟨x', hx', rfl⟩ := hat qi
    obtain ⟨y', hy', rfl⟩ := hat qj
    obtain rfl := Option.some.inj (hx.symm.trans hx')
    obtain rfl := Option.some.inj (hy.symm.trans hy')
    rcases hk with hk | ⟨hk, _⟩
    · rcases hk' with hk' | ⟨hk', _⟩
      · have e : x.1 = y.1 := hk.symm.trans hk'
        obtain ⟨li, ei⟩ := List.getElem?_eq_some_iff.1 hx
        obtain ⟨lj, ej⟩ := List.getElem?_eq_some_iff.1 hy
        have := (List.getElem_inj (h₀ := (by simpa using li)) (h₁ := (by simpa using lj)) hn).1 (by simp only [List.getElem_map, ei, ej]; exact e)
        exact hij this
      · cases hk'
    · cases hk
  · obtain ⟨x, hx, rfl⟩ := hg e; cases hro
  · obtain ⟨_, h2⟩ := gmT_at _ _ _ _ e
    rw [Nat.sub_zero] at h2
    obtain ⟨x, hx, rfl⟩ := Option.map_eq_some_iff.1 h2
    exact ⟨0, by simp [rhoT, hx]⟩
theorem opq_at {tabs : List Tab} {ks : List CT} {cs all : List Value} (i : Nat) (ho : okOp ks = true) (h : okCs ks cs) (ha : ∀ j v, cs[j]? = some v → all[i + j]? = some v) : embL (rhoT tabs all) (opqL ks i) = some cs :=
  opq_emb i ho h fun j v hj => by simp [rhoT, ha j v hj]
theorem tab_strs {w : World} {g : Nat} {ss : List (List UInt8)} (h : ∃ c e fz, w.heap[g]? = some (.cells c e fz) ∧ c.toList = ss.map fun s => Value.string ⟨⟨s⟩⟩) : TabOk w (g, ss.map .s) :=
  let ⟨c, e, fz, h1, h2⟩ := h
  ⟨c, e, fz, h1, fun ρ => by rw [h2]; exact embL_map (fun _ => rfl) ss⟩
theorem tab_ints {P : Program} {w : World} {nm : String} {k : IntKind} {zs : List Int} {g : Nat} (h : Lib.TabIs P w nm k zs) (hg : P.globalNamed nm = some g) : TabOk w (g, zs.map (.i k)) := by
  unfold Lib.TabIs at h
  simp only [World.var?, hg, Option.bind_some] at h
  split at h
  · rename_i cs e z hb
    refine ⟨_, _, _, hb, fun ρ => ?_⟩
    have := Option.some.inj h
    rw [this]
    exact embL_map (fun _ => rfl) zs
  · cases h
end Go.Proofs.YtbmcbbmgdcbhjaaGreatDoor.St

/- Short words for what formulas say often. -/
namespace Go.Proofs.YtbmcbbmgdcbhjaaGreatDoor
open Go Go.Proofs.YtbmcbbmgdcbhjaaGreatDoor.St
abbrev RT := Value → World → Prop
section
variable (w : World) (a : Addr) (p : Option Addr) (k : Nat)
abbrev ldI (K : Int → Prop) : Prop := ∃ x, w.cell? a = some (.int .i64 x) ∧ K x
abbrev ldL (K : Option Addr → Nat → Nat → Prop) : Prop := ∃ x l c, w.cell? a = some (.slice x l c) ∧ K x l c
abbrev ixA (i n : Int) (K : Addr → Prop) : Prop := ∃ a, p = some a ∧ 0 ≤ i ∧ i < n ∧ K a
abbrev nwb (cs : List Value) (t : TypeId) (K : World → Prop) : Prop := atW (w.alloc (.cells ⟨cs⟩ t (0, 0))) K
abbrev box (z : Value) (t : TypeId) (v : Value) (K : World → Prop) : Prop := atW (w.alloc (.cells ⟨[z]⟩ t (0, 0))) fun w' => st1 (Addr.add ⟨w.heap.size, 0, none⟩ 0) v w' K
end
section
variable (n : Nat) (xs : List Value) (w : World)
abbrev cB (K : Bool → World → Prop) : Prop := Ca Tryz.prog n ⟨xs⟩ w fun v w' => ∃ x, v = .bool x ∧ K x w'
abbrev app (t : TypeId) (x y : Value) (K : Option Addr → Nat → Nat → World → Prop) : Prop := ∃ v w', (Builtin.append_ ⟨[t, t]⟩ t ⟨[x, y]⟩).run Tryz.prog w = .ok v w' ∧ ∃ p l c, v = .slice p l c ∧ K p l c w'
end
end Go.Proofs.YtbmcbbmgdcbhjaaGreatDoor

/- The formulas of functions, printed by a program of mine (gen.py) out of the translation. -/
namespace Go.Proofs.YtbmcbbmgdcbhjaaGreatDoor
open Go Go.Proofs.YtbmcbbmgdcbhjaaGreatDoor.St
open _root_.Go.Value (string int bool slice pointer agg tuple map func nilFunc iface)
open _root_.Go.World (cell? frozen? setCell alloc drew)
open _root_.Go.Addr (add)
open _root_.Go.Obj (cells)
open _root_.Go.IntKind (wrap i64 u64 i32 u32 u8)
set_option maxRecDepth 100000

def pl30 : Nat → Plan := fun _ => .done
def ls30 : Nat → List (Nat × LT)
  | 6 => [(34, (.one (.int .i64)))]
  | 15 => [(63, (.one (.int .i64)))]
  | _ => []
def W30 (t0 : Int) (t1a : Option Addr) (t1l : Nat) (t1c : Nat) (t2 : Int) (w : World) (R : RT) : Prop :=
  nwb w [int i64 t0, slice t1a t1l t1c, int i64 t2] 35 fun w0 => ldI w0 (add (nw w) 0) fun x1 => (ifK (decide (x1 < 1)) (R (bool false) w0) <| ldI w0 (add (nw w) 0) fun x2 => (ifK (decide (x2 > 8)) (R (bool false) w0) <| ldI w0 (add (nw w) 2) fun x3 => (ifK (decide (x3 < 0)) (R (bool false) w0) <| ldI w0 (add (nw w) 2) fun x4 => (ifK (decide (x4 > 8)) (R (bool false) w0) <| ldL w0 (add (nw w) 1) fun
  p5 n6 n7 => (ifK (decide ((n6 : Int) > 64)) (R (bool false) w0) <| ldL w0 (add (nw w) 1) fun p8 n9 n10 => ∃ z11 : Int → World → Prop, ∃ z12 : Int → World → Nat, z11 0 w0 ∧ ∀ (_ : Nat → Value) (x14 : Int) (w15 : World), z11 x14 w15 → (ifK (decide (x14 < (n9 : Int))) (ixA p8 x14 n9 fun a16 => ldI w15 (add (add a16 (Int.toNat x14 * 2)) 0) fun x17 => ldI w15 (add (add a16 (Int.toNat x14 * 2)) 1) fun
  x18 => nwb w15 [int i64 0, int i64 0] 82 fun w19 => st1 (add (nw w15) 0) (int i64 x17) w19 fun w21 => st1 (add (nw w15) 1) (int i64 x18) w21 fun w23 => ldI w23 (add (nw w) 0) fun x24 => ldL w23 (add (nw w) 1) fun p25 n26 n27 => ldI w23 (add (nw w) 2) fun x28 => ldI w23 (add (nw w15) 0) fun x29 => cB 112 [agg ⟨[int i64 x24, slice p25 n26 n27, int i64 x28]⟩, int i64 x29] w23 fun b32 w31 => (ifK
  (!b32) (R (bool false) w31) <| ldI w31 (add (nw w) 0) fun x33 => ldL w31 (add (nw w) 1) fun p34 n35 n36 => ldI w31 (add (nw w) 2) fun x37 => ldI w31 (add (nw w15) 1) fun x38 => cB 112 [agg ⟨[int i64 x33, slice p34 n35 n36, int i64 x37]⟩, int i64 x38] w31 fun b41 w40 => (ifK (!b41) (R (bool false) w40) <| ldI w40 (add (nw w15) 0) fun x42 => ldI w40 (add (nw w15) 1) fun x43 => (ifK (x42 == x43) (R
  (bool false) w40) <| ldL w40 (add (nw w) 1) fun p44 n45 n46 => (0 : Int) ≤ 0 ∧ 0 ≤ x14 ∧ (x14 : Int) ≤ (n46 : Int) ∧ ∃ z47 : Int → World → Prop, ∃ z48 : Int → World → Nat, z47 0 w40 ∧ ∀ (_ : Nat → Value) (x50 : Int) (w51 : World), z47 x50 w51 → (ifK (decide (x50 < (↑(Int.toNat x14 - 0) : Int))) (∃ a52 : Addr, (if n46 = 0 then p44 else Option.map (fun x => add x 0) p44) = some a52 ∧ 0 ≤ x50 ∧ x50 <
  (↑(Int.toNat x14 - 0) : Int) ∧ ldI w51 (add (add a52 (Int.toNat x50 * 2)) 0) fun x53 => ldI w51 (add (add a52 (Int.toNat x50 * 2)) 1) fun x54 => nwb w51 [int i64 0, int i64 0] 82 fun w55 => st1 (add (nw w51) 0) (int i64 x53) w55 fun w57 => st1 (add (nw w51) 1) (int i64 x54) w57 fun w59 => ldI w59 (add (nw w51) 0) fun x60 => ldI w59 (add (nw w51) 1) fun x61 => ldI w59 (add (nw w15) 0) fun x62 => ldI
  w59 (add (nw w15) 1) fun x63 => eqA Tryz.prog 82 (agg ⟨[int i64 x60, int i64 x61]⟩) (agg ⟨[int i64 x62, int i64 x63]⟩) (w59) (fun b64 => (fun w65 => (ifK (b64) (R (bool false) (w65)) ((z47 (wrap i64 (x50 + 1)) (w65)) ∧ (z48 (wrap i64 (x50 + 1)) w65 < z48 x50 w51)))))) <| z11 (wrap i64 (x14 + 1)) w51 ∧ z12 (wrap i64 (x14 + 1)) w51 < z12 x14 w15))))) <| R (bool true) w15))))))
theorem ca30 (t0 : Int) (t1a : Option Addr) (t1l : Nat) (t1c : Nat) (t2 : Int) (w : World) (R : RT) (h : W30 t0 t1a t1l t1c t2 w R) : Ca Tryz.prog 30 ⟨[(.agg ⟨[(.int .i64 t0), (.slice t1a t1l t1c), (.int .i64 t2)]⟩)]⟩ w R :=
  caB (fn := Tryz.f30) (pl := pl30) (ls := ls30) Tryz.func30 (by kernel_rfl) (by kernel_rfl) h

def pl112 : Nat → Plan := fun _ => .done
def ls112 : Nat → List (Nat × LT) := fun _ => []
def W112 (t0 : Int) (t1a : Option Addr) (t1l : Nat) (t1c : Nat) (t2 : Int) (n : Int) (w : World) (R : RT) : Prop :=
  nwb w [int i64 t0, slice t1a t1l t1c, int i64 t2] 35 fun w0 => ifK (decide (n ≥ 1)) (ldI w0 (add (nw w) 0) fun x1 => R (bool (decide (n ≤ x1))) w0) <| R (bool false) w0
theorem ca112 (t0 : Int) (t1a : Option Addr) (t1l : Nat) (t1c : Nat) (t2 : Int) (n : Int) (w : World) (R : RT) (h : W112 t0 t1a t1l t1c t2 n w R) : Ca Tryz.prog 112 ⟨[(.agg ⟨[(.int .i64 t0), (.slice t1a t1l t1c), (.int .i64 t2)]⟩), (.int .i64 n)]⟩ w R :=
  caB (fn := Tryz.f112) (pl := pl112) (ls := ls112) Tryz.func112 (by kernel_rfl) (by kernel_rfl) h
end Go.Proofs.YtbmcbbmgdcbhjaaGreatDoor

/- Short steps through formulas. It names no program. -/
namespace Go.Proofs.YtbmcbbmgdcbhjaaGreatDoor.St
open Go
section
variable {w : World} {cs cs' : Array Value} {e : TypeId} {fz : Nat × Nat} {b i j : Nat}
theorem nwb_of {l : List Value} {K : World → Prop} (h : ∀ w', Mod no w w' → w'.heap[w.heap.size]? = some (.cells ⟨l⟩ e (0, 0)) → K w') : nwb w l e K := fun w' h' => by subst h'; exact h _ (Mod.alloc _ _) (new_at _ _)
theorem ld_of {α : Type} {f : α → Value} {x : α} {K : α → Prop} (hb : w.heap[b]? = some (.cells cs e fz)) (hi : cs[i]? = some (f x)) (k : K x) : ∃ x, w.cell? (Addr.add ⟨b, 0, none⟩ i) = some (f x) ∧ K x := ⟨x, by rw [cl1 hb]; exact hi, k⟩
theorem ldL_of {x : Option Addr} {l c : Nat} {K : Option Addr → Nat → Nat → Prop} (hb : w.heap[b]? = some (.cells cs e fz)) (hi : cs[i]? = some (.slice x l c)) (k : K x l c) : ∃ x l c, w.cell? (Addr.add ⟨b, 0, none⟩ i) = some (.slice x l c) ∧ K x l c := ⟨x, l, c, by rw [cl1 hb]; exact hi, k⟩
theorem st_of {v : Value} {K : World → Prop} (hb : w.heap[b]? = some (.cells cs e (0, 0))) (hs : cs.setIfInBounds i v = cs') (h : ∀ w', Mod (on b) w w' → w'.heap[b]? = some (.cells cs' e (0, 0)) → K w') (hi : i < cs.size := by simp) : st1 (Addr.add ⟨b, 0, none⟩ i) v w K :=
  ⟨⟨cs[i], by rw [cl1 hb]; simp [hi]⟩, by rw [add_lit]; simp [World.frozen?, hb], fun w' h' => by subst h'; exact h _ (Mod.set1 _ _ _ _) (by rw [set1 hb, hs])⟩
/-- A new block is written: nothing that was there moves. -/
theorem st_new {w0 : World} {v : Value} {K : World → Prop} (hb : w.heap[b]? = some (.cells cs e (0, 0))) (hs : cs.setIfInBounds i v = cs') (hm : Mod no w0 w) (hn : w0.heap.size ≤ b) (h : ∀ w', Mod no w0 w' → w'.heap[b]? = some (.cells cs' e (0, 0)) → Mod (on b) w w' → K w') (hi : i < cs.size := by simp) : st1 (Addr.add ⟨b, 0, none⟩ i) v w K :=
  st_of hb hs (fun w' h1 h2 => h w' (hm.new h1 fun k hk => by cases hk; exact hn) h2 h1) hi
end
end Go.Proofs.YtbmcbbmgdcbhjaaGreatDoor.St

/- Edges and topologies as plain data. It names no program. -/
namespace Go.Proofs.YtbmcbbmgdcbhjaaGreatDoor.St
open Go
abbrev Edg := Int × Int
def edgCs (e : Edg) : List Value := [.int .i64 e.1, .int .i64 e.2]
def edgL : Lay Edg := ⟨edgCs, 2, by decide, fun _ => rfl, fun x v h => by
  simp only [edgCs, List.mem_cons, List.not_mem_nil, or_false] at h
  rcases h with rfl | rfl <;> rfl⟩
abbrev topV (s : Int) (a : Option Addr) (l c : Nat) (h : Int) : Value := .agg ⟨[.int .i64 s, .slice a l c, .int .i64 h]⟩
theorem Edg.inj {a b : Edg} (h : edgCs a = edgCs b) : a = b := by
  simp only [edgCs, List.cons.injEq, Value.int.injEq, true_and, and_true] at h
  exact Prod.ext h.1 h.2
end Go.Proofs.YtbmcbbmgdcbhjaaGreatDoor.St

/- The reference's topo.Good, at any topology: it tells yes or no, and changes nothing. -/
namespace Go.Proofs.YtbmcbbmgdcbhjaaGreatDoor
open Go Go.Proofs.YtbmcbbmgdcbhjaaGreatDoor.St
section
variable {t0 t2 : Int} {a : Option Addr} {l c : Nat} {xs : List Edg} {w : World}
theorem siteR_ok {n : Int} (R : Value → World → Prop) (h : ∀ w', Mod no w w' → R (.bool (decide (n ≥ 1) && decide (n ≤ t0))) w') : Ca Tryz.prog 112 ⟨[topV t0 a l c t2, .int .i64 n]⟩ w R :=
  ca112 _ _ _ _ _ _ _ _ (nwb_of fun w0 m0 b0 => ifK_of (fun h1 => ld_of b0 rfl (by have := h w0 m0; rwa [h1] at this)) fun h1 => by have := h w0 m0; rwa [h1] at this)
theorem goodR_any (hr : ArgRow edgL w a l c xs) (R : Value → World → Prop) (h : ∀ w' b, Mod no w w' → R (.bool b) w') : Ca Tryz.prog 30 ⟨[topV t0 a l c t2]⟩ w R := by
  refine ca30 _ _ _ _ _ _ _ (nwb_of fun w0 m0 b0 => ld_of b0 rfl <| ifK_of (fun _ => h _ _ m0) fun _ => ld_of b0 rfl <| ifK_of (fun _ => h _ _ m0) fun _ => ld_of b0 rfl <| ifK_of (fun _ => h _ _ m0) fun _ => ld_of b0 rfl <| ifK_of (fun _ => h _ _ m0) fun _ => ldL_of b0 rfl <| ifK_of (fun _ => h _ _ m0) fun _ => ldL_of b0 rfl ?_)
  refine ⟨fun x w' => ∃ i : Nat, x = i ∧ i ≤ l ∧ Mod no w0 w', fun x _ => l - x.toNat, ⟨0, rfl, Nat.zero_le _, Mod.refl _ _⟩, ?_⟩
  rintro _ _ w1 ⟨i, rfl, hi, m1⟩
  have hlc := hr.lc; have hcm := hr.cm
  refine ifK_of (fun hlt => ?_) fun _ => h _ _ (m0.trans m1)
  have hil : i < l := by simpa using hlt
  have hr1 := hr.no (m0.trans m1)
  obtain ⟨ad, had, hg⟩ := hr1.get i (by rw [hr1.len]; exact hil)
  refine ⟨ad, had, by omega, by omega, _, hg 0 _ rfl, _, hg 1 _ rfl, nwb_of fun w2 m2 b2 => st_new b2 rfl m2 (Nat.le_refl _) fun w3 m3 b3 _ => st_new b3 rfl m3 (Nat.le_refl _) fun w4 m4 b4 _ => ?_⟩
  have m04 := m1.trans m4
  have c0 := m04.at' b0
  refine ld_of c0 rfl <| ldL_of c0 rfl <| ld_of c0 rfl <| ld_of b4 rfl <| siteR_ok _ fun w5 m5 => ⟨_, rfl, ifK_of (fun _ => h _ _ ((m0.trans m04).trans m5)) fun _ => ?_⟩
  have c0 := m5.at' c0
  have b5 := m5.at' b4
  refine ld_of c0 rfl <| ldL_of c0 rfl <| ld_of c0 rfl <| ld_of b5 rfl <| siteR_ok _ fun w6 m6 => ⟨_, rfl, ifK_of (fun _ => h _ _ (((m0.trans m04).trans m5).trans m6)) fun _ => ?_⟩
  have c0 := m6.at' c0
  have b6 := m6.at' b5
  have m06 := (m04.trans m5).trans m6
  refine ld_of b6 rfl <| ld_of b6 rfl <| ifK_of (fun _ => h _ _ (m0.trans m06)) fun _ => ldL_of c0 rfl ⟨by omega, by omega, by have := hr.lc; omega, ?_⟩
  refine ⟨fun x w' => ∃ k : Nat, x = k ∧ k ≤ i ∧ Mod no w6 w', fun x _ => i - x.toNat, ⟨0, rfl, Nat.zero_le _, Mod.refl _ _⟩, ?_⟩
  rintro _ _ w7 ⟨k, rfl, hk, m7⟩
  refine ifK_of (fun hlt => ?_) fun _ => ⟨⟨i + 1, (by first | (simp only [IntKind.wrap_i64]; omega) | omega), hil, m06.trans m7⟩, by simp only [IntKind.wrap_i64]; omega⟩
  have hki : k < i := by simpa using hlt
  have m07 := m06.trans m7
  have hr7 := hr.no (m0.trans m07)
  obtain ⟨ad', had', hg'⟩ := hr7.get k (by rw [hr7.len]; omega)
  obtain rfl : ad' = ad := Option.some.inj (had'.symm.trans had)
  refine ⟨_, (by rw [if_neg (by have := hr.lc; omega), had]; rfl), by omega, by omega, _, hg' 0 _ rfl, _, hg' 1 _ rfl, nwb_of fun w8 m8 b8 => st_new b8 rfl m8 (Nat.le_refl _) fun w9 m9 b9 _ => st_new b9 rfl m9 (Nat.le_refl _) fun w10 m10 b10 _ => ?_⟩
  have b60 := (m7.trans m10).at' b6
  refine ld_of b10 rfl <| ld_of b10 rfl <| ld_of b60 rfl <| ld_of b60 rfl <| eqA_in (xs := [.int .i64 _, .int .i64 _]) (ys := [.int .i64 _, .int .i64 _]) (ks := [.int .i64, .int .i64]) (by kernel_rfl) (by kernel_rfl) (by kernel_rfl) ⟨⟨_, rfl⟩, ⟨_, rfl⟩, trivial⟩ ⟨⟨_, rfl⟩, ⟨_, rfl⟩, trivial⟩ fun r _ => ifK_of (fun _ => h _ _ ((m0.trans m07).trans m10)) fun _ => ⟨⟨k + 1, (by first | (simp only [IntKind.wrap_i64]; omega) | omega), hki, m7.trans m10⟩, by simp only [IntKind.wrap_i64]; omega⟩
end
end Go.Proofs.YtbmcbbmgdcbhjaaGreatDoor

/- A machine that reckons closed calls: calls that are told (maps.Clone). It names no program. -/
noncomputable section
namespace Go.Proofs.YtbmcbbmgdcbhjaaGreatDoor.St
open Go
/-- maps.Clone. -/
def mclO (ags : List AV) (H : AH) : Outs :=
  match ags with
  | [.m n] => (getM H n).bind fun r => bif Nat.blt H.nx tmax then some [(.m H.nx, H.add (.m r.1 r.2))] else none
  | [.nm] => some [(.nm, H)]
  | _ => none
theorem mcl_ok {P : Program} {g : Nat} (hr : ∀ args w, (callFunc g args).run P w = .ok (.enter g args) w)
    (hcl : ∀ (b : Nat) (es : Array MapEntry) (clock : Nat) (w : World), w.heap[b]? = some (.map es clock) → Calls P g #[.map (some b)] w fun e w' => e = .returned (.map (some w.heap.size)) ∧ w' = w.alloc (.map es clock))
    (h0 : ∀ w, Calls P g #[.map none] w fun e w' => e = .returned (.map none) ∧ w' = w) {B : World} {ρ : Rho} {H : AH} {w : World} (hR : Rep B ρ H w) {args : List AV} {outs : List (AV × AH)} {args' : List Value} (h : mclO args H = some outs)
    (ha : embL ρ args = some args') {K : Value → World → Prop} (hK : AllK B ρ outs K) : Ca P g ⟨args'⟩ w K := by
  unfold mclO at h
  split at h
  · rename_i n
    obtain ⟨⟨es, ck⟩, hg, h⟩ := Option.bind_eq_some_iff.1 h
    obtain ⟨hc, h⟩ := Conds.of h
    cases h
    obtain ⟨x, r, hx, hr', rfl⟩ := embL_cons.1 ha
    obtain rfl := embL_nil.1 hr'
    simp only [emb, Option.map_eq_some_iff] at hx
    obtain ⟨q, hq, rfl⟩ := hx
    unfold getM at hg
    split at hg
    · rename_i hgn
      cases hg
      obtain ⟨q', hq', ho⟩ := hR.ok _ _ hgn
      obtain rfl := Option.some.inj (hq.symm.trans hq')
      obtain ⟨xs, hb, hE⟩ := ho
      refine ⟨hr _, (hcl _ _ _ w hb).mono fun e w' ⟨h1, h2⟩ => ?_⟩
      subst h1 h2
      have hle := Rho.ext_le (q := ⟨w.heap.size, 0, 0⟩) (rd := fun _ => False) (bs := fun _ => False) hR.none_at
      refine ⟨_, rfl, hK _ (List.mem_singleton.2 rfl) (ρ.ext H.nx ⟨w.heap.size, 0, 0⟩ (fun _ => False) (fun _ => False)) _ _ hle (hR.add (Mod.alloc _ _) hc rfl ⟨xs, new_at _ _, hE.mono hle⟩ fun k hk => ?_) ?_⟩
      · rcases hk with h | ⟨h, _⟩
        · rw [h]; exact Nat.le_refl _
        · cases h
      · simp only [emb, Rho.ext_at]; rfl
    · cases hg
  · cases h
    obtain ⟨x, r, hx, hr', rfl⟩ := embL_cons.1 ha
    obtain rfl := embL_nil.1 hr'
    cases hx
    refine ⟨hr _, (h0 w).mono fun e w' ⟨h1, h2⟩ => ?_⟩
    subst h1 h2
    exact ⟨_, rfl, hK _ (List.mem_singleton.2 rfl) ρ _ _ (Rho.le.refl _) hR rfl⟩
  · cases h
end Go.Proofs.YtbmcbbmgdcbhjaaGreatDoor.St

/- The library's maps.Clone of one type of maps, told for the machine that reckons. -/
namespace Go.Proofs.YtbmcbbmgdcbhjaaGreatDoor.St
open Go
theorem run_eqlIn_map {P : Program} (w : World) (d : Nat) (t k e : TypeId) (p : Option Nat) (h : P.underlying t = some (.map k e)) : (Op.equalIn (d + 1) t (.map p) (.map none)).run P w = .ok p.isNone w := by
  cases p <;> simp [Op.equalIn, run_underlying h]
theorem run_eql_map {P : Program} (w : World) (t k e : TypeId) (p : Option Nat) (h : P.underlying t = some (.map k e)) : (binOp .eql t (.map p) (.map none)).run P w = .ok (.bool p.isNone) w := by
  simp only [binOp]
  simp [show Op.equal t (.map p) (.map none) = Op.equalIn (9999 + 1) t (.map p) (.map none) from rfl, run_eqlIn_map w 9999 t k e p h]
theorem run_assert_map {P : Program} (w : World) (t xT k e : TypeId) (v : Value) (h : P.underlying t = some (.map k e)) : (Instr.typeAssert (.iface t v) xT t false).run P w = .ok v w := by
  simp [Instr.typeAssert, run_underlying h, go_sem, Result.andThen]
theorem run_clone {P : Program} (w : World) {r : Nat} {es : Array MapEntry} {clock : Nat} (t : TypeId) (hb : w.heap[r]? = some (.map es clock)) :
    (Extern.MapsClone.clone #[.iface t (.map (some r))]).run P w = .ok (.iface t (.map (some w.heap.size))) (w.alloc (.map es clock)) := by
  have e : Extern.MapsClone.clone #[.iface t (.map (some r))] = (getObj r >>= fun o => match o with
      | .map entries clock => (newObj (.map entries clock) >>= fun n => pure (.iface t (.map (some n))))
      | _ => stuck "maps.clone: a map expected") := rfl
  rw [e]
  simp [MapKept.run_getObj_map hb, Result.andThen, go_sem]
end Go.Proofs.YtbmcbbmgdcbhjaaGreatDoor.St

/- maps.Clone, store.directory. -/
namespace Go.Proofs.YtbmcbbmgdcbhjaaGreatDoor
open Go Go.RowKit Go.Proofs.YtbmcbbmgdcbhjaaGreatDoor.St
set_option maxRecDepth 100000 in
set_option maxHeartbeats 2000000 in
theorem cloneD_calls (b : Nat) (es : Array MapEntry) (clock : Nat) (w : World) (hb : w.heap[b]? = some (.map es clock)) :
    Calls Tryz.prog 114 #[.map (some b)] w fun e w' => e = .returned (.map (some w.heap.size)) ∧ w' = w.alloc (.map es clock) := by
  have mixed : Tryz.prog.follows .mixedOrders = true := by kernel_rfl
  have t4 := Tryz.underlying4
  have t20 := Tryz.underlying20
  have tm := Tryz.underlying78
  have hq := fun w => run_eql_map (P := Tryz.prog) w 78 _ _ (some b) Tryz.underlying78
  go_enter Tryz.func114, Tryz.ntmps114
  go_wp2
  rw [run_callFunc_extern Tryz.func191 (by kernel_rfl) (by kernel_rfl) (by kernel_rfl) (e := Extern.MapsClone.clone) (by kernel_rfl), run_clone w 78 hb]
  simp only [Result.andThen]
  rw [Oper.upon_value]
  go_wp2
  rw [run_assert_map _ 78 20 _ _ _ Tryz.underlying78]
  simp only [Result.andThen]
  rw [Oper.upon_value]
  go_wp2
  go_ret
  exact ⟨rfl, rfl⟩
set_option maxRecDepth 100000 in
set_option maxHeartbeats 2000000 in
theorem cloneD_nil (w : World) : Calls Tryz.prog 114 #[.map none] w fun e w' => e = .returned (.map none) ∧ w' = w := by
  have mixed : Tryz.prog.follows .mixedOrders = true := by kernel_rfl
  have t4 := Tryz.underlying4
  have tm := Tryz.underlying78
  have hq := fun w => run_eql_map (P := Tryz.prog) w 78 _ _ none Tryz.underlying78
  go_enter Tryz.func114, Tryz.ntmps114
  go_wp2
  go_ret
  exact ⟨rfl, rfl⟩
theorem cloneD_run (args : Array Value) (w : World) : (callFunc 114 args).run Tryz.prog w = .ok (.enter 114 args) w :=
  callFunc_run (c := (Tryz.f114.body).getD .skip) Tryz.func114 (by kernel_rfl) (by kernel_rfl) _ w
end Go.Proofs.YtbmcbbmgdcbhjaaGreatDoor

/- maps.Clone, map[string]api.Exchange. -/
namespace Go.Proofs.YtbmcbbmgdcbhjaaGreatDoor
open Go Go.RowKit Go.Proofs.YtbmcbbmgdcbhjaaGreatDoor.St
set_option maxRecDepth 100000 in
set_option maxHeartbeats 2000000 in
theorem cloneX_calls (b : Nat) (es : Array MapEntry) (clock : Nat) (w : World) (hb : w.heap[b]? = some (.map es clock)) :
    Calls Tryz.prog 128 #[.map (some b)] w fun e w' => e = .returned (.map (some w.heap.size)) ∧ w' = w.alloc (.map es clock) := by
  have mixed : Tryz.prog.follows .mixedOrders = true := by kernel_rfl
  have t4 := Tryz.underlying4
  have t20 := Tryz.underlying20
  have tm := Tryz.underlying213
  have hq := fun w => run_eql_map (P := Tryz.prog) w 213 _ _ (some b) Tryz.underlying213
  go_enter Tryz.func128, Tryz.ntmps128
  go_wp2
  rw [run_callFunc_extern Tryz.func191 (by kernel_rfl) (by kernel_rfl) (by kernel_rfl) (e := Extern.MapsClone.clone) (by kernel_rfl), run_clone w 213 hb]
  simp only [Result.andThen]
  rw [Oper.upon_value]
  go_wp2
  rw [run_assert_map _ 213 20 _ _ _ Tryz.underlying213]
  simp only [Result.andThen]
  rw [Oper.upon_value]
  go_wp2
  go_ret
  exact ⟨rfl, rfl⟩
set_option maxRecDepth 100000 in
set_option maxHeartbeats 2000000 in
theorem cloneX_nil (w : World) : Calls Tryz.prog 128 #[.map none] w fun e w' => e = .returned (.map none) ∧ w' = w := by
  have mixed : Tryz.prog.follows .mixedOrders = true := by kernel_rfl
  have t4 := Tryz.underlying4
  have tm := Tryz.underlying213
  have hq := fun w => run_eql_map (P := Tryz.prog) w 213 _ _ none Tryz.underlying213
  go_enter Tryz.func128, Tryz.ntmps128
  go_wp2
  go_ret
  exact ⟨rfl, rfl⟩
theorem cloneX_run (args : Array Value) (w : World) : (callFunc 128 args).run Tryz.prog w = .ok (.enter 128 args) w :=
  callFunc_run (c := (Tryz.f128.body).getD .skip) Tryz.func128 (by kernel_rfl) (by kernel_rfl) _ w
end Go.Proofs.YtbmcbbmgdcbhjaaGreatDoor

/- maps.Clone, map[api.Binding]struct {}. -/
namespace Go.Proofs.YtbmcbbmgdcbhjaaGreatDoor
open Go Go.RowKit Go.Proofs.YtbmcbbmgdcbhjaaGreatDoor.St
set_option maxRecDepth 100000 in
set_option maxHeartbeats 2000000 in
theorem cloneB_calls (b : Nat) (es : Array MapEntry) (clock : Nat) (w : World) (hb : w.heap[b]? = some (.map es clock)) :
    Calls Tryz.prog 129 #[.map (some b)] w fun e w' => e = .returned (.map (some w.heap.size)) ∧ w' = w.alloc (.map es clock) := by
  have mixed : Tryz.prog.follows .mixedOrders = true := by kernel_rfl
  have t4 := Tryz.underlying4
  have t20 := Tryz.underlying20
  have tm := Tryz.underlying215
  have hq := fun w => run_eql_map (P := Tryz.prog) w 215 _ _ (some b) Tryz.underlying215
  go_enter Tryz.func129, Tryz.ntmps129
  go_wp2
  rw [run_callFunc_extern Tryz.func191 (by kernel_rfl) (by kernel_rfl) (by kernel_rfl) (e := Extern.MapsClone.clone) (by kernel_rfl), run_clone w 215 hb]
  simp only [Result.andThen]
  rw [Oper.upon_value]
  go_wp2
  rw [run_assert_map _ 215 20 _ _ _ Tryz.underlying215]
  simp only [Result.andThen]
  rw [Oper.upon_value]
  go_wp2
  go_ret
  exact ⟨rfl, rfl⟩
set_option maxRecDepth 100000 in
set_option maxHeartbeats 2000000 in
theorem cloneB_nil (w : World) : Calls Tryz.prog 129 #[.map none] w fun e w' => e = .returned (.map none) ∧ w' = w := by
  have mixed : Tryz.prog.follows .mixedOrders = true := by kernel_rfl
  have t4 := Tryz.underlying4
  have tm := Tryz.underlying215
  have hq := fun w => run_eql_map (P := Tryz.prog) w 215 _ _ none Tryz.underlying215
  go_enter Tryz.func129, Tryz.ntmps129
  go_wp2
  go_ret
  exact ⟨rfl, rfl⟩
theorem cloneB_run (args : Array Value) (w : World) : (callFunc 129 args).run Tryz.prog w = .ok (.enter 129 args) w :=
  callFunc_run (c := (Tryz.f129.body).getD .skip) Tryz.func129 (by kernel_rfl) (by kernel_rfl) _ w
end Go.Proofs.YtbmcbbmgdcbhjaaGreatDoor

/- maps.Clone, map[uint64]api.Item. -/
namespace Go.Proofs.YtbmcbbmgdcbhjaaGreatDoor
open Go Go.RowKit Go.Proofs.YtbmcbbmgdcbhjaaGreatDoor.St
set_option maxRecDepth 100000 in
set_option maxHeartbeats 2000000 in
theorem cloneI_calls (b : Nat) (es : Array MapEntry) (clock : Nat) (w : World) (hb : w.heap[b]? = some (.map es clock)) :
    Calls Tryz.prog 133 #[.map (some b)] w fun e w' => e = .returned (.map (some w.heap.size)) ∧ w' = w.alloc (.map es clock) := by
  have mixed : Tryz.prog.follows .mixedOrders = true := by kernel_rfl
  have t4 := Tryz.underlying4
  have t20 := Tryz.underlying20
  have tm := Tryz.underlying228
  have hq := fun w => run_eql_map (P := Tryz.prog) w 228 _ _ (some b) Tryz.underlying228
  go_enter Tryz.func133, Tryz.ntmps133
  go_wp2
  rw [run_callFunc_extern Tryz.func191 (by kernel_rfl) (by kernel_rfl) (by kernel_rfl) (e := Extern.MapsClone.clone) (by kernel_rfl), run_clone w 228 hb]
  simp only [Result.andThen]
  rw [Oper.upon_value]
  go_wp2
  rw [run_assert_map _ 228 20 _ _ _ Tryz.underlying228]
  simp only [Result.andThen]
  rw [Oper.upon_value]
  go_wp2
  go_ret
  exact ⟨rfl, rfl⟩
set_option maxRecDepth 100000 in
set_option maxHeartbeats 2000000 in
theorem cloneI_nil (w : World) : Calls Tryz.prog 133 #[.map none] w fun e w' => e = .returned (.map none) ∧ w' = w := by
  have mixed : Tryz.prog.follows .mixedOrders = true := by kernel_rfl
  have t4 := Tryz.underlying4
  have tm := Tryz.underlying228
  have hq := fun w => run_eql_map (P := Tryz.prog) w 228 _ _ none Tryz.underlying228
  go_enter Tryz.func133, Tryz.ntmps133
  go_wp2
  go_ret
  exact ⟨rfl, rfl⟩
theorem cloneI_run (args : Array Value) (w : World) : (callFunc 133 args).run Tryz.prog w = .ok (.enter 133 args) w :=
  callFunc_run (c := (Tryz.f133.body).getD .skip) Tryz.func133 (by kernel_rfl) (by kernel_rfl) _ w
end Go.Proofs.YtbmcbbmgdcbhjaaGreatDoor
