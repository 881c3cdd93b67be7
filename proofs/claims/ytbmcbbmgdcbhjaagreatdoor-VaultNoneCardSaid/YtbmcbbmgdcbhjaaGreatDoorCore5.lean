/- My own walk: regions whose order Go leaves open. It names no program. -/
import Derived.Test.YtbmcbbmgdcbhjaaGreatDoorCore4
namespace Go.Proofs.YtbmcbbmgdcbhjaaGreatDoor.St
open Go

/-! ### Operations that hang on slots alone -/
def binP (P : Program) (op : BinOp) (t : TypeId) (x y : Value) (K : Value → Prop) : Prop :=
  match x, y with
  | .int k a, .int k' b => bif isShift op then shI op k a b K else bif sameK k k' then binI op k a b K else False
  | .string a, .string b => bif isShift op then False else binS op a b K
  | .pointer p, .pointer none => match P.underlying t with
    | some (.pointer _) => (match op with | .eql => K (.bool p.isNone) | .neq => K (.bool (!p.isNone)) | _ => False)
    | _ => False
  | .slice p _ _, .slice none _ _ => match P.underlying t with
    | some (.slice _) => (match op with | .eql => K (.bool p.isNone) | .neq => K (.bool (!p.isNone)) | _ => False)
    | _ => False
  | .map p, .map none => match P.underlying t with
    | some (.map _ _) => (match op with | .eql => K (.bool p.isNone) | .neq => K (.bool (!p.isNone)) | _ => False)
    | _ => False
  | .bool a, .bool b => match P.underlying t with
    | some .bool => (match op with | .eql => K (.bool (a == b)) | .neq => K (.bool (!(a == b))) | _ => False)
    | _ => False
  | _, _ => False

def lenP (P : Program) (t : TypeId) (x : Value) (K : Value → Prop) : Prop :=
  match P.underlying t, x with
  | some .string, .string s => K (.int .i64 s.size)
  | some (.slice _), .slice _ n _ => K (.int .i64 n)
  | _, _ => False

def pureW (P : Program) (op : Op) (f : Fr) (K : Value → Prop) : Prop :=
  match op with
  | .move x => K (ev f x)
  | .assign x => K (ev f x)
  | .pick c a b => (match ev f c with | .bool t => K (bif t then ev f a else ev f b) | _ => False)
  | .nilCheck x => (match ev f x with
    | .pointer p => onP p fun a => K (.pointer (some a))
    | .func (.func g) a b => K (.func (.func g) a b)
    | _ => False)
  | .fieldAddr s x i => fldAddr P s (ev f x) i K
  | .field s x i => fldW P s (ev f x) i K
  | .binOp o t x y _ => binP P o t (ev f x) (ev f y) K
  | .unOp o _ x => unW o (ev f x) K
  | .convert s d x => (match ev f x, P.underlying s, P.underlying d with
    | .int _ n, some _, some (.int k) => K (.int k (k.wrap n))
    | .string s, some _, some .string => K (.string s)
    | _, _, _ => False)
  | .makeFunc fn a b => K (.func fn ⟨a.toList.map (ev f)⟩ ⟨b.toList.map (ev f)⟩)
  | .slice t x lo hi mx => slW P t (ev f x) (lo.map (ev f)) (hi.map (ev f)) (mx.map (ev f)) K
  | .indexAddr t x i => ixaW P t (ev f x) (ev f i) K
  | .index t x i => (match P.underlying t, ev f x, ev f i with
    | some .string, .string s, .int _ n => 0 ≤ n ∧ n < s.size ∧ K (.int .u8 (byteAt s n.toNat))
    | _, _, _ => False)
  | .build t ps => bldW P t (ps.toList.map fun (i, x) => (i, ev f x)) K
  | .extract x i => (match ev f x with
    | .tuple vs => (match vs.toList[i]? with | some v => K v | none => False)
    | _ => False)
  | .call c => (match c.callee with
    | .builtin b => (match b, c.argTypes.toList, c.args.toList.map (ev f) with
      | .len, t :: _, x :: _ => lenP P t x K
      | .max, _, x :: rest => mmI true x rest K
      | .min, _, x :: rest => mmI false x rest K
      | _, _, _ => False)
    | _ => False)
  | _ => False

section
variable {P : Program}

theorem binP_W {op : BinOp} {t : TypeId} {x y : Value} {k : Value → Prop} (h : binP P op t x y k) :
    ∃ v, k v ∧ ∀ (w : World) (f g : Operand), (do eqGuard op t f g x y; binOp op t x y).run P w = .ok v w := by
  unfold binP at h
  split at h
  · rename_i kd a k' b
    cases hs : isShift op with
    | true =>
      obtain ⟨v, hk, hr⟩ := shI_run (P := P) (kd' := k') (cond_t hs h) t
      exact ⟨v, hk, fun w f g => run_guarded (by simp) (by simp) (hr w)⟩
    | false =>
      obtain ⟨he, h'⟩ := cond_tt (cond_f hs h)
      clear h
      obtain rfl := sameK_eq he
      obtain ⟨v, hk, hr⟩ := binI_run (P := P) h' hs t
      exact ⟨v, hk, fun w f g => run_guarded (by simp) (by simp) (hr w)⟩
  · obtain ⟨hs, h⟩ := cond_ff h
    obtain ⟨v, hk, hr⟩ := binS_run (P := P) h hs t
    exact ⟨v, hk, fun w f g => run_guarded (by simp) (by simp) (hr w)⟩
  · split at h
    · rename_i e hu
      split at h
      · exact ⟨_, h, fun w f g => run_guarded (by simp) (by simp) (by simp [binOp, equal_ptr_nil hu, Result.andThen])⟩
      · exact ⟨_, h, fun w f g => run_guarded (by simp) (by simp) (by simp [binOp, equal_ptr_nil hu, Result.andThen])⟩
      · exact h.elim
    · exact h.elim
  · split at h
    · rename_i e hu
      split at h
      · exact ⟨_, h, fun w f g => run_guarded (by simp) (by simp) (by simp [binOp, equal_slice_nil hu, Result.andThen])⟩
      · exact ⟨_, h, fun w f g => run_guarded (by simp) (by simp) (by simp [binOp, equal_slice_nil hu, Result.andThen])⟩
      · exact h.elim
    · exact h.elim
  · split at h
    · rename_i e hu
      split at h
      · exact ⟨_, h, fun w f g => run_guarded (by simp) (by simp) (by simp [binOp, equal_map_nil hu, Result.andThen])⟩
      · exact ⟨_, h, fun w f g => run_guarded (by simp) (by simp) (by simp [binOp, equal_map_nil hu, Result.andThen])⟩
      · exact h.elim
    · exact h.elim
  · split at h
    · rename_i hu
      split at h
      · exact ⟨_, h, fun w f g => run_guarded (by simp) (by simp) (by simp [binOp, equal_bool hu, Result.andThen])⟩
      · exact ⟨_, h, fun w f g => run_guarded (by simp) (by simp) (by simp [binOp, equal_bool hu, Result.andThen])⟩
      · exact h.elim
    · exact h.elim
  · exact h.elim

theorem val_of {s : Sem Value} {v : Value} {w : World} (h : s.run P w = .ok v w) : (do pure (.value (← s)) : Sem Next).run P w = .ok (.value v) w := by
  simp [h, Result.andThen]

theorem pureW_run {o : Oper} {f : Fr} {k : Value → Prop} (h : pureW P o.op f k) : ∃ v, k v ∧ ∀ w : World, (execOp (ev f) o).run P w = .ok (.value v) w := by
  obtain ⟨dst, op, ty, pos, after, guard⟩ := o
  simp only at h
  cases op <;> simp only [pureW] at h <;> simp only [execOp]
  case move x => exact ⟨_, h, fun _ => rfl⟩
  case assign x => exact ⟨_, h, fun _ => rfl⟩
  case pick c a b =>
    split at h
    · rename_i t ht
      refine ⟨_, h, fun w => ?_⟩
      rw [ht]; cases t <;> simp [asBool]
    · exact h.elim
  case nilCheck x =>
    split at h
    · rename_i p hp
      obtain ⟨ad, rfl, h⟩ := onP_some h
      rw [hp]; exact ⟨_, h, fun _ => rfl⟩
    · rename_i g a b hp; rw [hp]; exact ⟨_, h, fun _ => rfl⟩
    · exact h.elim
  case fieldAddr s x i => obtain ⟨v, hk, hr⟩ := fldAddr_run h; exact ⟨v, hk, fun w => val_of (hr w)⟩
  case field s x i => obtain ⟨v, hk, hr⟩ := fldW_run h; exact ⟨v, hk, fun w => val_of (hr w)⟩
  case binOp o t x y _ => obtain ⟨v, hk, hr⟩ := binP_W h; exact ⟨v, hk, fun w => val_of (hr w x y)⟩
  case unOp o t x => obtain ⟨v, hk, hr⟩ := unW_run (P := P) h; exact ⟨v, hk, fun w => val_of (hr w)⟩
  case convert s d x =>
    split at h
    · rename_i hx hs hd
      rw [hx]
      exact ⟨_, h, fun w => val_of (by simp [convert, run_underlying' hs, run_underlying' hd, Result.andThen, Conv.intToInt])⟩
    · rename_i dd hx hs hd
      rw [hx]
      refine ⟨_, h, fun w => val_of ?_⟩
      simp only [convert, Sem.run_bind, run_underlying' hs, run_underlying' hd, Result.andThen]
      cases dd <;> rfl
    · exact h.elim
  case makeFunc fn a b =>
    have h1 : ∀ a : Array Operand, a.map (ev f) = ⟨a.toList.map (ev f)⟩ := fun a => by apply Array.toList_inj.1; simp
    rw [h1, h1]
    exact ⟨_, h, fun _ => rfl⟩
  case slice t x lo hi mx => obtain ⟨v, hk, hr⟩ := slW_run h; exact ⟨v, hk, fun w => val_of (hr w)⟩
  case indexAddr t x i => obtain ⟨v, hk, hr⟩ := ixaW_run h; exact ⟨v, hk, fun w => val_of (hr w)⟩
  case index t x i =>
    split at h
    · rename_i s kd n hu hx hi
      obtain ⟨h0, h1, hk⟩ := h
      refine ⟨_, hk, fun w => ?_⟩
      rw [hx, hi]
      have hw : ixW P ty t (.string s) (.int kd n) w (fun v w' => v = .int .u8 (byteAt s n.toNat) ∧ w' = w) := by
        unfold ixW; rw [hu]; exact ⟨h0, h1, rfl, rfl⟩
      obtain ⟨v, w', ⟨rfl, rfl⟩, hr⟩ := ixW_run hw
      exact val_of hr
    · exact h.elim
  case build t ps =>
    have he : (ps.map fun (i, x) => (i, ev f x)) = ⟨ps.toList.map fun (i, x) => (i, ev f x)⟩ := by apply Array.toList_inj.1; simp
    rw [he]
    obtain ⟨v, hk, hr⟩ := bldW_run h; exact ⟨v, hk, fun w => val_of (hr w)⟩
  case extract x i =>
    split at h
    · rename_i vs hv
      split at h
      · rename_i v hi
        rw [hv]
        have : vs[i]? = some v := by rw [← hi]; simp
        exact ⟨v, h, fun w => val_of (by simp [Instr.extract, this])⟩
      · exact h.elim
    · exact h.elim
  case call c =>
    have hargs : c.args.map (ev f) = ⟨c.args.toList.map (ev f)⟩ := by
      apply Array.toList_inj.1; simp
    split at h
    · rename_i b hc
      have he : ∀ w : World, (resolve (ev f) c ty).run P w = .ok { target := .builtin b c.argTypes ty (c.args.map fun | .const _ => true | _ => false), args := ⟨c.args.toList.map (ev f)⟩ } w := by
        intro w; simp only [resolve, hc, hargs]; rfl
      split at h
      · rename_i t ts x xs hat hax
        have hat' : c.argTypes = ⟨t :: ts⟩ := by rw [← hat]
        have hlp : ∃ v, k v ∧ ∀ w : World, (Builtin.len_ ⟨t :: ts⟩ ty ⟨x :: xs⟩).run P w = .ok v w := by
          unfold lenP at h
          split at h
          · rename_i s hu; exact ⟨_, h, fun w => by simp [Builtin.len_, run_underlying' hu, Result.andThen, goInt]⟩
          · rename_i e a n c hu; exact ⟨_, h, fun w => by simp [Builtin.len_, run_underlying' hu, Result.andThen, goInt]⟩
          · exact h.elim
        obtain ⟨v, hk, hr⟩ := hlp
        refine ⟨v, hk, fun w => ?_⟩
        rw [run_then (he w)]
        simp only [invoke, builtin, hat', hax]
        exact val_of (hr w)
      · rename_i x rest hax
        obtain ⟨v, hk, hr⟩ := (mmI_run (P := P) _ _ _).1 h
        refine ⟨v, hk, fun w => ?_⟩
        rw [run_then (he w)]
        simp only [invoke, builtin, hax]
        exact val_of (hr w)
      · rename_i x rest hax
        obtain ⟨v, hk, hr⟩ := (mmI_run (P := P) _ _ _).2 h
        refine ⟨v, hk, fun w => ?_⟩
        rw [run_then (he w)]
        simp only [invoke, builtin, hax]
        exact val_of (hr w)
      · exact h.elim
    · exact h.elim
  all_goals exact h.elim
end
end Go.Proofs.YtbmcbbmgdcbhjaaGreatDoor.St
