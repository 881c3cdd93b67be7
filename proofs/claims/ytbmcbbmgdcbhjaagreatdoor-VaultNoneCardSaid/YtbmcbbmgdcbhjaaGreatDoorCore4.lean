/- My own walk: what 'opW' says of an operation is right, the third part. It names no program. -/
import Derived.Test.YtbmcbbmgdcbhjaaGreatDoorCore3
namespace Go.Proofs.YtbmcbbmgdcbhjaaGreatDoor.St
open Go
section
variable {P : Program} {w : World}

theorem run_then {α β : Type} {s : Sem α} {k : α → Sem β} {a : α} {w' : World} (h : s.run P w = .ok a w') : (s >>= k).run P w = (k a).run P w' := by
  rw [Sem.run_bind, h]; rfl

theorem run_zeroValue' {t : TypeId} {i : TypeInfo} {z : Value} (h : P.info? t = some i) (hz : i.zero = some z) : (zeroValue t).run P w = .ok z w := by
  simp [zeroValue, Result.andThen, run_typeInfo' h, hz]

theorem mapM_places : ∀ {fs : List Field}, (placesOf P fs).all (·.isSome) = true →
    ∃ ps, (fs.mapM (fun f => (do pure (f.offset, ← sizeOf f.type) : Sem (Nat × Nat)))).run P w = .ok ps w ∧ ∀ i : Nat, ps[i]? = ((placesOf P fs)[i]?).join := by
  intro fs
  induction fs with
  | nil => intro _; exact ⟨[], rfl, fun i => by simp [placesOf]⟩
  | cons f fs ih =>
    intro h
    simp only [placesOf, List.all_cons, Bool.and_eq_true] at h
    obtain ⟨h1, h2⟩ := h
    cases hi : P.info? f.type with
    | none => rw [hi] at h1; simp at h1
    | some i =>
      obtain ⟨ps, hr, hp⟩ := ih h2
      refine ⟨(f.offset, i.size) :: ps, ?_, fun k => ?_⟩
      · rw [List.mapM_cons]
        simp only [Sem.run_bind, run_sizeOf' hi, Sem.run_pure, Result.andThen, hr]
      · cases k with
        | zero => simp [placesOf, hi]
        | succ k => simpa [placesOf, hi] using hp k

theorem splice : ∀ (vs cells : List Value) (off k : Nat), off + k + vs.length ≤ cells.length →
    ((vs.zipIdx k).foldl (fun (cs : Array Value) (x : Value × Nat) => cs.setIfInBounds (off + x.2) x.1) ⟨cells⟩).toList = cells.take (off + k) ++ (vs ++ cells.drop (off + k + vs.length)) := by
  intro vs
  induction vs with
  | nil => intro cells off k h; simp
  | cons v vs ih =>
    intro cells off k h
    simp only [List.length_cons] at h
    simp only [List.zipIdx_cons, List.foldl_cons]
    have hset : (⟨cells⟩ : Array Value).setIfInBounds (off + k) v = ⟨cells.set (off + k) v⟩ := by
      apply Array.toList_inj.1; simp
    rw [hset, ih _ off (k + 1) (by simp; omega)]
    have hlt : off + k < cells.length := by omega
    rw [show off + (k + 1) = off + k + 1 by omega]
    have e : cells.set (off + k) v = cells.take (off + k) ++ v :: cells.drop (off + k + 1) := by rw [List.set_eq_take_append_cons_drop, if_pos hlt]
    have hl : (cells.take (off + k)).length = off + k := by simp; omega
    have aux : ∀ (A B : List Value) (q : Nat), (A ++ v :: B).take (A.length + 1) = A ++ [v] ∧ (A ++ v :: B).drop (A.length + 1 + q) = B.drop q := by
      intro A B q
      constructor
      · simp [List.take_append, List.take_of_length_le]
      · rw [List.drop_append]; simp [show A.length + 1 + q - A.length = q + 1 by omega]; omega
    obtain ⟨a1, a2⟩ := aux (cells.take (off + k)) (cells.drop (off + k + 1)) vs.length
    rw [hl] at a1 a2
    rw [e, a1, a2, List.drop_drop]
    simp [Nat.add_assoc, Nat.add_comm 1]

theorem fillL_fill {place : Nat → Option (Nat × Nat)} : ∀ (parts : List (Nat × Value)) (cells l : List Value), fillL place cells parts = some l → Instr.fill place ⟨cells⟩ parts = some ⟨l⟩ := by
  intro parts
  induction parts with
  | nil => intro cells l h; simp only [fillL, Option.some.injEq] at h; subst h; rfl
  | cons x parts ih =>
    obtain ⟨i, v⟩ := x
    intro cells l h
    unfold fillL at h
    unfold Instr.fill
    split at h
    · cases h
    · rename_i off size hp
      cases hb : (Nat.beq v.cells.toList.length size && Nat.ble (off + size) cells.length) with
      | false => rw [hb] at h; cases h
      | true =>
        rw [hb] at h
        simp only [cond_true] at h
        rw [Bool.and_eq_true] at hb
        have h1 := Nat.eq_of_beq_eq_true hb.1
        have h2 := Nat.le_of_ble_eq_true hb.2
        have hs : v.cells.size = size := by rw [← h1]; simp
        simp only [hp]
        rw [if_neg (by simp only [Bool.or_eq_true, decide_eq_true_eq, ne_eq, not_or]; constructor <;> (simp [hs]; try omega))]
        have := ih _ _ h
        rw [← this]
        congr 1
        apply Array.toList_inj.1
        have hz := splice v.cells.toList cells off 0 (by simp [hs]; omega)
        simp only [Nat.add_zero] at hz
        rw [← Array.foldl_toList]
        have : v.cells.zipIdx.toList = v.cells.toList.zipIdx := by simp
        rw [this]
        rw [h1] at hz
        exact hz

theorem bldW_run {t : TypeId} {parts : List (Nat × Value)} {k : Value → Prop} (h : bldW P t parts k) : ∃ v, k v ∧ ∀ w : World, (Instr.build t ⟨parts⟩).run P w = .ok v w := by
  unfold bldW at h
  split at h
  · rename_i inf fs hi hu
    obtain ⟨hall, h⟩ := cond_tt h
    split at h
    · rename_i z hz
      split at h
      · rename_i cs hf
        refine ⟨_, h, fun w => ?_⟩
        obtain ⟨ps, hr, hp⟩ := mapM_places (P := P) (w := w) hall
        have hm : (fs.mapM fun f => (do pure (f.offset, ← sizeOf f.type) : Sem (Nat × Nat))).run P w = .ok ps.toArray w := by
          rw [Array.mapM_eq_mapM_toList]
          simp only [Sem.run_map, hr, Result.andThen]
        simp only [Instr.build, Sem.run_bind, run_zeroValue' hi hz, Result.andThen, run_underlying' hu, hm]
        have hf' : Instr.fill (fun x => ps.toArray[x]?) z.cells parts = some ⟨cs⟩ := by
          rw [← fillL_fill _ _ _ hf]; congr 1; funext x; simpa using hp x
        simp only [hf']
        rfl
      · exact h.elim
    · exact h.elim
  · rename_i inf n e hi hu
    split at h
    · rename_i z ie hz he
      split at h
      · rename_i cs hf
        refine ⟨_, h, fun w => ?_⟩
        simp only [Instr.build, Sem.run_bind, run_zeroValue' hi hz, Result.andThen, run_underlying' hu, run_sizeOf' he]
        have hf' : Instr.fill (fun i => some (i * ie.size, ie.size)) z.cells parts = some ⟨cs⟩ := fillL_fill _ _ _ hf
        simp only [hf']
        rfl
      · exact h.elim
    · exact h.elim
  · exact h.elim

theorem flat_get (l : List Value) : ∀ (n i : Nat), i < n * l.length → ((List.replicate n l).flatten)[i]? = l[i % l.length]? := by
  intro n
  induction n with
  | zero => intro i h; simp at h
  | succ n ih =>
    intro i h
    rw [List.replicate_succ, List.flatten_cons]
    by_cases hi : i < l.length
    · rw [List.getElem?_append_left hi, Nat.mod_eq_of_lt hi]
    · have hm : (n + 1) * l.length = n * l.length + l.length := Nat.succ_mul _ _
      rw [List.getElem?_append_right (by omega), ih _ (by omega)]
      congr 1
      exact (Nat.mod_eq_sub_mod (by omega)).symm

theorem zeros_eq {z : Array Value} {n s : Nat} (hz : z.toList.length = s) : (Array.range (n * s)).map (fun x => z[x % z.size]!) = ⟨(List.replicate n z.toList).flatten⟩ := by
  apply Array.ext
  · simp [hz]
  · intro i h1 h2
    simp only [List.getElem_toArray] at h2 ⊢
    have hi : i < n * s := by simpa using h1
    have hs : 0 < s := by
      rcases Nat.eq_zero_or_pos s with h | h
      · rw [h] at hi; simp at hi
      · exact h
    have := flat_get z.toList n i (by rw [hz]; exact hi)
    rw [List.getElem?_eq_getElem (by simpa using h2), hz, List.getElem?_eq_getElem (by rw [hz]; exact Nat.mod_lt _ hs)] at this
    have hsz : z.size = s := by rw [← hz]; simp
    simp only [Option.some.injEq] at this
    rw [this]
    simp [hsz, Nat.mod_lt _ hs, getElem!_pos]

theorem bslW_run {t : TypeId} {n : Nat} {parts : List (Nat × Value)} {K : Value → World → Prop} (h : bslW P t n parts w K) : ∃ v w', K v w' ∧ (Instr.buildSlice t n ⟨parts⟩).run P w = .ok v w' := by
  unfold bslW at h
  split at h
  · rename_i e hu
    split at h
    · rename_i ie he
      cases hb : (Nat.ble (n * ie.size) 16777216 && !(Nat.beq (n * ie.size) 0)) with
      | true =>
        have h := cond_t hb h
        rw [Bool.and_eq_true] at hb
        have h1 : ¬ (n * ie.size > 2 ^ 24) := by have := Nat.le_of_ble_eq_true hb.1; omega
        have h2 : ¬ (n * ie.size = 0) := fun e => by rw [e] at hb; simp at hb
        split at h
        · rename_i z hz
          obtain ⟨hzl, h⟩ := cond_tt h
          split at h
          · rename_i cs hf
            refine ⟨_, _, h _ rfl, ?_⟩
            simp only [Instr.buildSlice, Sem.run_bind, run_underlying' hu, run_sizeOf' he, Result.andThen, h1, h2, if_false, Sem.run_pure, run_zeroValue' he hz]
            rw [zeros_eq (Nat.eq_of_beq_eq_true hzl), fillL_fill _ _ _ hf]
            rfl
          · exact h.elim
        · exact h.elim
      | false =>
        have h := cond_f hb h
        obtain ⟨h0, h⟩ := cond_tt h
        have h0 := Nat.eq_of_beq_eq_true h0
        split at h
        · rename_i cs hf
          refine ⟨_, _, h _ rfl, ?_⟩
          have h1 : ¬ (n * ie.size > 2 ^ 24) := by omega
          simp only [Instr.buildSlice, Sem.run_bind, run_underlying' hu, run_sizeOf' he, Result.andThen, h1, if_false]
          rw [if_pos h0, h0]
          have hz : ((Array.range 0).map fun x => (#[] : Array Value)[x % (#[] : Array Value).size]!) = #[] := by simp
          rw [run_then (a := (#[] : Array Value)) (w' := w) rfl, hz, fillL_fill _ _ _ hf]
          rfl
        · exact h.elim
    · exact h.elim
  · exact h.elim

theorem biW_res {b : Builtin} {ats : Array TypeId} {ty : TypeId} {args : List Value} {K : Value → World → Prop} {cs : Array Bool} (h : biW P b ats ty args w K) :
    ResW P (builtin b ats ty cs ⟨args⟩) w K := by
  unfold biW at h
  split at h
  · rename_i t ts x xs hat
    obtain ⟨v, hk, hr⟩ := lenW_run (ty := ty) (ats := ts) (xs := xs) h
    have : ats = ⟨t :: ts⟩ := by rw [← hat]
    subst this
    exact .of_val hr hk
  · rename_i t ts a l c xs hat
    have : ats = ⟨t :: ts⟩ := by rw [← hat]
    subst this
    split at h
    · rename_i e hu
      exact .of_val (s := Builtin.cap_ _ ty _) (by simp [Builtin.cap_, run_underlying' hu, Result.andThen, goInt]) h
    · exact h.elim
  · obtain ⟨v, hk, hr⟩ := (mmI_run (P := P) _ _ _).1 h
    exact .of_val (s := Builtin.max_ ats ty _) (hr w) hk
  · obtain ⟨v, hk, hr⟩ := (mmI_run (P := P) _ _ _).2 h
    exact .of_val (s := Builtin.min_ ats ty _) (hr w) hk
  · obtain ⟨v, w', hk, hr⟩ := runV_run h; exact .of_val hr hk
  · obtain ⟨v, w', hk, hr⟩ := runV_run h; exact .of_val hr hk
  · obtain ⟨v, w', hk, hr⟩ := runV_run h; exact .of_val hr hk
  · obtain ⟨v, w', hk, hr⟩ := runV_run h; exact .of_val hr hk
  · exact h.elim

theorem resolve_val {c : Call} {ty : TypeId} {f : Fr} {x : Operand} {args : Array Value} (hc : c.callee = .value x) {fn : Fn} {first cap : Array Value} (hv : ev f x = .func fn first cap)
    (ha : c.args.map (ev f) = args) : (resolve (ev f) c ty).run P w = .ok { target := .fn fn cap, args := first ++ args } w := by
  simp only [resolve, hc, hv, Deferred.ofValue, ha]
  rfl
theorem invoke_func (g : FuncId) (cap args : Array Value) : invoke (.fn (.func g) cap) args = callFunc g (args ++ cap) := rfl
theorem invoke_yield (l : Nat) (cap args : Array Value) : invoke (.fn (.yield l) cap) args = Instr.yield l args := rfl

theorem callV_res {c : Call} {ty : TypeId} {f : Fr} {x : Operand} {args : Array Value} (hc : c.callee = .value x) (ha : c.args.map (ev f) = args) {K : Value → World → Prop} (h : CaV P (ev f x) args w K) :
    ResW P (do let d ← resolve (ev f) c ty; invoke d.target d.args) w K := by
  generalize hfv : ev f x = fv at h
  unfold CaV at h
  split at h
  · rename_i g first cap
    have he : first ++ args ++ cap = ⟨first.toList ++ (args.toList ++ cap.toList)⟩ := by apply Array.toList_inj.1; simp
    rw [← he] at h
    refine .enter g (first ++ args ++ cap) ?_ h.2
    rw [run_then (resolve_val hc hfv ha), invoke_func]
    exact h.1 w
  · rename_i l first cap
    have he : first ++ args = ⟨first.toList ++ args.toList⟩ := by apply Array.toList_inj.1; simp
    rw [← he] at h
    obtain ⟨fn, tmps, assign, body, hy, hr⟩ := h
    refine .round l fn tmps assign body ?_ hr
    rw [run_then (resolve_val hc hfv ha), invoke_yield]
    exact hy
  · exact h.elim

theorem calW_res {c : Call} {ty : TypeId} {f : Fr} {K : Value → World → Prop} (h : calW P c ty f w K) :
    ResW P (do let d ← resolve (ev f) c ty; invoke d.target d.args) w K := by
  unfold calW at h
  have hargs : c.args.map (ev f) = ⟨c.args.toList.map (ev f)⟩ := by
    apply Array.toList_inj.1; simp
  cases hc : c.callee with
  | value x =>
    rw [hc] at h
    have h := CaV.mono h fun v w' hv => (exV_ex hv : ∃ u, v = u ∧ K u w')
    have h := CaV.mono h fun v w' ⟨u, e, hk⟩ => (e ▸ hk : K v w')
    exact callV_res hc hargs h
  | builtin b =>
    rw [hc] at h
    have h := biW_res (cs := c.args.map fun | .const _ => true | _ => false) h
    have he : (resolve (ev f) c ty).run P w = .ok { target := .builtin b c.argTypes ty (c.args.map fun | .const _ => true | _ => false), args := ⟨c.args.toList.map (ev f)⟩ } w := by
      simp only [resolve, hc, hargs]; rfl
    cases h with
    | val v w' hr hk => exact .val v w' ((run_then he).trans hr) hk
    | skip w' hr hk => exact .skip w' ((run_then he).trans hr) hk
    | enter g args hr hk => exact .enter g args ((run_then he).trans hr) hk
    | round l fn tmps assign body hr hk => exact .round l fn tmps assign body ((run_then he).trans hr) hk
  | invoke a b => rw [hc] at h; exact h.elim

theorem rngW_run {t : TypeId} {x : Value} {K : Value → World → Prop} (h : rngW P t x w K) : ∃ v w', K v w' ∧ (Instr.range t x).run P w = .ok v w' := by
  unfold rngW at h
  split at h
  · rename_i s hu
    exact ⟨_, _, h _ rfl, by simp [Instr.range, run_underlying' hu, Result.andThen]⟩
  · rename_i m hu
    cases m with
    | none => exact ⟨_, _, h _ rfl, by simp [Instr.range, run_underlying' hu, Result.andThen]⟩
    | some r =>
      obtain ⟨es, clock, hb, h⟩ := h
      exact ⟨_, _, h _ rfl, by simp [Instr.range, run_underlying' hu, Result.andThen, MapKept.run_getObj_map hb]⟩
  · exact h.elim

theorem nxtW_run {ty : TypeId} {it : Value} {isS : Bool} {K : Value → World → Prop} (h : nxtW P ty it isS w K) : ∃ v w', K v w' ∧ (Instr.next it isS ty).run P w = .ok v w' := by
  unfold nxtW at h
  split at h
  · rename_i r
    obtain ⟨s, pos, hb, h⟩ := h
    by_cases hp : pos < s.size
    · rw [decide_eq_true hp] at h
      refine ⟨_, _, h _ rfl, ?_⟩
      simp [Instr.next, getObj, setObj, Sem.run, hb, hp, Result.andThen, goInt, World.putObj]
    · rw [decide_eq_false hp] at h
      refine ⟨_, _, h, ?_⟩
      simp [Instr.next, getObj, Sem.run, hb, hp, Result.andThen]
  · obtain ⟨v, w', hr, h⟩ := h
    rcases h with ⟨rfl, h⟩ | ⟨k, x, rfl, h⟩
    · exact ⟨_, _, h, hr⟩
    · exact ⟨_, _, h, hr⟩
  · exact h.elim

theorem opW_res {o : Oper} {f : Fr} {K : Value → World → Prop} (h : opW P o.op o.type f w K) : ResW P (execOp (ev f) o) w K := by
  obtain ⟨dst, op, ty, pos, after, guard⟩ := o
  simp only at h
  cases op <;> simp only [opW] at h <;> simp only [execOp]
  case move x => exact .val _ _ rfl h
  case assign x => exact .val _ _ rfl (castK_K h)
  case pick c a b =>
    split at h
    · rename_i t ht
      refine .val _ _ ?_ h
      rw [ht]; cases t <;> simp [asBool]
    · exact h.elim
  case load t a => obtain ⟨v, hk, hr⟩ := ldW_run h; exact .of_val hr hk
  case store t a x => obtain ⟨w', hk, hr⟩ := stW_run h; exact .of_unit hr hk
  case nilCheck x =>
    split at h
    · rename_i p hp
      obtain ⟨ad, rfl, h⟩ := onP_some h
      rw [hp]; exact .val _ _ rfl h
    · rename_i g a b hp; rw [hp]; exact .val _ _ rfl h
    · exact h.elim
  case fieldAddr s x i => obtain ⟨v, hk, hr⟩ := fldAddr_run h; exact .of_val (hr w) hk
  case field s x i => obtain ⟨v, hk, hr⟩ := fldW_run h; exact .of_val (hr w) hk
  case binOp o t x y _ =>
    cases hn : isNilC y with
    | true =>
      obtain rfl := isNilC_eq hn
      obtain ⟨v, w', hk, hr⟩ := binN_run (f := x) (cond_t hn h); exact .of_val hr hk
    | false => obtain ⟨v, w', hk, hr⟩ := binW_run (f := x) (g := y) (cond_f hn h); exact .of_val hr hk
  case unOp o t x => obtain ⟨v, hk, hr⟩ := unW_run (P := P) h; exact .of_val (hr w) hk
  case convert s d x => obtain ⟨v, w', hk, hr⟩ := cvW_run h; exact .of_val hr hk
  case call c => exact calW_res h
  case makeFunc fn a b =>
    refine .of_val (s := Instr.makeFunc fn (a.map (ev f)) (b.map (ev f))) (v := .func fn (a.map (ev f)) (b.map (ev f))) rfl ?_
    have h1 : ∀ a : Array Operand, a.map (ev f) = ⟨a.toList.map (ev f)⟩ := fun a => by apply Array.toList_inj.1; simp
    rw [h1, h1]; exact h
  case slice t x lo hi mx => obtain ⟨v, hk, hr⟩ := slW_run h; exact .of_val (hr w) hk
  case indexAddr t x i => obtain ⟨v, hk, hr⟩ := ixaW_run h; exact .of_val (hr w) hk
  case index t x i => obtain ⟨v, w', hk, hr⟩ := ixW_run h; exact .of_val hr hk
  case alloc e =>
    split at h
    · rename_i z hz
      obtain ⟨inf, hi, hz⟩ := Option.bind_eq_some_iff.1 hz
      refine .of_val (s := Instr.alloc e true (.tuple #[])) (v := .pointer (some ⟨w.heap.size, 0, none⟩)) (w' := w.alloc (.cells z.cells e)) ?_ (h _ rfl)
      simp only [Instr.alloc, Sem.run_bind, run_zeroValue' hi hz, Result.andThen]
      rfl
    · exact h.elim
  case box e x => exact .of_val (s := Instr.box e (ev f x)) (v := .pointer (some ⟨w.heap.size, 0, none⟩)) (w' := w.alloc (.cells (ev f x).cells e)) rfl (h _ rfl)
  case build t ps =>
    have he : (ps.map fun (i, x) => (i, ev f x)) = ⟨ps.toList.map fun (i, x) => (i, ev f x)⟩ := by apply Array.toList_inj.1; simp
    rw [he]
    obtain ⟨v, hk, hr⟩ := bldW_run h; exact .of_val (hr w) hk
  case buildSlice t n ps =>
    have he : (ps.map fun (i, x) => (i, ev f x)) = ⟨ps.toList.map fun (i, x) => (i, ev f x)⟩ := by apply Array.toList_inj.1; simp
    rw [he]
    obtain ⟨v, w', hk, hr⟩ := bslW_run h; exact .of_val hr hk
  case makeMap t r =>
    cases r with
    | none => exact .of_val (s := Instr.makeMap t none) (v := .map (some w.heap.size)) (w' := w.alloc (.map #[] 0)) rfl (h _ rfl)
    | some r => obtain ⟨v, w', hk, hr⟩ := runV_run h; exact .of_val hr hk
  case makeSlice t l c => obtain ⟨v, w', hk, hr⟩ := runV_run h; exact .of_val hr hk
  case lookup t x i ok => obtain ⟨v, w', hk, hr⟩ := runV_run h; exact .of_val hr hk
  case mapUpdate t m k x => obtain ⟨w', hr, hk⟩ := h; exact .of_unit hr hk
  case insert t m k x => obtain ⟨w', hr, hk⟩ := h; exact .of_unit hr hk
  case mapEntry t m k => obtain ⟨v, w', hk, hr⟩ := runV_run h; exact .of_val hr hk
  case entryStore t m s x => obtain ⟨w', hr, hk⟩ := h; exact .of_unit hr hk
  case range t x => obtain ⟨v, w', hk, hr⟩ := rngW_run h; exact .of_val hr hk
  case next it s => obtain ⟨v, w', hk, hr⟩ := nxtW_run h; exact .of_val hr hk
  case entry it => obtain ⟨k, x, hr, hk⟩ := h; exact .of_val hr hk
  case extract x i =>
    split at h
    · rename_i vs hv
      split at h
      · rename_i v hi
        rw [hv]
        refine .of_val (s := Instr.extract (.tuple vs) i) (v := v) (w' := w) ?_ (castK_K h)
        have : vs[i]? = some v := by rw [← hi]; simp
        simp [Instr.extract, this]
      · exact h.elim
    · exact h.elim
  all_goals exact h.elim

def noDefer : Op → Bool
  | .defer _ => false
  | _ => true

/-- An operation, in a walk. -/
theorem opW_soundX {r : Option Nat} {o : Oper} {a : Act} {f : Fr} {K : Value → World → Prop} {next : Act → World → Prop} {Q : Exit → Act → World → Prop}
    (h : opW P o.op o.type f w K) (hnd : noDefer o.op = true) (he : execOp a.eval o = execOp (ev f) o) (hK : ∀ v w', K v w' → next (a.put o.dst v) w') : o.wpIn (wide r) 0 P a w next Q := by
  refine ⟨fun _ _ => trivial, ?_⟩
  have hd : ∀ c, o.op ≠ .defer c := fun c e => by rw [e] at hnd; simp [noDefer] at hnd
  have hs : o.semAt (wide r).round a.eval = execOp (ev f) o := by rw [← he]; exact Oper.semAt_eq _ _ _ hd
  rw [hs]
  cases opW_res h with
  | val v w' hr hk => rw [hr]; exact hK _ _ hk
  | skip w' hr hk => rw [hr]; exact hK _ _ hk
  | enter g args hr hc =>
    rw [hr]
    refine ⟨fun h => by simp [wide] at h, ?_⟩
    have hc' := (callsIn_wide (n := 0 - 1)).2 hc
    refine ⟨trivial, fun cs _ => ?_⟩
    obtain ⟨e, w', fr, ⟨v, hv, hk⟩, hs, hf, hl⟩ := hc'.2 cs (room_wide _)
    exact ⟨e, w', fr, (by subst hv; exact hK _ _ hk), hs, hf, hl⟩
  | round l fn tmps assign body hr hc =>
    rw [hr]
    refine ⟨fun h => by simp [wide] at h, ?_⟩
    refine ⟨trivial, fun c cs hroom => ?_⟩
    obtain ⟨e, w', ⟨v, hv, hk⟩, hs⟩ := hc.2 c cs (wide_room _ _)
    exact ⟨e, w', (by subst hv; exact hK _ _ hk), hs⟩

theorem opW_sound {r : Option Nat} {o : Oper} {a : Act} {f : Fr} {K : Value → World → Prop} {next : Act → World → Prop} {Q : Exit → Act → World → Prop}
    (h : opW P o.op o.type f w K) (he : a.eval = ev f) (hK : ∀ v w', K v w' → next (a.put o.dst v) w') : o.wpIn (wide r) 0 P a w next Q := by
  refine opW_soundX h ?_ (by rw [he]) hK
  cases ho : o.op <;> first | rfl | (rw [ho] at h; exact h.elim)
end
end Go.Proofs.YtbmcbbmgdcbhjaaGreatDoor.St
