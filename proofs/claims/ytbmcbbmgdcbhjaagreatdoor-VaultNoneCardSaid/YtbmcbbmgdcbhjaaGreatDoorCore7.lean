/- My own walk: a plan that fits a region is right, whatever order comes. It names no program. -/
import Derived.Test.YtbmcbbmgdcbhjaaGreatDoorCore6
namespace Go.Proofs.YtbmcbbmgdcbhjaaGreatDoor.St
open Go
section
variable {P : Program} {ops : Array Oper} {n : Nat} {A : List Nat}

theorem putF_other {f : Fr} {d : Option Nat} {v : Value} {t : Nat} (h : d ≠ some t) : putF f d v t = f t := by
  cases d with
  | none => rfl
  | some d => exact upd_other _ _ fun e => h (by rw [e])

def anc (A : List Nat) (k j : Nat) : Prop := Nat.testBit (A.getD k 0) j = true

/-- The static facts. -/
structure Fit (n : Nat) (ops : Array Oper) (A : List Nat) : Prop where
  edge : ∀ (k : Nat) (o : Oper) (e : Edge), ops[k]? = some o → e ∈ o.after → Region.binds .any e = true → e.on < k ∧ anc A k e.on ∧ ∀ j, anc A e.on j → anc A k j
  from_ : ∀ (k : Nat) (o : Oper) (j : Nat), ops[k]? = some o → anc A k j → ∃ e ∈ o.after, Region.binds .any e = true ∧ (j = e.on ∨ anc A e.on j)
  tmps : ∀ (k j : Nat) (o o' : Oper) (d : Nat), ops[k]? = some o → ops[j]? = some o' → o.dst = some d → j ≠ k → d ∈ names ops.toList o' → anc A k j ∨ anc A j k
  free : ∀ (k : Nat) (o : Oper), ops[k]? = some o → noDefer o.op = true ∧ (∀ cs b, o.op ≠ .select cs b) ∧ ∀ d, o.dst = some d → d < n

theorem testBit_or {a b : Nat} (h : a ||| b = a) (j : Nat) (hb : Nat.testBit b j = true) : Nat.testBit a j = true := by
  rw [← h, Nat.testBit_or, hb, Bool.or_true]

theorem fit_of (h1 : okAnc ops.toList A = true) (h2 : okTmps ops.toList A = true) (h3 : okOps n ops.toList = true) : Fit n ops A := by
  refine ⟨?_, ?_, ?_, ?_⟩
  · intro k o e hk he hb
    have hk' : ops.toList[k]? = some o := by simpa using hk
    have := zipIdx_all h1 hk'
    simp only [Bool.and_eq_true, List.all_eq_true] at this
    have := this.2 e (by simpa using he)
    rw [hb] at this
    simp only [Bool.not_true, Bool.false_or, Bool.and_eq_true] at this
    obtain ⟨⟨ha, hb⟩, hc⟩ := this
    refine ⟨?_, hb, fun j hj => testBit_or (Nat.eq_of_beq_eq_true hc) j hj⟩
    have := Nat.le_of_ble_eq_true ha
    omega
  · intro k o j hk hj
    have hk' : ops.toList[k]? = some o := by simpa using hk
    have := zipIdx_all h1 hk'
    simp only [Bool.and_eq_true] at this
    have he := Nat.eq_of_beq_eq_true this.1
    unfold anc at hj
    rw [he] at hj
    have key : ∀ (l : List Edge) (s : Nat), Nat.testBit (l.foldl (fun s e => bif Region.binds .any e then s ||| 2 ^ e.on ||| A.getD e.on 0 else s) s) j = true →
        Nat.testBit s j = true ∨ ∃ e ∈ l, Region.binds .any e = true ∧ (j = e.on ∨ anc A e.on j) := by
      intro l
      induction l with
      | nil => exact fun s h => .inl h
      | cons e l ih =>
        intro s h
        rcases ih _ h with h | ⟨e', he', hb', h'⟩
        · cases hb : Region.binds .any e with
          | false => simp only [hb, cond_false] at h; exact .inl h
          | true =>
            simp only [hb, cond_true, Nat.testBit_or, Nat.testBit_two_pow, Bool.or_eq_true, decide_eq_true_eq] at h
            rcases h with (h | h) | h
            · exact .inl h
            · exact .inr ⟨e, List.mem_cons_self, hb, .inl h.symm⟩
            · exact .inr ⟨e, List.mem_cons_self, hb, .inr h⟩
        · exact .inr ⟨e', List.mem_cons_of_mem _ he', hb', h'⟩
    rcases key _ _ hj with h | ⟨e, he, hb, h⟩
    · simp at h
    · exact ⟨e, by simpa using he, hb, h⟩
  · intro k j o o' d hk hj hd hne hn
    have hk' : ops.toList[k]? = some o := by simpa using hk
    have hj' : ops.toList[j]? = some o' := by simpa using hj
    have := zipIdx_all h2 hk'
    simp only [hd] at this
    have := zipIdx_all this hj'
    simp only [beq_ne hne, (hasN_iff (t := d) (l := names ops.toList o')).2 hn, Bool.not_true, Bool.or_false, Bool.false_or, Bool.or_eq_true] at this
    exact this
  · intro k o hk
    have hk' : ops.toList[k]? = some o := by simpa using hk
    have := (List.all_eq_true.1 h3) o (List.mem_of_getElem? hk')
    simp only [Bool.and_eq_true] at this
    obtain ⟨⟨b, c⟩, d⟩ := this
    refine ⟨b, fun cs bl e => ?_, fun t ht => ?_⟩
    · rw [e] at c; simp at c
    · rw [ht] at d; exact Nat.le_of_ble_eq_true d

/-- A load that has read x reads x wherever the cells are the same. -/
def LdOk (P : Program) (f : Fr) (o : Oper) (x : Value) : Prop :=
  ∃ t a ad, o.op = .load t a ∧ ev f a = .pointer (some ad) ∧ ∀ w' : World, (∀ i c, (partsOf P t x)[i]? = some c → w'.cell? (ad.add i) = some c) → (execOp (ev f) o).run P w' = .ok (.value x) w'

theorem ev_same {l : List Oper} {f f' : Fr} {o : Oper} (h : ∀ t, t ∈ opTmps l o → f t = f' t) {x : Operand} (hx : x ∈ o.op.operands) : ev f x = ev f' x := by
  cases x with
  | tmp t => exact h t (by unfold opTmps; exact List.mem_append_left _ (List.mem_filterMap.2 ⟨.tmp t, by simpa using hx, rfl⟩))
  | _ => rfl

theorem LdOk.same {l : List Oper} {f f' : Fr} {o : Oper} {x : Value} (h : LdOk P f o x) (hs : ∀ t, t ∈ opTmps l o → f t = f' t) (he : execOp (ev f') o = execOp (ev f) o) : LdOk P f' o x := by
  obtain ⟨t, a, ad, ho, ha, hr⟩ := h
  refine ⟨t, a, ad, ho, ?_, fun w' hw => by rw [he]; exact hr w' hw⟩
  rw [← ev_same hs (x := a) (by rw [ho]; simp [Op.operands])]; exact ha

/-- Is an operation wanted, by the slots f? -/
def wantF (ops : Array Oper) (f : Fr) (o : Oper) : Bool :=
  match o.guard with
  | none => true
  | some (j, want) =>
    match (ops[j]?).bind (·.dst) with
    | some t => (match f t with | .bool b => b == want | _ => false)
    | none => false

theorem wantF_of {a : Act} {f : Fr} {o : Oper} (h : ∀ t, t ∈ opTmps ops.toList o → a.tmps.getD t undef = f t) : Region.wanted o (yielded ops a.tmps) = wantF ops f o := by
  unfold Region.wanted wantF
  cases hg : o.guard with
  | none => rfl
  | some jw =>
    obtain ⟨j, want⟩ := jw
    simp only
    unfold yielded
    cases hd : (ops[j]?).bind (·.dst) with
    | none => rfl
    | some t =>
      have ht : t ∈ opTmps ops.toList o := by
        unfold opTmps
        refine List.mem_append_right _ ?_
        rw [hg]
        cases ho : ops[j]? with
        | none => rw [ho] at hd; cases hd
        | some o' =>
          rw [ho] at hd
          have ho' : ops.toList[j]? = some o' := by simpa using ho
          simp only [ho']
          simp only [Option.bind_some] at hd
          rw [hd]; simp
      have := h t ht
      simp only [Option.bind_some]
      rw [← this]
      cases hx : a.tmps[t]? with
      | none => simp [hx, undef]
      | some v =>
        simp only [Array.getD_eq_getD_getElem?, hx, Option.getD_some]
        cases v <;> rfl

theorem wantF_same {f f' : Fr} {o : Oper} (h : ∀ t, t ∈ opTmps ops.toList o → f t = f' t) : wantF ops f o = wantF ops f' o := by
  unfold wantF
  cases hg : o.guard with
  | none => rfl
  | some jw =>
    obtain ⟨j, want⟩ := jw
    simp only
    cases hd : (ops[j]?).bind (·.dst) with
    | none => rfl
    | some t =>
      have ht : t ∈ opTmps ops.toList o := by
        unfold opTmps
        refine List.mem_append_right _ ?_
        rw [hg]
        cases ho : ops[j]? with
        | none => rw [ho] at hd; cases hd
        | some o' =>
          rw [ho] at hd
          have ho' : ops.toList[j]? = some o' := by simpa using ho
          simp only [ho']
          simp only [Option.bind_some] at hd
          rw [hd]; simp
      simp only [h t ht]

theorem ifWant_or {o : Oper} {f : Fr} {A B : Prop} (h : ifWant ops o f A B) : (wantF ops f o = true ∧ A) ∨ (wantF ops f o = false ∧ B) := by
  unfold ifWant at h
  unfold wantF
  cases hg : o.guard with
  | none => rw [hg] at h; exact .inl ⟨rfl, h⟩
  | some jw =>
    obtain ⟨j, want⟩ := jw
    rw [hg] at h
    simp only at h ⊢
    split at h
    · rename_i t ht
      simp only [ht]
      split at h
      · rename_i b hb
        simp only [hb]
        cases hbw : (b == want) with
        | true => rw [hbw] at h; exact .inl ⟨rfl, h⟩
        | false => rw [hbw] at h; exact .inr ⟨rfl, h⟩
      · rename_i hne
        refine .inr ⟨?_, h⟩
        split
        · rename_i b hb; exact absurd hb (hne b)
        · rfl
    · exact h.elim

/-- What an operation that waits will give. -/
def Waits (P : Program) (ops : Array Oper) (pend : List Nat) (w : World) (f : Fr) (j : Nat) (o : Oper) (v : Value) : Prop :=
  (wantF ops f o = true ∧ ((∀ w' : World, (execOp (ev f) o).run P w' = .ok (.value v) w') ∨ (j ∈ pend ∧ (execOp (ev f) o).run P w = .ok (.value v) w ∧ LdOk P f o v))) ∨
  (wantF ops f o = false ∧ v = undef)

/-- What ties the order that came to the plan's own. -/
structure Inv (P : Program) (n : Nat) (ops : Array Oper) (A : List Nat) (ds : List Deferred) (g : Fr) (listed : Array Bool) (a : Act) (w : World) (L : Nat) (pend : List Nat) (f : Fr) : Prop where
  size : listed.size = ops.size
  sub : ∀ j, listed.getD j false = true → Nat.testBit L j = true
  cloL : ∀ k, Nat.testBit L k = true → ∀ j, anc A k j → Nat.testBit L j = true
  clo : ∀ k, listed.getD k false = true → ∀ j, anc A k j → listed.getD j false = true
  tsz : a.tmps.size = n
  dfs : a.defers = ds
  agree : ∀ t, (∀ j o, Nat.testBit L j = true → listed.getD j false = false → ops[j]? = some o → o.dst ≠ some t) → a.tmps.getD t undef = f t
  yields : ∀ j o, Nat.testBit L j = true → listed.getD j false = false → ops[j]? = some o →
    ∃ d, o.dst = some d ∧ okQuiet ops.toList A j o = true ∧ Waits P ops pend w f j o (f d)
  inL : ∀ j, Nat.testBit L j = true → j < ops.size
  same : ∀ t, (∀ (j : Nat) (o : Oper), ops[j]? = some o → o.dst ≠ some t) → f t = g t

theorem quiet_named {i j : Nat} {o o' : Oper} {d : Nat} (h : okQuiet ops.toList A i o = true) (hd : o.dst = some d) (hj : ops[j]? = some o') (hne : j ≠ i) (hn : d ∈ names ops.toList o') : anc A j i := by
  unfold okQuiet at h
  rw [hd] at h
  simp only [Bool.and_eq_true] at h
  have hj' : ops.toList[j]? = some o' := by simpa using hj
  have := zipIdx_all h.2 hj'
  simp only [beq_ne hne, (hasN_iff (t := d) (l := names ops.toList o')).2 hn, Bool.not_true, Bool.false_or] at this
  exact this

theorem quiet_self {i : Nat} {o : Oper} {d : Nat} (h : okQuiet ops.toList A i o = true) (hd : o.dst = some d) : d ∉ opTmps ops.toList o := by
  unfold okQuiet at h
  rw [hd] at h
  simp only [Bool.and_eq_true, Bool.not_eq_true'] at h
  intro hm
  have := (hasN_iff (t := d) (l := opTmps ops.toList o)).2 hm
  rw [this] at h
  simp at h

theorem mem_opTmps {l : List Oper} {o : Oper} {t : Nat} (h : Operand.tmp t ∈ o.op.operands) : t ∈ opTmps l o := by
  unfold opTmps
  exact List.mem_append_left _ (List.mem_filterMap.2 ⟨.tmp t, by simpa using h, rfl⟩)

/-- An operation looks at the same slots. -/
theorem exec_same {l : List Oper} {o : Oper} {ρ ρ' : Operand → Value} (hs : ∀ cs b, o.op ≠ .select cs b) (h : ∀ t, t ∈ opTmps l o → ρ (.tmp t) = ρ' (.tmp t))
    (hc : ∀ v, ρ (.const v) = ρ' (.const v)) (hg : ∀ g, ρ (.global g) = ρ' (.global g)) (hf : ∀ g, ρ (.func g) = ρ' (.func g)) : execOp ρ o = execOp ρ' o :=
  execOp_congr o hs fun x hx => by
    cases x with
    | tmp t => exact h t (mem_opTmps hx)
    | const v => exact hc v
    | global g => exact hg g
    | func g => exact hf g

theorem getD_set {listed : Array Bool} {i : Nat} (hi : i < listed.size) (j : Nat) : (listed.setIfInBounds i true).getD j false = if j = i then true else listed.getD j false := by
  by_cases e : j = i
  · subst e; simp [hi]
  · rw [if_neg e]; simp [Array.getElem?_setIfInBounds_ne (fun h => e h.symm)]

/-- The order that came takes a waiting operation. -/
theorem Inv.take {ds : List Deferred} {g : Fr} {listed : Array Bool} {a : Act} {w : World} {L : Nat} {pend : List Nat} {f : Fr} (fit : Fit n ops A) (I : Inv P n ops A ds g listed a w L pend f)
    {i : Nat} {o : Oper} (ho : ops[i]? = some o) (hL : Nat.testBit L i = true) (hl : listed.getD i false = false) (hdep : ∀ j, anc A i j → listed.getD j false = true) :
    ∃ v, ((Region.wanted o (yielded ops a.tmps) = true ∧ (execOp a.eval o).run P w = .ok (.value v) w) ∨ (Region.wanted o (yielded ops a.tmps) = false ∧ v = undef)) ∧
      Inv P n ops A ds g (listed.setIfInBounds i true) (a.put o.dst v) w L pend f := by
  obtain ⟨d, hd, hq, hy⟩ := I.yields i o hL hl ho
  have hfr := fit.free i o ho
  have hi : i < listed.size := by rw [I.size]; exact (Array.getElem?_eq_some_iff.1 ho).1
  have hslots : ∀ t, t ∈ opTmps ops.toList o → a.tmps.getD t undef = f t := by
    intro t ht
    refine I.agree t fun j o' hLj hlj hj hdj => ?_
    by_cases e : j = i
    · subst e
      rw [ho] at hj; cases hj
      rw [hd] at hdj; cases hdj
      exact quiet_self hq hd ht
    · obtain ⟨d', hd', hq', _⟩ := I.yields j o' hLj hlj hj
      rw [hdj] at hd'; cases hd'
      have := hdep j (quiet_named hq' hdj ho (fun h => e h.symm) (List.mem_append_right _ ht))
      rw [this] at hlj; cases hlj
  have hex : execOp a.eval o = execOp (ev f) o := exec_same hfr.2.1 hslots (fun _ => rfl) (fun _ => rfl) (fun _ => rfl)
  have hwant := wantF_of (ops := ops) hslots
  refine ⟨f d, ?_, ?_⟩
  · rw [hex, hwant]
    rcases hy with ⟨h1, h2⟩ | h
    · exact .inl ⟨h1, by rcases h2 with h | h; exact h w; exact h.2.1⟩
    · exact .inr h
  have hput : ∀ t, (a.put o.dst (f d)).tmps.getD t undef = if t = d then f d else a.tmps.getD t undef := by
    intro t
    have hdn : d < a.tmps.size := by rw [I.tsz]; exact hfr.2.2 d hd
    rw [hd]
    by_cases e : t = d
    · subst e; simp [Act.put, hdn]
    · rw [if_neg e]; simp [Act.put, Array.getElem?_setIfInBounds_ne (fun h => e h.symm)]
  refine ⟨by simpa using I.size, fun j hj => ?_, I.cloL, fun k hk j hj => ?_, by rw [hd]; simp [Act.put, I.tsz], by rw [hd]; exact I.dfs, fun t ht => ?_, fun j o' hLj hlj hj => ?_, I.inL, I.same⟩
  · rw [getD_set hi] at hj
    split at hj
    · rename_i e; rw [e]; exact hL
    · exact I.sub j hj
  · rw [getD_set hi] at hk ⊢
    split
    · rfl
    · rename_i hji
      split at hk
      · rename_i e; rw [e] at hj; exact hdep j hj
      · exact I.clo k hk j hj
  · rw [hput]
    split
    · rename_i e; rw [e]
    · rename_i e
      refine I.agree t fun j o' hLj hlj hj hdj => ?_
      by_cases eji : j = i
      · subst eji
        rw [ho] at hj; cases hj
        rw [hd] at hdj; cases hdj
        exact e rfl
      · exact ht j o' hLj (by rw [getD_set hi, if_neg eji]; exact hlj) hj hdj
  · rw [getD_set hi] at hlj
    split at hlj
    · cases hlj
    · exact I.yields j o' hLj hlj hj

theorem testBit_add {L i j : Nat} : Nat.testBit (L ||| 2 ^ i) j = true ↔ (Nat.testBit L j = true ∨ j = i) := by
  rw [Nat.testBit_or, Nat.testBit_two_pow, Bool.or_eq_true, decide_eq_true_eq]
  exact or_congr_right eq_comm

theorem depsIn_iff {L : Nat} {o : Oper} : depsIn L o = true ↔ ∀ e ∈ o.after, Region.binds .any e = true → Nat.testBit L e.on = true := by
  unfold depsIn
  rw [List.all_eq_true]
  constructor
  · intro h e he hb
    have := h e (by simpa using he)
    rw [hb] at this
    simpa using this
  · intro h e he
    cases hb : Region.binds .any e with
    | false => rfl
    | true => rw [h e (by simpa using he) hb]; rfl

theorem deps_anc {L : Nat} {o : Oper} {k : Nat} (fit : Fit n ops A) (ho : ops[k]? = some o) (hL : depsIn L o = true) (hclo : ∀ k, Nat.testBit L k = true → ∀ j, anc A k j → Nat.testBit L j = true) :
    ∀ j, anc A k j → Nat.testBit L j = true := by
  intro j hj
  obtain ⟨e, he, hb, h⟩ := fit.from_ k o j ho hj
  have h0 := depsIn_iff.1 hL e he hb
  rcases h with rfl | h
  · exact h0
  · exact hclo _ h0 _ h

theorem ready_anc {listed : Array Bool} {o : Oper} {k : Nat} (fit : Fit n ops A) (ho : ops[k]? = some o) (hd : ∀ e ∈ o.after, Region.binds .any e = true → listed.getD e.on false = true)
    (hclo : ∀ k, listed.getD k false = true → ∀ j, anc A k j → listed.getD j false = true) : ∀ j, anc A k j → listed.getD j false = true := by
  intro j hj
  obtain ⟨e, he, hb, h⟩ := fit.from_ k o j ho hj
  have h0 := hd e he hb
  rcases h with rfl | h
  · exact h0
  · exact hclo _ h0 _ h

/-- The plan's own order goes on by an operation that only reads. -/
theorem Inv.quiet {ds : List Deferred} {g : Fr} {listed : Array Bool} {a : Act} {w : World} {L : Nat} {pend pend' : List Nat} {f : Fr} (fit : Fit n ops A) (I : Inv P n ops A ds g listed a w L pend f)
    {i : Nat} {o : Oper} (ho : ops[i]? = some o) (hL : Nat.testBit L i = false) (hdep : depsIn L o = true) (hq : okQuiet ops.toList A i o = true) {v : Value}
    (hv : Waits P ops pend' w f i o v) (hp : ∀ j, j ∈ pend → j ∈ pend') :
    Inv P n ops A ds g listed a w (L ||| 2 ^ i) pend' (putF f o.dst v) := by
  obtain ⟨d, hd⟩ : ∃ d, o.dst = some d := by
    unfold okQuiet at hq
    cases h : o.dst with
    | none => rw [h] at hq; cases hq
    | some d => exact ⟨d, rfl⟩
  have hlst : listed.getD i false = false := by
    cases h : listed.getD i false with
    | false => rfl
    | true => have := I.sub i h; rw [hL] at this; cases this
  have other : ∀ j o', Nat.testBit L j = true → ops[j]? = some o' → d ∉ names ops.toList o' := by
    intro j o' hj ho' hn
    have hne : j ≠ i := fun e => by subst e; rw [hL] at hj; cases hj
    have := I.cloL j hj i (quiet_named hq hd ho' hne hn)
    rw [hL] at this; cases this
  have same : ∀ j o', Nat.testBit L j = true → ops[j]? = some o' → execOp (ev (putF f o.dst v)) o' = execOp (ev f) o' := by
    intro j o' hj ho'
    refine exec_same (l := ops.toList) (fit.free j o' ho').2.1 (fun t ht => ?_) (fun _ => rfl) (fun _ => rfl) (fun _ => rfl)
    rw [hd]
    show St.upd f d v t = f t
    exact upd_other _ _ fun e => other j o' hj ho' (List.mem_append_right _ (e ▸ ht))
  have same0 : execOp (ev (putF f o.dst v)) o = execOp (ev f) o := by
    refine exec_same (l := ops.toList) (fit.free i o ho).2.1 (fun t ht => ?_) (fun _ => rfl) (fun _ => rfl) (fun _ => rfl)
    rw [hd]
    show St.upd f d v t = f t
    exact upd_other _ _ fun e => quiet_self hq hd (e ▸ ht)
  refine ⟨I.size, fun j hj => testBit_add.2 (.inl (I.sub j hj)), fun k hk j hj => ?_, I.clo, I.tsz, I.dfs, fun t ht => ?_, fun j o' hLj hlj hj => ?_, fun j hj => ?_, fun t ht => (putF_other fun h => ht i o ho h).trans (I.same t ht)⟩
  · rcases testBit_add.1 hk with hk | rfl
    · exact testBit_add.2 (.inl (I.cloL k hk j hj))
    · exact testBit_add.2 (.inl (deps_anc fit ho hdep I.cloL j hj))
  · have htd : t ≠ d := fun e => ht i o (testBit_add.2 (.inr rfl)) hlst ho (e ▸ hd)
    rw [hd]
    show _ = St.upd f d v t
    rw [upd_other _ _ htd]
    exact I.agree t fun j o' hLj hlj hj => ht j o' (testBit_add.2 (.inl hLj)) hlj hj
  · rcases testBit_add.1 hLj with hLj | rfl
    · obtain ⟨d', hd', hq', hy⟩ := I.yields j o' hLj hlj hj
      have hdd : d' ≠ d := fun e => other j o' hLj hj (List.mem_append_left _ (by rw [hd', e]; simp))
      refine ⟨d', hd', hq', ?_⟩
      have hfd : putF f o.dst v d' = f d' := by rw [hd]; exact upd_other _ _ hdd
      have hs : ∀ t, t ∈ opTmps ops.toList o' → f t = putF f o.dst v t := fun t ht => by rw [hd]; exact (upd_other f v fun (e : t = d) => other j o' hLj hj (List.mem_append_right _ (e ▸ ht))).symm
      unfold Waits
      rw [same j o' hLj hj, hfd, ← wantF_same hs]
      rcases hy with ⟨hw, hy | hy⟩ | hy
      · exact .inl ⟨hw, .inl hy⟩
      · exact .inl ⟨hw, .inr ⟨hp _ hy.1, hy.2.1, hy.2.2.same hs (same j o' hLj hj)⟩⟩
      · exact .inr hy
    · rw [ho] at hj; cases hj
      refine ⟨d, hd, hq, ?_⟩
      have hfd : putF f o.dst v d = v := by rw [hd]; exact upd_same _ _ _
      have hs : ∀ t, t ∈ opTmps ops.toList o → f t = putF f o.dst v t := fun t ht => by rw [hd]; exact (upd_other f v fun (e : t = d) => quiet_self hq hd (e ▸ ht)).symm
      unfold Waits
      rw [same0, hfd, ← wantF_same hs]
      rcases hv with ⟨hw, hv | hv⟩ | hv
      · exact .inl ⟨hw, .inl hv⟩
      · exact .inl ⟨hw, .inr ⟨hv.1, hv.2.1, hv.2.2.same hs same0⟩⟩
      · exact .inr hv
  · rcases testBit_add.1 hj with hj | rfl
    · exact I.inL j hj
    · exact (Array.getElem?_eq_some_iff.1 ho).1

theorem heldC_all {ad : Addr} {w : World} {X : Prop} : ∀ (cs : List Value) (i : Nat), heldC ad i cs w X → (∀ j c, cs[j]? = some c → w.cell? (ad.add (i + j)) = some c) ∧ X := by
  intro cs
  induction cs with
  | nil => intro i h; exact ⟨fun j c hj => by simp at hj, h⟩
  | cons c cs ih =>
    intro i h
    obtain ⟨h0, h1⟩ := h
    obtain ⟨h2, h3⟩ := ih (i + 1) h1
    refine ⟨fun j c' hj => ?_, h3⟩
    cases j with
    | zero => simp at hj; subst hj; exact h0
    | succ j => have := h2 j c' (by simpa using hj); rw [show i + (j + 1) = i + 1 + j by omega]; exact this

theorem heldL_all {f : Fr} {w : World} {X : Prop} : ∀ (hold : List Nat), heldL P ops f w hold X → X ∧ ∀ j ∈ hold, ∃ o t a d ad, ops[j]? = some o ∧ o.op = .load t a ∧ o.dst = some d ∧ ev f a = .pointer (some ad) ∧
    ∀ i c, (partsOf P t (f d))[i]? = some c → w.cell? (ad.add i) = some c := by
  intro hold
  induction hold with
  | nil => intro h; exact ⟨h, fun j hj => by simp at hj⟩
  | cons j js ih =>
    intro h
    unfold heldL held1 at h
    split at h
    · rename_i o ho
      split at h
      · rename_i t a d hop hd
        obtain ⟨ad, had, h⟩ := onPtr_some h
        obtain ⟨h0, h1⟩ := heldC_all _ _ h
        obtain ⟨h2, h3⟩ := ih h1
        refine ⟨h2, fun j' hj' => ?_⟩
        rcases List.mem_cons.1 hj' with rfl | hj'
        · exact ⟨o, t, a, d, ad, ho, hop, hd, had, fun i c hc => by have := h0 i c hc; rwa [Nat.zero_add] at this⟩
        · exact h3 j' hj'
      · exact h.elim
    · exact h.elim

/-- The plan's own order, and the one that came, go on by an operation that acts. -/
theorem Inv.eff {ds : List Deferred} {g : Fr} {listed : Array Bool} {a : Act} {w w' : World} {L : Nat} {pend hold : List Nat} {f : Fr} {X : Prop} (fit : Fit n ops A) (I : Inv P n ops A ds g listed a w L pend f)
    {i : Nat} {o : Oper} (ho : ops[i]? = some o) (hL : Nat.testBit L i = false) (hanc : ∀ j, anc A i j → listed.getD j false = true)
    (hcov : ∀ j ∈ pend, j ∈ hold ∨ anc A i j) {v : Value} (hh : w' = w ∨ heldL P ops f w' hold X) :
    Inv P n ops A ds g (listed.setIfInBounds i true) (a.put o.dst v) w' (L ||| 2 ^ i) pend (putF f o.dst v) := by
  have hi : i < listed.size := by rw [I.size]; exact (Array.getElem?_eq_some_iff.1 ho).1
  have hlst : listed.getD i false = false := by
    cases h : listed.getD i false with
    | false => rfl
    | true => have := I.sub i h; rw [hL] at this; cases this
  have apart : ∀ j o' d, Nat.testBit L j = true → listed.getD j false = false → ops[j]? = some o' → o.dst = some d → d ∉ names ops.toList o' := by
    intro j o' d hj hlj ho' hd hn
    have hne : j ≠ i := fun e => by subst e; rw [hL] at hj; cases hj
    rcases fit.tmps i j o o' d ho ho' hd hne hn with h | h
    · rw [hanc j h] at hlj; cases hlj
    · have := I.cloL j hj i h; rw [hL] at this; cases this
  have same : ∀ j o', Nat.testBit L j = true → listed.getD j false = false → ops[j]? = some o' → ∀ t, t ∈ names ops.toList o' → f t = putF f o.dst v t := by
    intro j o' hj hlj ho' t ht
    cases hd : o.dst with
    | none => rfl
    | some d => exact (upd_other f v fun (e : t = d) => apart j o' d hj hlj ho' hd (e ▸ ht)).symm
  have sameX : ∀ j o', Nat.testBit L j = true → listed.getD j false = false → ops[j]? = some o' → execOp (ev (putF f o.dst v)) o' = execOp (ev f) o' := by
    intro j o' hj hlj ho'
    exact exec_same (l := ops.toList) (fit.free j o' ho').2.1 (fun t ht => (same j o' hj hlj ho' t (List.mem_append_right _ ht)).symm) (fun _ => rfl) (fun _ => rfl) (fun _ => rfl)
  refine ⟨by simpa using I.size, fun j hj => ?_, fun k hk j hj => ?_, fun k hk j hj => ?_, ?_, ?_, fun t ht => ?_, fun j o' hLj hlj hj => ?_, fun j hj => ?_, fun t ht => (putF_other fun h => ht i o ho h).trans (I.same t ht)⟩
  · rw [getD_set hi] at hj
    split at hj
    · rename_i e; exact testBit_add.2 (.inr e)
    · exact testBit_add.2 (.inl (I.sub j hj))
  · rcases testBit_add.1 hk with hk | rfl
    · exact testBit_add.2 (.inl (I.cloL k hk j hj))
    · exact testBit_add.2 (.inl (I.sub j (hanc j hj)))
  · rw [getD_set hi] at hk ⊢
    split
    · rfl
    · split at hk
      · rename_i e; rw [e] at hj; exact hanc j hj
      · exact I.clo k hk j hj
  · cases o.dst with
    | none => exact I.tsz
    | some d => simp [Act.put, I.tsz]
  · cases o.dst with
    | none => exact I.dfs
    | some d => exact I.dfs
  · have hag : ∀ j o', Nat.testBit L j = true → listed.getD j false = false → ops[j]? = some o' → o'.dst ≠ some t := by
      intro j o' hLj hlj hj
      have hne : j ≠ i := fun e => by subst e; rw [hL] at hLj; cases hLj
      exact ht j o' (testBit_add.2 (.inl hLj)) (by rw [getD_set hi, if_neg hne]; exact hlj) hj
    cases hd : o.dst with
    | none => exact I.agree t hag
    | some d =>
      have hdn : d < a.tmps.size := by rw [I.tsz]; exact (fit.free i o ho).2.2 d hd
      by_cases e : t = d
      · subst e
        show _ = St.upd f t v t
        rw [upd_same]; simp [Act.put, hdn]
      · show _ = St.upd f d v t
        rw [upd_other _ _ e, ← I.agree t hag]
        simp [Act.put, Array.getElem?_setIfInBounds_ne (fun h => e h.symm)]
  · rw [getD_set hi] at hlj
    have hne : j ≠ i := fun e => by subst e; simp at hlj
    rw [if_neg hne] at hlj
    have hLj' : Nat.testBit L j = true := (testBit_add.1 hLj).resolve_right hne
    obtain ⟨d', hd', hq', hy⟩ := I.yields j o' hLj' hlj hj
    have hfd : putF f o.dst v d' = f d' := (same j o' hLj' hlj hj d' (List.mem_append_left _ (by rw [hd']; simp))).symm
    refine ⟨d', hd', hq', ?_⟩
    have hs : ∀ t, t ∈ opTmps ops.toList o' → f t = putF f o.dst v t := fun t ht => same j o' hLj' hlj hj t (List.mem_append_right _ ht)
    unfold Waits
    rw [sameX j o' hLj' hlj hj, hfd, ← wantF_same hs]
    rcases hy with ⟨hwant, hy | ⟨hp, hrun0, hld⟩⟩ | hy
    · exact .inl ⟨hwant, .inl hy⟩
    · refine .inl ⟨hwant, .inr ⟨hp, ?_, hld.same hs (sameX j o' hLj' hlj hj)⟩⟩
      rcases hh with rfl | hh
      · exact hrun0
      have hhold : j ∈ hold := by
        rcases hcov j hp with h | h
        · exact h
        · rw [hanc j h] at hlj; cases hlj
      obtain ⟨o2, t2, a2, d2, ad2, ho2, hop2, hd2, had2, hc⟩ := (heldL_all hold hh).2 j hhold
      rw [hj] at ho2; cases ho2
      rw [hd'] at hd2; cases hd2
      obtain ⟨t, a', ad, hop, hev, hrun⟩ := hld
      rw [hop2] at hop; cases hop
      rw [had2] at hev; cases hev
      exact hrun w' hc
    · exact .inr hy
  · rcases testBit_add.1 hj with hj | rfl
    · exact I.inL j hj
    · exact (Array.getElem?_eq_some_iff.1 ho).1
end
end Go.Proofs.YtbmcbbmgdcbhjaaGreatDoor.St
