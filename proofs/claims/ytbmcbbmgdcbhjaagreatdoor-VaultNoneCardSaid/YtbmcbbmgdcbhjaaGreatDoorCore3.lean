/- My own walk: what 'opW' says of an operation is right, the second part. It names no program. -/
import Derived.Test.YtbmcbbmgdcbhjaaGreatDoorCore2
namespace Go.Proofs.YtbmcbbmgdcbhjaaGreatDoor.St
open Go
section
variable {P : Program} {w : World}

def plainEq : Value → Bool
  | .agg _ | .pointer _ | .func _ _ _ | .nilFunc => true
  | _ => false

theorem eqA_guard {op : BinOp} (hop : op = .eql ∨ op = .neq) {t : TypeId} {x y : Value} {f g : Operand} (hx : plainEq x = true) : eqGuard op t f g x y = eqGuard .eql t (.tmp 0) (.tmp 0) x y := by
  rcases hop with rfl | rfl <;> (cases x <;> first | rfl | (cases y <;> rfl) | (simp [plainEq] at hx; done))

theorem eqA_eql {t : TypeId} {x y : Value} {k : Bool → World → Prop} {f g : Operand} (hx : plainEq x = true) (h : eqA P t x y w k) :
    ∃ b w', k b w' ∧ (do eqGuard .eql t f g x y; binOp .eql t x y).run P w = .ok (.bool b) w' := by
  obtain ⟨b, w', hr, hk⟩ := h
  refine ⟨b, w', hk, ?_⟩
  rw [eqA_guard (.inl rfl) hx]
  have hb : binOp .eql t x y = (do pure (.bool (← Op.equal t x y))) := by cases x <;> first | (simp [plainEq] at hx; done) | rfl
  rw [hb]
  simp only [Sem.run_bind] at hr ⊢
  cases hg : (eqGuard .eql t (.tmp 0) (.tmp 0) x y).run P w with
  | halt _ _ => rw [hg] at hr; simp [Result.andThen] at hr
  | ok u w1 => rw [hg] at hr; simp only [Result.andThen] at hr ⊢; rw [hr]; rfl

theorem eqA_neq {t : TypeId} {x y : Value} {k : Bool → World → Prop} {f g : Operand} (hx : plainEq x = true) (h : eqA P t x y w k) :
    ∃ b w', k b w' ∧ (do eqGuard .neq t f g x y; binOp .neq t x y).run P w = .ok (.bool (!b)) w' := by
  obtain ⟨b, w', hr, hk⟩ := h
  refine ⟨b, w', hk, ?_⟩
  rw [eqA_guard (.inr rfl) hx]
  have hb : binOp .neq t x y = (do pure (.bool (!(← Op.equal t x y)))) := by cases x <;> first | (simp [plainEq] at hx; done) | rfl
  rw [hb]
  simp only [Sem.run_bind] at hr ⊢
  cases hg : (eqGuard .eql t (.tmp 0) (.tmp 0) x y).run P w with
  | halt _ _ => rw [hg] at hr; simp [Result.andThen] at hr
  | ok u w1 => rw [hg] at hr; simp only [Result.andThen] at hr ⊢; rw [hr]; rfl

theorem eqW_run {op : BinOp} {t : TypeId} {x y : Value} {K : Value → World → Prop} {f g : Operand} (hx : plainEq x = true)
    (h : match op with | .eql => eqA P t x y w fun b w' => K (.bool b) w' | .neq => eqA P t x y w fun b w' => K (.bool (!b)) w' | _ => False) :
    ∃ v w', K v w' ∧ (do eqGuard op t f g x y; binOp op t x y).run P w = .ok v w' := by
  split at h
  · obtain ⟨b, w', hk, hr⟩ := eqA_eql (f := f) (g := g) hx h; exact ⟨_, _, hk, hr⟩
  · obtain ⟨b, w', hk, hr⟩ := eqA_neq (f := f) (g := g) hx h; exact ⟨_, _, hk, hr⟩
  · exact h.elim

theorem run_guarded {op : BinOp} {t : TypeId} {f g : Operand} {x y v : Value} {w' : World} (h1 : ∀ cs, x ≠ .agg cs) (h2 : x ≠ .nilIface)
    (h : (binOp op t x y).run P w = .ok v w') : (do eqGuard op t f g x y; binOp op t x y).run P w = .ok v w' := by
  simp only [Sem.run_bind, guard_pure h1 h2, Result.andThen]; exact h

theorem equalIn_ptr_nil {t : TypeId} {e : TypeId} (d : Nat) (hu : P.underlying t = some (.pointer e)) (p : Option Addr) : (Op.equalIn (d + 1) t (.pointer p) (.pointer none)).run P w = .ok p.isNone w := by
  simp only [Op.equalIn, Sem.run_bind, run_underlying' hu, Result.andThen]
  cases p <;> rfl
theorem equal_ptr_nil {t : TypeId} {e : TypeId} (hu : P.underlying t = some (.pointer e)) (p : Option Addr) : (Op.equal t (.pointer p) (.pointer none)).run P w = .ok p.isNone w := equalIn_ptr_nil 9999 hu p
theorem equalIn_slice_nil {t : TypeId} {e : TypeId} (n : Nat) (hu : P.underlying t = some (.slice e)) (p : Option Addr) (a b c d : Nat) : (Op.equalIn (n + 1) t (.slice p a b) (.slice none c d)).run P w = .ok p.isNone w := by
  simp only [Op.equalIn, Sem.run_bind, run_underlying' hu, Result.andThen]
  cases p <;> rfl
theorem equal_slice_nil {t : TypeId} {e : TypeId} (hu : P.underlying t = some (.slice e)) (p : Option Addr) (a b c d : Nat) : (Op.equal t (.slice p a b) (.slice none c d)).run P w = .ok p.isNone w := equalIn_slice_nil 9999 hu p a b c d
theorem equalIn_map_nil {t : TypeId} {e k : TypeId} (n : Nat) (hu : P.underlying t = some (.map k e)) (p : Option Nat) : (Op.equalIn (n + 1) t (.map p) (.map none)).run P w = .ok p.isNone w := by
  simp only [Op.equalIn, Sem.run_bind, run_underlying' hu, Result.andThen]
  cases p <;> rfl
theorem equal_map_nil {t : TypeId} {e k : TypeId} (hu : P.underlying t = some (.map k e)) (p : Option Nat) : (Op.equal t (.map p) (.map none)).run P w = .ok p.isNone w := equalIn_map_nil 9999 hu p
theorem equalIn_bool {t : TypeId} (n : Nat) (hu : P.underlying t = some .bool) (a b : Bool) : (Op.equalIn (n + 1) t (.bool a) (.bool b)).run P w = .ok (a == b) w := by
  simp only [Op.equalIn, Sem.run_bind, run_underlying' hu, Result.andThen]
  rfl
theorem equal_bool {t : TypeId} (hu : P.underlying t = some .bool) (a b : Bool) : (Op.equal t (.bool a) (.bool b)).run P w = .ok (a == b) w := equalIn_bool 9999 hu a b

theorem cond_t {A B : Prop} {b : Bool} (hb : b = true) (h : bif b then A else B) : A := by subst hb; exact h
theorem cond_f {A B : Prop} {b : Bool} (hb : b = false) (h : bif b then A else B) : B := by subst hb; exact h
theorem cond_tt {A : Prop} {b : Bool} (h : bif b then A else False) : b = true ∧ A := by cases b with | true => exact ⟨rfl, h⟩ | false => exact h.elim
theorem cond_ff {A : Prop} {b : Bool} (h : bif b then False else A) : b = false ∧ A := by cases b with | false => exact ⟨rfl, h⟩ | true => exact h.elim

theorem equalIn_iface_nil {t : TypeId} (n : Nat) {ms} (hu : P.underlying t = some (.interface ms)) {x : Value} {b : Bool} (hx : nilB x = some b) : (Op.equalIn (n + 1) t x .nilIface).run P w = .ok b w := by
  simp only [Op.equalIn, Sem.run_bind, run_underlying' hu, Result.andThen]
  cases x <;> first | (simp [nilB] at hx; done) | (simp only [nilB, Option.some.injEq] at hx; subst hx; rfl)
theorem equal_iface_nil {t : TypeId} {ms} (hu : P.underlying t = some (.interface ms)) {x : Value} {b : Bool} (hx : nilB x = some b) : (Op.equal t x .nilIface).run P w = .ok b w := equalIn_iface_nil 9999 hu hx
theorem guard_nil {op : BinOp} {t : TypeId} {f : Operand} {x : Value} {b : Bool} (hx : nilB x = some b) : (eqGuard op t f (.const .nilIface) x .nilIface).run P w = .ok () w := by
  cases x <;> first | (simp [nilB] at hx; done) | (unfold eqGuard; cases op <;> simp)
theorem isNilC_eq {y : Operand} (h : isNilC y = true) : y = .const .nilIface := by
  unfold isNilC at h
  split at h
  · rfl
  · cases h
theorem binN_run {op : BinOp} {t : TypeId} {x : Value} {K : Value → World → Prop} {f : Operand} (h : binN P op t x w K) :
    ∃ v w', K v w' ∧ (do eqGuard op t f (.const .nilIface) x .nilIface; binOp op t x .nilIface).run P w = .ok v w' := by
  unfold binN at h
  split at h
  · rename_i ms hu
    split at h
    · obtain ⟨b, hx, h⟩ := h
      refine ⟨_, _, h, ?_⟩
      have hb : binOp .eql t x .nilIface = (do pure (.bool (← Op.equal t x .nilIface))) := by cases x <;> first | (simp [nilB] at hx; done) | rfl
      rw [hb]
      simp [guard_nil hx, equal_iface_nil hu hx, Result.andThen]
    · obtain ⟨b, hx, h⟩ := h
      refine ⟨_, _, h, ?_⟩
      have hb : binOp .neq t x .nilIface = (do pure (.bool (!(← Op.equal t x .nilIface)))) := by cases x <;> first | (simp [nilB] at hx; done) | rfl
      rw [hb]
      simp [guard_nil hx, equal_iface_nil hu hx, Result.andThen]
    · exact h.elim
  · exact h.elim

theorem binW_run {op : BinOp} {t : TypeId} {x y : Value} {K : Value → World → Prop} {f g : Operand} (h : binW P op t x y w K) :
    ∃ v w', K v w' ∧ (do eqGuard op t f g x y; binOp op t x y).run P w = .ok v w' := by
  unfold binW at h
  split at h
  · rename_i k a k' b
    cases hs : isShift op with
    | true =>
      obtain ⟨v, hk, hr⟩ := shI_run (P := P) (kd' := k') (cond_t hs h) t
      exact ⟨v, w, hk, run_guarded (by simp) (by simp) (hr w)⟩
    | false =>
      obtain ⟨he, h'⟩ := cond_tt (cond_f hs h)
      clear h
      obtain rfl := sameK_eq he
      obtain ⟨v, hk, hr⟩ := binI_run (P := P) h' hs t
      exact ⟨v, w, hk, run_guarded (by simp) (by simp) (hr w)⟩
  · obtain ⟨hs, h⟩ := cond_ff h
    obtain ⟨v, hk, hr⟩ := binS_run (P := P) h hs t
    exact ⟨v, w, hk, run_guarded (by simp) (by simp) (hr w)⟩
  · rename_i p q
    split at h
    · rename_i e hu
      cases q with
      | none =>
        split at h
        · exact ⟨_, _, h, run_guarded (by simp) (by simp) (by simp [binOp, equal_ptr_nil hu, Result.andThen])⟩
        · exact ⟨_, _, h, run_guarded (by simp) (by simp) (by simp [binOp, equal_ptr_nil hu, Result.andThen])⟩
        · exact h.elim
      | some b =>
        split at h
        · obtain ⟨b, w', hk, hr⟩ := eqA_eql (f := f) (g := g) rfl h; exact ⟨_, _, hk, hr⟩
        · obtain ⟨b, w', hk, hr⟩ := eqA_neq (f := f) (g := g) rfl h; exact ⟨_, _, hk, hr⟩
        · exact h.elim
    · exact h.elim
  · split at h
    · rename_i e hu
      split at h
      · exact ⟨_, _, h, run_guarded (by simp) (by simp) (by simp [binOp, equal_slice_nil hu, Result.andThen])⟩
      · exact ⟨_, _, h, run_guarded (by simp) (by simp) (by simp [binOp, equal_slice_nil hu, Result.andThen])⟩
      · exact h.elim
    · exact h.elim
  · split at h
    · rename_i e hu
      split at h
      · exact ⟨_, _, h, run_guarded (by simp) (by simp) (by simp [binOp, equal_map_nil hu, Result.andThen])⟩
      · exact ⟨_, _, h, run_guarded (by simp) (by simp) (by simp [binOp, equal_map_nil hu, Result.andThen])⟩
      · exact h.elim
    · exact h.elim
  · split at h
    · rename_i hu
      split at h
      · exact ⟨_, _, h, run_guarded (by simp) (by simp) (by simp [binOp, equal_bool hu, Result.andThen])⟩
      · exact ⟨_, _, h, run_guarded (by simp) (by simp) (by simp [binOp, equal_bool hu, Result.andThen])⟩
      · exact h.elim
    · exact h.elim
  · exact eqW_run rfl h
  · exact eqW_run rfl h
  · exact eqW_run rfl h
  · exact eqW_run rfl h
  · exact h.elim

theorem runV_run {ty : TypeId} {s : Sem Value} {K : Value → World → Prop} (h : runV P ty s w K) : ∃ v w', K v w' ∧ s.run P w = .ok v w' := by
  obtain ⟨v, w', hr, h⟩ := h
  obtain ⟨u, rfl, hk⟩ := exV_ex h
  exact ⟨_, _, hk, hr⟩

theorem cvW_run {ty src dst : TypeId} {x : Value} {K : Value → World → Prop} (h : cvW P ty src dst x w K) : ∃ v w', K v w' ∧ (convert src dst x).run P w = .ok v w' := by
  unfold cvW at h
  split at h
  · rename_i hs hd
    exact ⟨_, _, h, by simp [convert, run_underlying' hs, run_underlying' hd, Result.andThen, Conv.intToInt]⟩
  · rename_i d hs hd
    refine ⟨_, _, h, ?_⟩
    simp only [convert, Sem.run_bind, run_underlying' hs, run_underlying' hd, Result.andThen]
    cases d <;> rfl
  · exact runV_run h

theorem bnd_some {o : Option Value} {d : Int} {k : Int → Prop} (h : bnd o d k) : ∃ n, k n ∧ ((o = none ∧ n = d) ∨ ∃ kd, o = some (.int kd n)) := by
  unfold bnd at h
  split at h
  · exact ⟨_, h, .inl ⟨rfl, rfl⟩⟩
  · exact ⟨_, h, .inr ⟨_, rfl⟩⟩
  · exact h.elim

theorem sliceBound_run {kd : IntKind} {n : Int} {y : Nat} (c : BoundsCode) (h0 : 0 ≤ n) (h1 : n ≤ y) : (Instr.sliceBound (.int kd n) y c).run P w = .ok n.toNat w := by
  simp [Instr.sliceBound, asIntOf, h0, h1]

theorem sliceBounds_run {b : Bool} {len cap : Nat} {lo hi : Option Value} {l h : Int} (hl : (lo = none ∧ l = 0) ∨ ∃ kd, lo = some (.int kd l)) (hh : (hi = none ∧ h = len) ∨ ∃ kd, hi = some (.int kd h))
    (h0 : 0 ≤ l) (h1 : l ≤ h) (h2 : h ≤ cap) : (Instr.sliceBounds b len cap lo hi none).run P w = .ok (l.toNat, h.toNat, cap) w := by
  have h3 : 0 ≤ h := by omega
  rcases hl with ⟨rfl, rfl⟩ | ⟨k1, rfl⟩ <;> rcases hh with ⟨rfl, rfl⟩ | ⟨k2, rfl⟩
  · simp [Instr.sliceBounds]
  · simp [Instr.sliceBounds, Result.andThen, sliceBound_run _ h3 h2]
  · simp [Instr.sliceBounds, Result.andThen, sliceBound_run _ h0 h1]
  · have h1' : l ≤ (h.toNat : Int) := by omega
    simp [Instr.sliceBounds, Result.andThen, sliceBound_run _ h3 h2, sliceBound_run _ h0 h1']

theorem sliceBounds_run3 {b : Bool} {len cap : Nat} {lo : Option Value} {l h m : Int} {k1 k2 : IntKind} (hl : (lo = none ∧ l = 0) ∨ ∃ kd, lo = some (.int kd l))
    (h0 : 0 ≤ l) (h1 : l ≤ h) (h2 : h ≤ m) (h3 : m ≤ cap) : (Instr.sliceBounds b len cap lo (some (.int k1 h)) (some (.int k2 m))).run P w = .ok (l.toNat, h.toNat, m.toNat) w := by
  have h4 : 0 ≤ h := by omega
  have h5 : 0 ≤ m := by omega
  have h6 : h ≤ (m.toNat : Int) := by omega
  have h7 : l ≤ (h.toNat : Int) := by omega
  rcases hl with ⟨rfl, rfl⟩ | ⟨k3, rfl⟩
  · simp [Instr.sliceBounds, Result.andThen, sliceBound_run _ h5 h3, sliceBound_run _ h4 h6]
  · simp [Instr.sliceBounds, Result.andThen, sliceBound_run _ h5 h3, sliceBound_run _ h4 h6, sliceBound_run _ h0 h7]

theorem slW_run {t : TypeId} {x : Value} {lo hi mx : Option Value} {k : Value → Prop} (h : slW P t x lo hi mx k) : ∃ v, k v ∧ ∀ w : World, (Instr.sliceAt t x lo hi mx).run P w = .ok v w := by
  unfold slW at h
  split at h
  · rename_i s hu
    obtain ⟨l, h, hl⟩ := bnd_some h
    obtain ⟨hh, h, hh'⟩ := bnd_some h
    obtain ⟨h0, h1, h2, hk⟩ := h
    refine ⟨_, hk, fun w => ?_⟩
    simp only [Instr.sliceAt, Sem.run_bind, run_underlying' hu, Result.andThen, Instr.slice, Option.isSome_none, Bool.false_eq_true, if_false, Sem.run_pure, sliceBounds_run hl hh' h0 h1 h2]
  · rename_i e a len cap hu
    split at h
    · rename_i i hi'
      obtain ⟨l, h, hl⟩ := bnd_some h
      obtain ⟨hh, h, hh'⟩ := bnd_some h
      obtain ⟨h0, h1, h2, hk⟩ := h
      refine ⟨_, hk, fun w => ?_⟩
      simp only [Instr.sliceAt, Sem.run_bind, run_underlying' hu, Result.andThen, Instr.slice, Sem.run_pure, sliceBounds_run hl hh' h0 h1 h2, run_sizeOf' hi']
    · exact h.elim
  · rename_i e a len cap km m hu
    split at h
    · rename_i i kh hh hi'
      obtain ⟨l, h, hl⟩ := bnd_some h
      obtain ⟨h0, h1, h2, h3, hk⟩ := h
      refine ⟨_, hk, fun w => ?_⟩
      simp only [Instr.sliceAt, Sem.run_bind, run_underlying' hu, Result.andThen, Instr.slice, Sem.run_pure, sliceBounds_run3 hl h0 h1 h2 h3, run_sizeOf' hi']
    · exact h.elim
  · exact h.elim

theorem ixaW_run {t : TypeId} {x i : Value} {k : Value → Prop} (h : ixaW P t x i k) : ∃ v, k v ∧ ∀ w : World, (Instr.indexAt t x i).run P w = .ok v w := by
  unfold ixaW at h
  split at h
  · rename_i e a len cap kd n hu
    split at h
    · rename_i inf hi
      obtain ⟨ad, rfl, h0, h1, hk⟩ := h
      refine ⟨_, hk, fun w => ?_⟩
      simp only [Instr.indexAt, asIntOf, Sem.run_bind, Sem.run_pure, run_underlying' hu, Result.andThen, h0, h1, and_self, if_true, run_sizeOf' hi]
    · exact h.elim
  · rename_i len e ad kd n hu
    split at h
    · rename_i inf hi
      obtain ⟨h0, h1, hk⟩ := h
      refine ⟨_, hk, fun w => ?_⟩
      simp only [Instr.indexAt, asIntOf, Sem.run_bind, Sem.run_pure, run_underlying' hu, Result.andThen, Instr.sureAddr, h0, h1, and_self, if_true, run_sizeOf' hi]
    · exact h.elim
  · exact h.elim

theorem ixW_run {ty t : TypeId} {x i : Value} {K : Value → World → Prop} (h : ixW P ty t x i w K) : ∃ v w', K v w' ∧ (Instr.index t x i).run P w = .ok v w' := by
  unfold ixW at h
  split at h
  · rename_i s kd n hu
    obtain ⟨h0, h1, hk⟩ := h
    refine ⟨_, _, hk, ?_⟩
    have hlt : n.toNat < s.data.size := by have : s.size = s.data.size := rfl; omega
    have hb : (if 0 ≤ n then s[n.toNat]? else none) = some (s.data[n.toNat]'hlt) := by
      rw [if_pos h0]
      show (if _ : _ then _ else _) = _
      rw [dif_pos (by exact hlt)]; rfl
    simp only [Instr.index, asIntOf, Sem.run_bind, Sem.run_pure, run_underlying' hu, Result.andThen, hb]
    simp only [byteAt, Array.getElem?_eq_getElem hlt]; rfl
  · exact runV_run h

theorem fldAddr_run {s : TypeId} {v : Value} {i : Nat} {k : Value → Prop} (h : fldAddr P s v i k) : ∃ x, k x ∧ ∀ w : World, (Instr.fieldAt s v i).run P w = .ok x w := by
  unfold fldAddr at h
  obtain ⟨ad, rfl, h2⟩ := onPtr_some h
  clear h
  split at h2
  · rename_i fs hu
    split at h2
    · rename_i f hf
      split at h2
      · rename_i inf hi
        obtain ⟨hb, hk⟩ := cond_ff h2
        have hne : inf.size ≠ 0 := fun e => by rw [e] at hb; simp at hb
        refine ⟨_, hk, fun w => ?_⟩
        simp only [Instr.fieldAt, Sem.run_bind, Sem.run_pure, run_underlying' hu, Result.andThen, hf, Instr.sureAddr, fieldPlace, run_sizeOf' hi, hne, if_false]
      · exact h2.elim
    · exact h2.elim
  · exact h2.elim

theorem isAgg_run {t : TypeId} {d : TypeDesc} (hu : P.underlying t = some d) : (isAgg t).run P w = .ok (isAggD d) w := by
  simp only [isAgg, Sem.run_bind, Result.andThen, run_underlying' hu]
  cases d <;> rfl

theorem fldW_run {s : TypeId} {v : Value} {i : Nat} {k : Value → Prop} (h : fldW P s v i k) : ∃ x, k x ∧ ∀ w : World, (Instr.field s v i).run P w = .ok x w := by
  unfold fldW at h
  split at h
  · rename_i cs fs hu
    split at h
    · rename_i f hf
      have hpart : ∀ x, (∀ w : World, (part f.type cs f.offset).run P w = .ok x w) → ∀ w : World, (Instr.field s (.agg cs) i).run P w = .ok x w := by
        intro x hx w
        simp only [Instr.field, Sem.run_bind, Sem.run_pure, run_underlying' hu, Result.andThen, hf, asAgg, hx]
      split at h
      · rename_i inf _ hi hd
        exact ⟨_, h, hpart _ (fun w => by simp [part, Result.andThen, isAgg_run hd, isAggD, run_sizeOf' hi])⟩
      · rename_i inf _ _ hi hd
        exact ⟨_, h, hpart _ (fun w => by simp [part, Result.andThen, isAgg_run hd, isAggD, run_sizeOf' hi])⟩
      · rename_i inf d hn1 hn2 hi hd
        split at h
        · rename_i c hc
          refine ⟨_, h, hpart _ (fun w => ?_)⟩
          have hg : isAggD d = false := by cases d <;> first | rfl | (exfalso; simp_all; done)
          simp [part, Result.andThen, isAgg_run hd, hg, hc]
        · exact h.elim
      · exact h.elim
    · exact h.elim
  · exact h.elim

theorem lenW_run {ty t : TypeId} {ats : List TypeId} {xs : List Value} {x : Value} {k : Value → Prop} (h : lenW P t x w k) : ∃ v, k v ∧ (Builtin.len_ ⟨t :: ats⟩ ty ⟨x :: xs⟩).run P w = .ok v w := by
  unfold lenW at h
  split at h
  · rename_i s hu; exact ⟨_, h, by simp [Builtin.len_, run_underlying' hu, Result.andThen, goInt]⟩
  · rename_i e a n c hu; exact ⟨_, h, by simp [Builtin.len_, run_underlying' hu, Result.andThen, goInt]⟩
  · rename_i e a m hu
    unfold lenM at h
    split at h
    · exact ⟨_, h, by simp [Builtin.len_, run_underlying' hu, Result.andThen, goInt]⟩
    · obtain ⟨es, clock, hh, hk⟩ := h
      exact ⟨_, hk, by simp [Builtin.len_, run_underlying' hu, Result.andThen, goInt, getObj, Sem.run, hh]⟩
  · exact h.elim

theorem mmI_run : ∀ (rest : List Value) (x : Value) (k : Value → Prop), (mmI true x rest k → ∃ v, k v ∧ ∀ w : World, (rest.foldlM Builtin.max2 x).run P w = .ok v w) ∧ (mmI false x rest k → ∃ v, k v ∧ ∀ w : World, (rest.foldlM Builtin.min2 x).run P w = .ok v w) := by
  intro rest
  induction rest with
  | nil => intro x k; exact ⟨fun h => ⟨_, h, fun _ => rfl⟩, fun h => ⟨_, h, fun _ => rfl⟩⟩
  | cons y rest ih =>
    intro x k
    constructor
    · intro h
      unfold mmI at h
      split at h
      · simp at *
      · rename_i kd a kd' b rest' he
        injection he with he1 he2
        subst he1 he2
        obtain ⟨hs, h⟩ := cond_tt h
        obtain ⟨v, hk, hr⟩ := (ih _ _).1 h
        refine ⟨v, hk, fun w => ?_⟩
        simp only [List.foldlM_cons, Sem.run_bind, Builtin.max2, Sem.run_pure, Result.andThen]
        exact hr w
      · exact h.elim
    · intro h
      unfold mmI at h
      split at h
      · simp at *
      · rename_i kd a kd' b rest' he
        injection he with he1 he2
        subst he1 he2
        obtain ⟨hs, h⟩ := cond_tt h
        obtain ⟨v, hk, hr⟩ := (ih _ _).2 h
        refine ⟨v, hk, fun w => ?_⟩
        simp only [List.foldlM_cons, Sem.run_bind, Builtin.min2, Sem.run_pure, Result.andThen]
        exact hr w
      · exact h.elim
end
end Go.Proofs.YtbmcbbmgdcbhjaaGreatDoor.St
