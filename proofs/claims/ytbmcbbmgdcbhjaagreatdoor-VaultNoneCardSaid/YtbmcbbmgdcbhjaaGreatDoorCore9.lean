/- My own walk: a code's walk out of 'wpC'; a function's contract. It names no program. -/
import Derived.Test.YtbmcbbmgdcbhjaaGreatDoorCore8
import Derived.Laws.IdiomRangeMap
namespace Go.Proofs.YtbmcbbmgdcbhjaaGreatDoor.St
open Go

def thenP (K : Fr → List Deferred → World → Prop) (Q : Post) : Post
  | .normal, f, ds, w => K f ds w
  | .exit i, f, ds, w => Q (.exit i) f ds w
  | .goto i, f, ds, w => Q (.goto i) f ds w
  | .ret, f, ds, w => Q .ret f ds w
  | .panic c, f, ds, w => Q (.panic c) f ds w
  | .outgrown, f, ds, w => Q .outgrown f ds w

def inBlockP (id : Nat) (Q : Post) : Post
  | .exit i, f, ds, w => bif Nat.beq i id then Q .normal f ds w else Q (.exit i) f ds w
  | .normal, f, ds, w => Q .normal f ds w
  | .goto i, f, ds, w => Q (.goto i) f ds w
  | .ret, f, ds, w => Q .ret f ds w
  | .panic c, f, ds, w => Q (.panic c) f ds w
  | .outgrown, f, ds, w => Q .outgrown f ds w

/-- Operations in the order of the text; an operation that a guard holds back is left out. -/
def wpL (P : Program) (ops : Array Oper) (Q : Fr → World → Prop) : List Oper → Nat → Fr → World → Prop
  | [], _, f, w => Q f w
  | o :: rest, i, f, w =>
    ifWant ops o f (opW P o.op o.type f w fun v w' => partB (isSrc ops.toList i) v fun v => wpL P ops Q rest (i + 1) (putF f o.dst v) w')
      (wpL P ops Q rest (i + 1) (putF f o.dst undef) w)

/-! ### Loops: the slots that a round hands on, by their kinds -/
inductive LT
  | one (c : CT)
  | agg (cs : List CT)

def FnC (α : Type) : List CT → Type
  | [] => α
  | .int _ :: cs => Int → FnC α cs
  | .bool :: cs => Bool → FnC α cs
  | .str :: cs => ByteArray → FnC α cs
  | .ptr :: cs => Option Addr → FnC α cs
  | .slice :: cs => Option Addr → Nat → Nat → FnC α cs
  | .map :: cs => Option Nat → FnC α cs
  | .func :: cs => Value → FnC α cs
  | .other :: cs => Value → FnC α cs

def apC {α : Type} (d : α) : (cs : List CT) → FnC α cs → List Value → α
  | [], g, vs => (match vs with | [] => g | _ :: _ => d)
  | .int k :: cs, g, vs => (match vs with | .int k' x :: vs => bif sameK k k' then apC d cs (g x) vs else d | _ => d)
  | .bool :: cs, g, vs => (match vs with | .bool x :: vs => apC d cs (g x) vs | _ => d)
  | .str :: cs, g, vs => (match vs with | .string x :: vs => apC d cs (g x) vs | _ => d)
  | .ptr :: cs, g, vs => (match vs with | .pointer x :: vs => apC d cs (g x) vs | _ => d)
  | .slice :: cs, g, vs => (match vs with | .slice a l c :: vs => apC d cs (g a l c) vs | _ => d)
  | .map :: cs, g, vs => (match vs with | .map x :: vs => apC d cs (g x) vs | _ => d)
  | .func :: cs, g, vs => (match vs with | x :: vs => apC d cs (g x) vs | [] => d)
  | .other :: cs, g, vs => (match vs with | x :: vs => apC d cs (g x) vs | [] => d)

def allC : List CT → List Value → (List Value → Prop) → Prop
  | [], acc, K => K acc.reverse
  | .int k :: cs, acc, K => ∀ x : Int, allC cs (.int k x :: acc) K
  | .bool :: cs, acc, K => ∀ x : Bool, allC cs (.bool x :: acc) K
  | .str :: cs, acc, K => ∀ x : ByteArray, allC cs (.string x :: acc) K
  | .ptr :: cs, acc, K => ∀ x : Option Addr, allC cs (.pointer x :: acc) K
  | .slice :: cs, acc, K => ∀ (a : Option Addr) (l c : Nat), allC cs (.slice a l c :: acc) K
  | .map :: cs, acc, K => ∀ x : Option Nat, allC cs (.map x :: acc) K
  | .func :: cs, acc, K => ∀ x : Value, allC cs (x :: acc) K
  | .other :: cs, acc, K => ∀ x : Value, allC cs (x :: acc) K

def ctS : List (Nat × LT) → List CT
  | [] => []
  | (_, .one c) :: r => c :: ctS r
  | (_, .agg cs) :: r => cs ++ ctS r

def rdS : List (Nat × LT) → Fr → List Value
  | [], _ => []
  | (t, .one _) :: r, f => f t :: rdS r f
  | (t, .agg cs) :: r, f => (match f t with | .agg a => bif Nat.beq a.toList.length cs.length then a.toList else [] | _ => []) ++ rdS r f

def wrS : List (Nat × LT) → List Value → Fr → Fr
  | [], _, f => f
  | (t, .one _) :: r, v :: vs, f => upd (wrS r vs f) t v
  | (_, .one _) :: _, [], f => f
  | (t, .agg cs) :: r, vs, f => upd (wrS r (vs.drop cs.length) f) t (.agg ⟨vs.take cs.length⟩)

def mix (W : List Nat) (u f : Fr) : Fr := fun t => bif hasN t W then u t else f t

/-- A loop: what holds at each round's head (I), and a number that falls (μ), of the slots that a round hands on. W: all slots that a round writes. -/
def loopW (W : List Nat) (ss : List (Nat × LT)) (body : Post → Fr → List Deferred → World → Prop) (Q : Post) (f : Fr) (ds : List Deferred) (w : World) : Prop :=
  ∃ (I : FnC (World → Prop) (ctS ss)) (μ : FnC (World → Nat) (ctS ss)),
    apC (fun _ => False) (ctS ss) I (rdS ss f) w ∧
    ∀ u : Fr, allC (ctS ss) [] fun vs => ∀ w : World, apC (fun _ => False) (ctS ss) I vs w →
      body (thenP (fun f' _ w' => apC (fun _ => False) (ctS ss) I (rdS ss f') w' ∧ apC (fun _ => 0) (ctS ss) μ (rdS ss f') w' < apC (fun _ => 0) (ctS ss) μ vs w) Q) (wrS ss vs (mix W u f)) ds w

/-- How many loops a code holds. -/
def nl : Code → Nat
  | .seq a b => nl a + nl b + 1
  | .cond _ a b => nl a + nl b
  | .block _ c => nl c
  | .loop c => nl c + 1
  | .rangeFunc _ _ a b => nl a + nl b
  | .scope c => nl c
  | _ => 0

/-- The slots that a code writes. -/
def wrC : Code → List Nat
  | .region _ ops _ => ops.toList.filterMap (·.dst)
  | .seq a b => wrC a ++ wrC b
  | .cond _ a b => wrC a ++ wrC b
  | .block _ c => wrC c
  | .loop c => wrC c
  | .scope c => wrC c
  | _ => []

def hasRF : Code → Bool
  | .seq a b => hasRF a || hasRF b
  | .cond _ a b => hasRF a || hasRF b
  | .block _ c => hasRF c
  | .loop c => hasRF c
  | .scope c => hasRF c
  | .rangeFunc _ _ _ _ => true
  | _ => false

/-- A tested slot's value is known behind the test. -/
def known (f : Fr) (c : Operand) (b : Bool) : Fr :=
  match c with
  | .tmp t => upd f t (.bool b)
  | _ => f

theorem known_eq {f : Fr} {c : Operand} {b : Bool} (h : ev f c = .bool b) : known f c b = f := by
  cases c with
  | tmp t =>
    funext u
    show St.upd f t (.bool b) u = f u
    by_cases e : u = t
    · subst e; rw [upd_same]; exact h.symm
    · exact upd_other _ _ e
  | _ => rfl

/-- Only a normal end. -/
def onlyP (K : Fr → World → Prop) : Post
  | .normal, f, _, w => K f w
  | _, _, _, _ => False

/-- A sequence's own list: a cut's slots stand behind a mark. -/
def isCut : List (Nat × LT) → Option (List (Nat × LT))
  | (_, .agg []) :: ss => some ss
  | _ => none

/-- A sequence that is cut: what holds between its parts, of the slots that the first one writes. -/
def cutW (W : List Nat) (ss : List (Nat × LT)) (A : Post → Fr → List Deferred → World → Prop) (B : Fr → List Deferred → World → Prop) (Q : Post) (f : Fr) (ds : List Deferred) (w : World) : Prop :=
  ∃ J : FnC (World → Prop) (ctS ss), A (thenP (fun f' _ w' => apC (fun _ => False) (ctS ss) J (rdS ss f') w') Q) f ds w ∧
    ∀ u : Fr, allC (ctS ss) [] fun vs => ∀ w : World, apC (fun _ => False) (ctS ss) J vs w → B (wrS ss vs (mix W u f)) ds w

/-- Behind a scope through which nothing jumps. -/
def noGotoP (Q : Post) : Post := fun e f ds w => match e with | .goto _ => False | e => Q e f ds w
/-- WHAT MUST HOLD SO THAT A CODE ENDS IN Q. 'ls': of each loop, in the order of the text (k: the number of the first one), the slots that a round hands on. -/
def wpC (r : Option Nat) (P : Program) (n : Nat) (pl : Nat → Plan) (ls : Nat → List (Nat × LT)) : Code → Nat → Post → Fr → List Deferred → World → Prop
  | .skip, _, Q, f, ds, w => Q .normal f ds w
  | .region id ops draw, _, Q, f, ds, w => (match draw with
    | false => wpL P ops (fun f' w' => Q .normal f' ds w') ops.toList 0 f w
    | true => atW w.drew (plW P ops (fun f' w' => Q .normal f' ds w') (pl id) f))
  | .seq a b, k, Q, f, ds, w =>
    match isCut (ls k) with
    | none => wpC r P n pl ls a (k + 1) (thenP (wpC r P n pl ls b (k + 1 + nl a) Q) Q) f ds w
    | some ss => cutW (wrC a) ss (wpC r P n pl ls a (k + 1)) (wpC r P n pl ls b (k + 1 + nl a) Q) Q f ds w
  | .cond c t e, k, Q, f, ds, w =>
    match ev f c with
    | .bool b => ifK b (wpC r P n pl ls t k Q (known f c true) ds w) (wpC r P n pl ls e (k + nl t) Q (known f c false) ds w)
    | _ => False
  | .block id c, k, Q, f, ds, w => wpC r P n pl ls c k (inBlockP id Q) f ds w
  | .loop c, k, Q, f, ds, w => loopW (wrC c) (ls k) (wpC r P n pl ls c (k + 1)) Q f ds w
  | .rangeFunc g ps a b, k, Q, f, ds, w =>
    match r, ps.toList with
    | none, [p] => rfW P (ev f g) w (fun x w1 bg en => wpC (some (w.heap.size + 1)) P n pl ls a k (onlyP fun f1 wa => bg (wpC (some (w.heap.size + 1)) P n pl ls b (k + nl a) (onlyP fun _ wc => en wc) f1 []) wa) (upd f p x) [] w1)
        (fun w3 => Q .normal f ({ target := .collected w.heap.size, args := #[] } :: ds) w3)
    | _, _ => False
  | .exit id, _, Q, f, ds, w => Q (.exit id) f ds w
  | .ret, _, Q, f, ds, w => Q .ret f ds w
  | .scope c, k, Q, f, ds, w => wpC r P n pl ls c k (noGotoP Q) f ds w
  | .label _, _, Q, f, ds, w => Q .normal f ds w
  | _, _, _, _, _, _ => False

def okLT : LT → Bool
  | .agg [] => false
  | _ => true

/-- The closed facts on a code. -/
def okCode (n : Nat) (pl : Nat → Plan) (ls : Nat → List (Nat × LT)) : Code → Nat → Bool
  | .region id ops draw, _ => (match draw with
    | false => ops.toList.all fun o => match o.dst with | some d => Nat.blt d n | none => true
    | true => okRegion n ops.toList (pl id))
  | .seq a b, k => (match isCut (ls k) with
      | none => true
      | some ss => !(hasRF a) && (ss.all fun s => hasN s.1 (wrC a)) && (ss.all fun s => okLT s.2)) &&
    okCode n pl ls a (k + 1) && okCode n pl ls b (k + 1 + nl a)
  | .cond _ t e, k => okCode n pl ls t k && okCode n pl ls e (k + nl t)
  | .block _ c, k => okCode n pl ls c k
  | .scope c, k => okCode n pl ls c k
  | .rangeFunc _ ps a b, k => (ps.toList.all fun p => Nat.blt p n) && !(hasRF a) && !(hasRF b) && okCode n pl ls a k && okCode n pl ls b (k + nl a)
  | .loop c, k => !(hasRF c) && ((ls k).all fun s => hasN s.1 (wrC c)) && ((ls k).all fun s => okLT s.2) && okCode n pl ls c (k + 1)
  | _, _ => true

section
variable {P : Program} {n : Nat} {r : Option Nat} {pl : Nat → Plan} {ls : Nat → List (Nat × LT)}

/-- What a code leaves as it was. -/
def SameP (c : Code) (f0 : Fr) (ds0 : List Deferred) (f : Fr) (ds : List Deferred) : Prop := (∀ t, t ∉ wrC c → f t = f0 t) ∧ (hasRF c = false → ds = ds0)

theorem thenP_act {K : Fr → List Deferred → World → Prop} {Q : Post} {k : Act → World → Prop} (hk : ∀ a f ds w, Rl n a f ds → K f ds w → k a w) (e : Exit) (a : Act) (w : World)
    (h : ∃ f ds, Rl n a f ds ∧ thenP K Q e f ds w) : Exit.then k (fun e a w => ∃ f ds, Rl n a f ds ∧ Q e f ds w) e a w := by
  obtain ⟨f, ds, hR, h⟩ := h
  cases e with
  | normal => exact hk a f ds w hR h
  | _ => exact ⟨f, ds, hR, h⟩

theorem inBlockP_act {id : Nat} {Q : Post} (e : Exit) (a : Act) (w : World) (h : ∃ f ds, Rl n a f ds ∧ inBlockP id Q e f ds w) :
    Exit.inBlock id (fun e a w => ∃ f ds, Rl n a f ds ∧ Q e f ds w) e a w := by
  obtain ⟨f, ds, hR, h⟩ := h
  cases e with
  | exit i =>
    simp only [Exit.inBlock]
    by_cases hi : i = id
    · subst hi; rw [if_pos rfl]; simp only [inBlockP, beq_self, cond_true] at h; exact ⟨f, ds, hR, h⟩
    · rw [if_neg hi]; simp only [inBlockP, beq_ne hi, cond_false] at h; exact ⟨f, ds, hR, h⟩
  | _ => exact ⟨f, ds, hR, h⟩

theorem wpL_sound {ops : Array Oper} {Q : Fr → World → Prop} {Qe : Exit → Act → World → Prop} {ds : List Deferred} {g : Fr}
    (hQ : ∀ a f w, Rl n a f ds → (∀ t, (∀ (j : Nat) (o : Oper), ops[j]? = some o → o.dst ≠ some t) → f t = g t) → Q f w → Qe .normal a w) :
    ∀ (l : List Oper) (k : Nat), (∀ j, l[j]? = ops[k + j]?) → (l.all fun o => match o.dst with | some d => Nat.blt d n | none => true) = true → ∀ (m : Nat) (f : Fr) (a : Act) (w : World), Rl n a f ds →
      (∀ t, (∀ (j : Nat) (o : Oper), ops[j]? = some o → o.dst ≠ some t) → f t = g t) → wpL P ops Q l m f w → wpOpsIn (wide r) 0 P ops Qe (List.range' k l.length) a w := by
  intro l
  induction l with
  | nil => intro k _ _ m f a w hR hs h; exact hQ a f w hR hs h
  | cons o l ih =>
    intro k hkl hok m f a w hR hs h
    have h0 : ops[k]? = some o := by simpa using (hkl 0).symm
    have hl : ∀ j, l[j]? = ops[k + 1 + j]? := fun j => by have := hkl (j + 1); simpa [Nat.add_assoc, Nat.add_comm 1 j] using this
    rw [List.all_cons, Bool.and_eq_true] at hok
    have hd : ∀ d, o.dst = some d → d < n := fun d hd => by have := hok.1; rw [hd] at this; exact Nat.le_of_ble_eq_true this
    have next : ∀ v w', wpL P ops Q l (m + 1) (putF f o.dst v) w' → wpOpsIn (wide r) 0 P ops Qe (List.range' (k + 1) l.length) (a.put o.dst v) w' :=
      fun v w' h => ih (k + 1) hl hok.2 _ _ _ _ (hR.put v hd) (fun t ht => (putF_other (ht k o h0)).trans (hs t ht)) h
    simp only [List.length_cons, List.range'_succ, wpOpsIn, h0]
    have hwant := wantF_of (ops := ops) (a := a) (f := f) (o := o) fun t _ => hR.get t
    unfold wpL at h
    rw [hwant]
    rcases ifWant_or h with ⟨hw, h⟩ | ⟨hw, h⟩
    · rw [if_pos hw]
      exact opW_sound h hR.eval fun v w' h => next v w' (partB_K h)
    · rw [if_neg (by rw [hw]; simp)]
      exact ⟨fun _ _ => trivial, next undef w h⟩

theorem not_dst {ops : Array Oper} {t : Nat} (h : t ∉ ops.toList.filterMap (·.dst)) : ∀ (j : Nat) (o : Oper), ops[j]? = some o → o.dst ≠ some t := by
  intro j o hj hd
  exact h (List.mem_filterMap.2 ⟨o, List.mem_of_getElem? (by simpa using hj : ops.toList[j]? = some o), hd⟩)

/-! ### Loops -/
/-- A loop, by what holds at each round's head and a number that falls. -/
theorem SW_loop {c : Code} {Q : Post} {f : Fr} {ds : List Deferred} {w : World} (I : Fr → World → Prop) (μ : Fr → World → Nat) (h0 : I f w)
    (round : ∀ f w, I f w → SW r P n c (thenP (fun f' ds' w' => ds' = ds ∧ I f' w' ∧ μ f' w' < μ f w) Q) f ds w) : SW r P n (.loop c) Q f ds w := by
  intro a hR
  let fr : Act → Fr := fun a t => a.tmps.getD t undef
  refine wpIn_loop (fun a w => Rl n a (fr a) ds ∧ I (fr a) w) (fun a w => μ (fr a) w) ⟨⟨hR.size, hR.defs, fun _ => rfl⟩, ?_⟩ ?_
  · have : fr a = f := funext hR.get
    rw [this]; exact h0
  · intro a w ⟨hR, hI⟩
    refine wpIn_mono (round (fr a) w hI a hR) fun e a' w' ⟨f', ds', hR', h⟩ => ?_
    cases e with
    | normal =>
      obtain ⟨rfl, hI', hlt⟩ := h
      have : fr a' = f' := funext hR'.get
      refine ⟨⟨⟨hR'.size, hR'.defs, fun _ => rfl⟩, ?_⟩, ?_⟩
      · rw [this]; exact hI'
      · rw [this]; exact hlt
    | _ => exact ⟨f', ds', hR', h⟩

theorem apC_cons {g : World} {c : CT} {cs : List CT} {I : FnC (World → Prop) (c :: cs)} {vs : List Value} (h : apC (fun _ => False) (c :: cs) I vs g) :
    ∃ v vs' J, vs = v :: vs' ∧ apC (fun _ => False) cs J vs' g ∧ ∀ (acc : List Value) (K : List Value → Prop), allC (c :: cs) acc K → allC cs (v :: acc) K := by
  cases c with
  | int k =>
    unfold apC at h
    split at h
    · rename_i k' x vs'
      cases hk : sameK k k' with
      | true =>
        rw [hk] at h
        obtain rfl := sameK_eq hk
        exact ⟨_, _, _, rfl, h, fun acc K ha => ha x⟩
      | false => rw [hk] at h; exact h.elim
    · exact h.elim
  | bool => unfold apC at h; split at h; · exact ⟨_, _, _, rfl, h, fun acc K ha => ha _⟩
            · exact h.elim
  | str => unfold apC at h; split at h; · exact ⟨_, _, _, rfl, h, fun acc K ha => ha _⟩
           · exact h.elim
  | ptr => unfold apC at h; split at h; · exact ⟨_, _, _, rfl, h, fun acc K ha => ha _⟩
           · exact h.elim
  | slice => unfold apC at h; split at h; · exact ⟨_, _, _, rfl, h, fun acc K ha => ha _ _ _⟩
             · exact h.elim
  | map => unfold apC at h; split at h; · exact ⟨_, _, _, rfl, h, fun acc K ha => ha _⟩
           · exact h.elim
  | func => unfold apC at h; split at h; · exact ⟨_, _, _, rfl, h, fun acc K ha => ha _⟩
            · exact h.elim
  | other => unfold apC at h; split at h; · exact ⟨_, _, _, rfl, h, fun acc K ha => ha _⟩
             · exact h.elim

theorem apC_nil {g : World} {I : FnC (World → Prop) []} {vs : List Value} (h : apC (fun _ => False) [] I vs g) : vs = [] := by
  unfold apC at h
  split at h
  · rfl
  · exact h.elim

theorem apC_len {g : World} : ∀ (cs : List CT) (I : FnC (World → Prop) cs) (vs : List Value), apC (fun _ => False) cs I vs g → vs.length = cs.length := by
  intro cs
  induction cs with
  | nil => intro I vs h; rw [apC_nil h]; rfl
  | cons c cs ih =>
    intro I vs h
    obtain ⟨v, vs', J, rfl, h, _⟩ := apC_cons h
    simp [ih _ _ h]

theorem apC_all {g : World} : ∀ (cs : List CT) (I : FnC (World → Prop) cs) (vs acc : List Value) (K : List Value → Prop), allC cs acc K → apC (fun _ => False) cs I vs g → K (acc.reverse ++ vs) := by
  intro cs
  induction cs with
  | nil => intro I vs acc K ha h; rw [apC_nil h, List.append_nil]; exact ha
  | cons c cs ih =>
    intro I vs acc K ha h
    obtain ⟨v, vs', J, rfl, h, hall⟩ := apC_cons h
    have := ih J vs' (v :: acc) K (hall _ _ ha) h
    simpa using this

theorem rdS_len : ∀ (ss : List (Nat × LT)) (f : Fr), (rdS ss f).length ≤ (ctS ss).length := by
  intro ss f
  induction ss with
  | nil => simp [rdS]
  | cons s ss ih =>
    obtain ⟨t, l⟩ := s
    cases l with
    | one c => simp only [rdS, ctS, List.length_cons]; omega
    | agg cs =>
      simp only [rdS, ctS, List.length_append]
      split
      · cases hb : Nat.beq _ cs.length with
        | true => have := Nat.eq_of_beq_eq_true hb; simp only [cond_true]; omega
        | false => simp only [cond_false, List.length_nil]; omega
      · simp only [List.length_nil]; omega

theorem wrS_rd : ∀ (ss : List (Nat × LT)) (f h : Fr), (ss.all fun s => okLT s.2) = true → (rdS ss f).length = (ctS ss).length → ∀ t, wrS ss (rdS ss f) h t = if t ∈ ss.map (·.1) then f t else h t := by
  intro ss f h
  induction ss with
  | nil => intro _ _ t; simp [wrS]
  | cons s ss ih =>
    obtain ⟨s, l⟩ := s
    intro hok hl t
    rw [List.all_cons, Bool.and_eq_true] at hok
    cases l with
    | one c =>
      simp only [rdS, ctS, List.length_cons, Nat.add_right_cancel_iff] at hl
      simp only [rdS, wrS, List.map_cons, List.mem_cons]
      by_cases e : t = s
      · subst e; rw [upd_same]; simp
      · rw [upd_other _ _ e, ih hok.2 hl t]
        by_cases hm : t ∈ ss.map (·.1)
        · rw [if_pos hm, if_pos (Or.inr hm)]
        · rw [if_neg hm, if_neg (fun h => h.elim e hm)]
    | agg cs =>
      have hle := rdS_len ss f
      have hpos : 0 < cs.length := by
        cases cs with
        | nil => simp [okLT] at hok
        | cons c cs => simp
      simp only [ctS, List.length_append] at hl
      have hcs : ∃ a : Array Value, f s = .agg a ∧ a.toList.length = cs.length := by
        unfold rdS at hl
        split at hl
        · rename_i a ha
          cases hb : Nat.beq a.toList.length cs.length with
          | true => exact ⟨a, ha, Nat.eq_of_beq_eq_true hb⟩
          | false =>
            rw [hb] at hl
            simp only [cond_false, List.nil_append] at hl
            omega
        · simp only [List.length_append, List.length_nil] at hl
          omega
      obtain ⟨a, ha, hlen⟩ := hcs
      have hr : rdS ((s, .agg cs) :: ss) f = a.toList ++ rdS ss f := by
        simp only [rdS, ha, hlen, beq_self, cond_true]
      rw [hr] at hl ⊢
      have hl' : (rdS ss f).length = (ctS ss).length := by
        simp only [List.length_append] at hl
        omega
      simp only [wrS, List.map_cons, List.mem_cons]
      have hd : (a.toList ++ rdS ss f).drop cs.length = rdS ss f := by rw [← hlen]; simp
      have ht : (a.toList ++ rdS ss f).take cs.length = a.toList := by rw [← hlen]; simp
      rw [hd, ht]
      by_cases e : t = s
      · subst e; rw [upd_same]; simp [ha]
      · rw [upd_other _ _ e, ih hok.2 hl' t]
        by_cases hm : t ∈ ss.map (·.1)
        · rw [if_pos hm, if_pos (Or.inr hm)]
        · rw [if_neg hm, if_neg (fun h => h.elim e hm)]

/-- The record of a range over a function. -/
def rfRec (fn : FuncId) (tmps : Array Value) (p : Nat) (x y : Code) (D : Nat) (st : LoopState) : Loop :=
  { state := st, pending := none, fn, tmps, params := #[p], assign := x, body := y, defers := D }

theorem rf_sound {g : Operand} {ps : Array Tmp} {p : Nat} {x y : Code} {K : World → Prop} {Q : Post} {f : Fr} {ds : List Deferred} {w : World} {BX : Post → Fr → List Deferred → World → Prop} {BY : Post → Fr → List Deferred → World → Prop}
    (hps : ps.toList = [p]) (hpn : p < n) (hrx : hasRF x = false)
    (hx : ∀ (Q : Post) (f : Fr) (w' : World), BX Q f [] w' → SW (some (w.heap.size + 1)) P n x (fun e f' ds' w' => Q e f' ds' w' ∧ SameP x f [] f' ds') f [] w')
    (hy : ∀ (Q : Post) (f : Fr) (w' : World), BY Q f [] w' → SW (some (w.heap.size + 1)) P n y (fun e f' ds' w' => Q e f' ds' w' ∧ SameP y f [] f' ds') f [] w')
    (h : rfW P (ev f g) w (fun v w1 bg en => BX (onlyP fun f1 wa => bg (BY (onlyP fun _ wc => en wc) f1 []) wa) (St.upd f p v) [] w1) K)
    (hQ : ∀ w3, K w3 → Q .normal f ({ target := .collected w.heap.size, args := #[] } :: ds) w3) :
    SW none P n (.rangeFunc g ps x y) (fun e f' ds' w' => Q e f' ds' w' ∧ SameP (.rangeFunc g ps x y) f ds f' ds') f ds w := by
  intro a hR
  have hps' : ps = #[p] := by apply Array.toList_inj.1; rw [hps]
  subst hps'
  obtain ⟨⟨gf, first, cap, hfv⟩, h⟩ := h
  refine wpIn_rangeFunc ?_
  intro fn hfn
  let w1 : World := (w.alloc (.deferred (some []))).alloc (.loop (rfRec fn a.tmps p x y w.heap.size .ready))
  have hD1 : w1.heap[w.heap.size]? = some (.deferred (some [])) := (heap_alloc_old (w.alloc (.deferred (some []))) _ (by rw [World.size_alloc]; omega)).trans (heap_alloc_new w _)
  have hL1 : w1.heap[w.heap.size + 1]? = some (.loop (rfRec fn a.tmps p x y w.heap.size .ready)) := by
    have := heap_alloc_new (w.alloc (.deferred (some []))) (.loop (rfRec fn a.tmps p x y w.heap.size .ready))
    rwa [World.size_alloc] at this
  have hs1 : w1.heap.size = w.heap.size + 2 := by
    show ((w.alloc (.deferred (some []))).alloc (.loop (rfRec fn a.tmps p x y w.heap.size .ready))).heap.size = _
    rw [World.size_alloc, World.size_alloc]
  have hm1 : Mod (fun _ => False) w w1 := ⟨rfl, rfl, rfl, by omega, fun k hk _ =>
    (heap_alloc_old (w.alloc (.deferred (some []))) _ (by rw [World.size_alloc]; omega)).trans (heap_alloc_old w _ hk)⟩
  have put_l : ∀ (w' : World) (o o' : Obj), w'.heap[w.heap.size + 1]? = some o → w'.heap[w.heap.size]? = some (.deferred (some [])) →
      (w'.putObj (w.heap.size + 1) o').heap[w.heap.size + 1]? = some o' ∧ (w'.putObj (w.heap.size + 1) o').heap[w.heap.size]? = some (.deferred (some [])) ∧
      Mod (fun k => k = w.heap.size + 1) w' (w'.putObj (w.heap.size + 1) o') ∧ (w'.putObj (w.heap.size + 1) o').heap.size = w'.heap.size := by
    intro w' o o' h1 h2
    have hlt : w.heap.size + 1 < w'.heap.size := (Array.getElem?_eq_some_iff.1 h1).1
    refine ⟨?_, ?_, ⟨rfl, rfl, rfl, by simp [World.putObj], fun k _ hk => ?_⟩, by simp [World.putObj]⟩
    · simp only [World.putObj]; rw [Array.getElem?_setIfInBounds_self_of_lt hlt]
    · simp only [World.putObj]; rw [Array.getElem?_setIfInBounds_ne (by omega)]; exact h2
    · simp only [World.putObj]; rw [Array.getElem?_setIfInBounds_ne (fun e => hk e.symm)]
  have hca := h (fun w' => w'.heap[w.heap.size + 1]? = some (.loop (rfRec fn a.tmps p x y w.heap.size .ready)) ∧ w'.heap[w.heap.size]? = some (.deferred (some [])))
    (fun w' => w'.heap[w.heap.size + 1]? = some (.loop (rfRec fn a.tmps p x y w.heap.size .busy)) ∧ w'.heap[w.heap.size]? = some (.deferred (some [])))
    (fun w1 w2 h h1 h2 => ⟨by rw [h2]; exact h.1, by rw [h1]; exact h.2⟩) (fun w1 w2 h h1 h2 => ⟨by rw [h2]; exact h.1, by rw [h1]; exact h.2⟩)
    (fun w1 h => h.elim (fun h => ⟨h.2, _, h.1⟩) (fun h => ⟨h.2, _, h.1⟩)) w1 hm1 hs1 ⟨hL1, hD1⟩
    (fun v w2 K' hr hB => ?_)
  · rw [hfv] at hca
    have hca : Ca P gf ⟨first.toList ++ ([.func (.yield (w.heap.size + 1)) #[] #[]] ++ cap.toList)⟩ w1 _ := hca
    refine ⟨w.heap.size + 1, [{ target := .collected w.heap.size, args := #[] }], w1, { target := .fn (.func gf) cap, args := first ++ #[.func (.yield (w.heap.size + 1)) #[] #[]] }, w1, gf,
      first ++ #[.func (.yield (w.heap.size + 1)) #[] #[]] ++ cap, w1, ?_, ?_, fun _ _ => trivial, ?_, (fun h => by cases h), ?_⟩
    · exact run_enterLoop_outer fn a.tmps #[p] x y
    · rw [hR.eval]
      exact resolve_val (c := rangeCall g (w.heap.size + 1)) (ty := 0) rfl hfv (by simp [ev])
    · have := hca.1 w1
      have e : first ++ #[.func (.yield (w.heap.size + 1)) #[] #[]] ++ cap = ⟨first.toList ++ ([.func (.yield (w.heap.size + 1)) #[] #[]] ++ cap.toList)⟩ := by apply Array.toList_inj.1; simp
      rw [invoke_func, e]
      exact this
    · have e : first ++ #[.func (.yield (w.heap.size + 1)) #[] #[]] ++ cap = ⟨first.toList ++ ([.func (.yield (w.heap.size + 1)) #[] #[]] ++ cap.toList)⟩ := by apply Array.toList_inj.1; simp
      rw [e]
      refine (callsIn_wide.2 (hca.2.mono fun e w2 ⟨v, he, hr, hk⟩ => ?_) : CallsIn Fence.wide 0 P gf _ w1 _)
      subst he
      obtain ⟨h1, h2, h3, h4⟩ := put_l w2 _ (.loop { rfRec fn a.tmps p x y w.heap.size .ready with state := .exhausted }) hr.1 hr.2
      refine ⟨none, _, run_endLoop (P := P) hr.1 (by simp [rfRec]), ?_⟩
      exact ⟨f, _, ⟨hR.size, by simp [hR.defs], hR.get⟩, hQ _ (hk _ ⟨h3.os, h3.tape, h3.output, h3.size, fun k hk hn => h3.keep k hk fun e => hn (.inr e)⟩ h4 h2), fun _ _ => rfl, fun h => by simp [hasRF] at h⟩
  · -- a round
    show Yi P (w.heap.size + 1) ⟨[] ++ [v]⟩ w2 _
    have hyl := run_yield (P := P) (args := #[v]) hr.1 rfl
    refine ⟨fn, a.tmps.setIfInBounds p v, x, y, by simpa [rfRec] using hyl, ?_⟩
    refine roundIn_of_wpIn (F := wide none) trivial ?_
    have hR0 : Rl n { tmps := a.tmps.setIfInBounds p v, defers := [] } (St.upd f p v) [] :=
      Rl.upd (a := { tmps := a.tmps, defers := [] }) ⟨hR.size, rfl, hR.get⟩ v hpn
    refine wpIn_mono (hx _ _ _ hB { tmps := a.tmps.setIfInBounds p v, defers := [] } hR0) fun e a' wa ⟨f1, ds1, hR1, hq, hs⟩ => ?_
    cases e with
    | normal =>
      have hd : ds1 = [] := hs.2 hrx
      subst hd
      obtain ⟨hra, hbody⟩ := hq
      obtain ⟨h1, h2, h3, h4⟩ := put_l wa _ (.loop { rfRec fn a.tmps p x y w.heap.size .ready with state := .busy }) hra.1 hra.2
      refine ⟨_, run_beginRound (P := P) hra.1 rfl, ?_⟩
      have hb := hbody _ ⟨h1, h2⟩ h3 h4
      refine wpIn_mono (hy _ _ _ hb a' hR1) fun e a'' wc ⟨f2, ds2, hR2, hq2, hs2⟩ => ?_
      cases e with
      | normal =>
        obtain ⟨hbc, hk⟩ := hq2
        obtain ⟨h1, h2, h3, h4⟩ := put_l wc _ (.loop { rfRec fn a.tmps p x y w.heap.size .busy with state := .ready, pending := none }) hbc.1 hbc.2
        refine ⟨_, _, run_endRound (P := P) none hbc.1, _, rfl, rfl, hk _ ⟨h1, h2⟩ h3 h4⟩
      | _ => exact hq2.elim
    | _ => exact hq.elim

theorem rebuild_at {c : Code} {ss : List (Nat × LT)} {f f' : Fr} {w' : World} (hlt : (ss.all fun s => okLT s.2) = true) {I : FnC (World → Prop) (ctS ss)} (hI : apC (fun _ => False) (ctS ss) I (rdS ss f') w')
    (hs : ∀ t, t ∉ wrC c → f' t = f t) : f' = wrS ss (rdS ss f') (mix (wrC c) f' f) := by
  funext t
  rw [wrS_rd ss f' _ hlt (apC_len _ _ _ hI) t]
  split
  · rfl
  · unfold mix
    by_cases hw : t ∈ wrC c
    · rw [hasN_iff.2 hw]; rfl
    · have : hasN t (wrC c) = false := by
        cases hh : hasN t (wrC c) with
        | false => rfl
        | true => exact absurd (hasN_iff.1 hh) hw
      rw [this]; exact hs t hw

theorem cut_sound {x y : Code} {ss : List (Nat × LT)} {A : Post → Fr → List Deferred → World → Prop} {B : Fr → List Deferred → World → Prop} {Q : Post} {f : Fr} {ds : List Deferred} {w : World}
    (hrf : hasRF x = false) (hlt : (ss.all fun s => okLT s.2) = true)
    (hx : ∀ (Q : Post), A Q f ds w → SW r P n x (fun e f' ds' w' => Q e f' ds' w' ∧ SameP x f ds f' ds') f ds w)
    (hy : ∀ (f : Fr) (w : World), B f ds w → SW r P n y (fun e f' ds' w' => Q e f' ds' w' ∧ SameP y f ds f' ds') f ds w)
    (h : cutW (wrC x) ss A B Q f ds w) : SW r P n (.seq x y) (fun e f' ds' w' => Q e f' ds' w' ∧ SameP (.seq x y) f ds f' ds') f ds w := by
  obtain ⟨J, hA, hB⟩ := h
  intro a hR
  refine wpIn_seq (wpIn_mono (hx _ hA a hR) fun e a' w' ⟨f', ds', hR', hq, hs⟩ => ?_)
  have hds := hs.2 hrf
  subst hds
  have hs2 : ∀ f2 ds2, f2 = f' → ds2 = ds' → SameP (.seq x y) f ds' f2 ds2 := fun f2 ds2 e1 e2 => by
    subst e1 e2
    exact ⟨fun t ht => hs.1 t fun h => ht (List.mem_append_left _ h), fun _ => rfl⟩
  cases e with
  | normal =>
    have hq : apC (fun _ => False) (ctS ss) J (rdS ss f') w' := hq
    have hb0 := apC_all (ctS ss) J (rdS ss f') [] _ (hB f') hq w' (by simpa using hq)
    have hb : B (wrS ss (rdS ss f') (mix (wrC x) f' f)) ds' w' := hb0
    rw [← rebuild_at (c := x) (f := f) hlt hq hs.1] at hb
    refine wpIn_mono (hy f' w' hb a' hR') fun e a'' w'' ⟨f'', ds'', hR'', hq', hs'⟩ => ⟨f'', ds'', hR'', hq', fun t ht => ?_, fun h => ?_⟩
    · exact (hs'.1 t fun h => ht (List.mem_append_right _ h)).trans (hs.1 t fun h => ht (List.mem_append_left _ h))
    · simp only [hasRF, Bool.or_eq_false_iff] at h
      exact hs'.2 h.2
  | exit i => exact ⟨f', ds', hR', hq, hs2 _ _ rfl rfl⟩
  | goto i => exact ⟨f', ds', hR', hq, hs2 _ _ rfl rfl⟩
  | ret => exact ⟨f', ds', hR', hq, hs2 _ _ rfl rfl⟩
  | panic i => exact ⟨f', ds', hR', hq, hs2 _ _ rfl rfl⟩
  | outgrown => exact ⟨f', ds', hR', hq, hs2 _ _ rfl rfl⟩

theorem loop_sound {c : Code} {ss : List (Nat × LT)} {body : Post → Fr → List Deferred → World → Prop} {Q : Post} {f : Fr} {ds : List Deferred} {w : World}
    (hrf : hasRF c = false) (hss : (ss.all fun s => hasN s.1 (wrC c)) = true) (hlt : (ss.all fun s => okLT s.2) = true)
    (hbody : ∀ (Q : Post) (f : Fr) (w : World), body Q f ds w → SW r P n c (fun e f' ds' w' => Q e f' ds' w' ∧ SameP c f ds f' ds') f ds w)
    (h : loopW (wrC c) ss body Q f ds w) : SW r P n (.loop c) (fun e f' ds' w' => Q e f' ds' w' ∧ SameP (.loop c) f ds f' ds') f ds w := by
  obtain ⟨I, μ, h0, hround⟩ := h
  have mem : ∀ t, t ∈ ss.map (·.1) → t ∈ wrC c := by
    intro t ht
    obtain ⟨s, hs, rfl⟩ := List.mem_map.1 ht
    exact hasN_iff.1 ((List.all_eq_true.1 hss) s hs)
  have rebuild : ∀ (f' : Fr) (w' : World), apC (fun _ => False) (ctS ss) I (rdS ss f') w' → (∀ t, t ∉ wrC c → f' t = f t) → f' = wrS ss (rdS ss f') (mix (wrC c) f' f) := by
    intro f' w' hI hs
    funext t
    rw [wrS_rd ss f' _ hlt (apC_len _ _ _ hI) t]
    split
    · rfl
    · unfold mix
      by_cases hw : t ∈ wrC c
      · rw [hasN_iff.2 hw]; rfl
      · have : hasN t (wrC c) = false := by
          cases hh : hasN t (wrC c) with
          | false => rfl
          | true => exact absurd (hasN_iff.1 hh) hw
        rw [this]; exact hs t hw
  refine SW_loop (fun f' w' => apC (fun _ => False) (ctS ss) I (rdS ss f') w' ∧ ∀ t, t ∉ wrC c → f' t = f t) (fun f' w' => apC (fun _ => 0) (ctS ss) μ (rdS ss f') w') ⟨h0, fun _ _ => rfl⟩ ?_
  rintro f1 w1 ⟨hI, hs⟩
  have hb0 := apC_all (ctS ss) I (rdS ss f1) [] _ (hround f1) hI w1 (by simpa using hI)
  have hb : body _ (wrS ss (rdS ss f1) (mix (wrC c) f1 f)) ds w1 := hb0
  rw [← rebuild f1 w1 hI hs] at hb
  have := hbody _ f1 w1 hb
  intro a hR
  refine wpIn_mono (this a hR) fun e a' w' ⟨f', ds', hR', hq, hsame⟩ => ⟨f', ds', hR', ?_⟩
  have hs' : ∀ t, t ∉ wrC c → f' t = f t := fun t ht => (hsame.1 t ht).trans (hs t ht)
  have hds := hsame.2 hrf
  cases e with
  | normal => exact ⟨hds, ⟨hq.1, hs'⟩, hq.2⟩
  | exit i => exact ⟨hq, hs', fun _ => hds⟩
  | goto i => exact ⟨hq, hs', fun _ => hds⟩
  | ret => exact ⟨hq, hs', fun _ => hds⟩
  | panic i => exact ⟨hq, hs', fun _ => hds⟩
  | outgrown => exact ⟨hq, hs', fun _ => hds⟩

theorem stepR_scope {P : Program} {b : Frame} {a : Act} {k : List Item} {cs : List Frame} {w : World} {c : Code} : step P (lone (b.atR a (.code (.scope c) :: k)) cs w) = .next (lone (b.atR a (.code c :: .inScope c :: k)) cs w) :=
  step_lone_go (by simp [stepG, stepG.exec, Frame.atR])
theorem stepR_inScope {P : Program} {b : Frame} {a : Act} {k : List Item} {cs : List Frame} {w : World} {c : Code} : step P (lone (b.atR a (.inScope c :: k)) cs w) = .next (lone (b.atR a k) cs w) :=
  step_lone_go (by simp [stepG, stepG.exec, Frame.atR])
theorem wpIn_scope {F : Fence} {n : Nat} {P : Program} {Q : Exit → Act → World → Prop} {a : Act} {w : World} {c : Code} (h : c.wpIn F n P (fun e a w => match e with | .goto _ => False | e => Q e a w) a w) : (Code.scope c).wpIn F n P Q a w := by
  intro b k cs hro hb hr
  have h0 : (lone (b.atR a (.code (.scope c) :: k)) cs w).fenced P F := fenced_calm hb hr rfl
  obtain ⟨e, a₁, w₁, hq, harr⟩ := h b (.inScope c :: k) cs hro hb hr
  cases e with
  | normal => exact ⟨.normal, a₁, w₁, hq, .of_steps (.one h0 stepR_scope) (StepsIn.trans harr (.one (fenced_calm hb hr rfl) stepR_inScope))⟩
  | exit id => exact ⟨_, a₁, w₁, hq, .of_steps (.one h0 stepR_scope) ⟨fun k' hk => harr.1 k' hk, fun hr hk => harr.2 hr hk⟩⟩
  | goto l => exact hq.elim
  | ret => exact ⟨_, a₁, w₁, hq, .of_steps (.one h0 stepR_scope) harr⟩
  | panic ch => exact ⟨_, a₁, w₁, hq, .of_steps (.one h0 stepR_scope) harr⟩
  | outgrown => exact ⟨_, a₁, w₁, hq, .of_steps (.one h0 stepR_scope) harr⟩

theorem wpC_sound (hm : P.follows .mixedOrders = true) : ∀ (c : Code) (r : Option Nat) (k : Nat) (Q : Post) (f : Fr) (ds : List Deferred) (w : World), okCode n pl ls c k = true → wpC r P n pl ls c k Q f ds w →
    SW r P n c (fun e f' ds' w' => Q e f' ds' w' ∧ SameP c f ds f' ds') f ds w := by
  intro c
  induction c with
  | skip => intro r k Q f ds w _ h a hR; exact wpIn_skip ⟨f, ds, hR, h, fun _ _ => rfl, fun _ => rfl⟩
  | region id ops draw =>
    intro r k Q f ds w hok h a hR
    cases draw with
    | false =>
      refine wpIn_region ?_
      have := wpL_sound (r := r) (P := P) (g := f) (Q := fun f' w' => Q .normal f' ds w') (Qe := fun e a' w' => ∃ f' ds', Rl n a' f' ds' ∧ Q e f' ds' w' ∧ SameP (.region id ops false) f ds f' ds')
        (fun a f' w hR hs h => ⟨f', ds, hR, h, fun t ht => hs t (not_dst ht), fun _ => rfl⟩) ops.toList 0 (by simp) hok 0 f a w hR (fun _ _ => rfl) h
      rwa [List.range_eq_range', ← Array.length_toList]
    | true => exact plan_region hm hok hR (fun a f' w hR hs h => ⟨f', ds, hR, h, fun t ht => hs t (not_dst ht), fun _ => rfl⟩) (h _ rfl)
  | seq x y ihx ihy =>
    intro r k Q f ds w hok h
    simp only [okCode, Bool.and_eq_true] at hok
    obtain ⟨⟨hcut, hox⟩, hoy⟩ := hok
    unfold wpC at h
    split at h
    rotate_left
    · rename_i ss hss
      rw [hss] at hcut
      simp only [Bool.and_eq_true, Bool.not_eq_true'] at hcut
      exact cut_sound hcut.1.1 hcut.2 (fun Q h => ihx _ _ Q f ds w hox h) (fun f w h => ihy _ _ Q f ds w hoy h) h
    intro a hR
    refine wpIn_seq (wpIn_mono (ihx _ _ _ f ds w hox h a hR) fun e a' w' ⟨f', ds', hR', hq, hs⟩ => ?_)
    have hs2 : ∀ f2 ds2, f2 = f' → ds2 = ds' → SameP (.seq x y) f ds f2 ds2 := fun f2 ds2 e1 e2 => by
      subst e1 e2
      refine ⟨fun t ht => hs.1 t fun h => ht (List.mem_append_left _ h), fun h => hs.2 ?_⟩
      simp only [hasRF, Bool.or_eq_false_iff] at h; exact h.1
    cases e with
    | normal =>
      refine wpIn_mono (ihy _ _ Q f' ds' w' hoy hq a' hR') fun e a'' w'' ⟨f'', ds'', hR'', hq', hs'⟩ => ⟨f'', ds'', hR'', hq', fun t ht => ?_, fun h => ?_⟩
      · exact (hs'.1 t fun h => ht (List.mem_append_right _ h)).trans (hs.1 t fun h => ht (List.mem_append_left _ h))
      · simp only [hasRF, Bool.or_eq_false_iff] at h
        exact (hs'.2 h.2).trans (hs.2 h.1)
    | exit i => exact ⟨f', ds', hR', hq, hs2 _ _ rfl rfl⟩
    | goto i => exact ⟨f', ds', hR', hq, hs2 _ _ rfl rfl⟩
    | ret => exact ⟨f', ds', hR', hq, hs2 _ _ rfl rfl⟩
    | panic i => exact ⟨f', ds', hR', hq, hs2 _ _ rfl rfl⟩
    | outgrown => exact ⟨f', ds', hR', hq, hs2 _ _ rfl rfl⟩
  | cond c x y ihx ihy =>
    intro r k Q f ds w hok h a hR
    simp only [okCode, Bool.and_eq_true] at hok
    unfold wpC at h
    split at h
    · rename_i b hb
      have hb' : a.eval c = .bool b := by rw [hR.eval]; exact hb
      cases b with
      | true =>
        have h : wpC r P n pl ls x k Q (known f c true) ds w := h
        rw [known_eq hb] at h
        refine wpIn_cond_true hb' (wpIn_mono (ihx _ _ Q f ds w hok.1 h a hR) fun e a' w' ⟨f', ds', hR', hq, hs⟩ => ⟨f', ds', hR', hq, fun t ht => hs.1 t fun h => ht (List.mem_append_left _ h), fun h => hs.2 ?_⟩)
        simp only [hasRF, Bool.or_eq_false_iff] at h; exact h.1
      | false =>
        have h : wpC r P n pl ls y (k + nl x) Q (known f c false) ds w := h
        rw [known_eq hb] at h
        refine wpIn_cond_false hb' (wpIn_mono (ihy _ _ Q f ds w hok.2 h a hR) fun e a' w' ⟨f', ds', hR', hq, hs⟩ => ⟨f', ds', hR', hq, fun t ht => hs.1 t fun h => ht (List.mem_append_right _ h), fun h => hs.2 ?_⟩)
        simp only [hasRF, Bool.or_eq_false_iff] at h; exact h.2
    · exact h.elim
  | block id c ih =>
    intro r k Q f ds w hok h a hR
    refine wpIn_block (wpIn_mono (ih _ _ _ f ds w hok h a hR) fun e a' w' ⟨f', ds', hR', hq, hs⟩ => ?_)
    have : ∃ f ds, Rl n a' f ds ∧ inBlockP id (fun e f'' ds'' w'' => Q e f'' ds'' w'' ∧ (f'' = f' ∧ ds'' = ds')) e f ds w' := by
      refine ⟨f', ds', hR', ?_⟩
      cases e with
      | exit i =>
        simp only [inBlockP] at hq ⊢
        cases hb : Nat.beq i id with
        | true => rw [hb] at hq; exact ⟨hq, by simp⟩
        | false => rw [hb] at hq; exact ⟨hq, by simp⟩
      | normal => exact ⟨hq, rfl, rfl⟩
      | goto i => exact ⟨hq, rfl, rfl⟩
      | ret => exact ⟨hq, rfl, rfl⟩
      | panic i => exact ⟨hq, rfl, rfl⟩
      | outgrown => exact ⟨hq, rfl, rfl⟩
    have h2 := inBlockP_act e a' w' this
    have conv : ∀ e a w, (∃ f2 ds2, Rl n a f2 ds2 ∧ Q e f2 ds2 w ∧ f2 = f' ∧ ds2 = ds') → ∃ f2 ds2, Rl n a f2 ds2 ∧ Q e f2 ds2 w ∧ SameP (.block id c) f ds f2 ds2 := by
      rintro e a w ⟨f2, ds2, hR2, hq2, rfl, rfl⟩
      exact ⟨_, _, hR2, hq2, hs⟩
    cases e with
    | exit i =>
      simp only [Exit.inBlock] at h2 ⊢
      split
      · rename_i hi; rw [if_pos hi] at h2; exact conv _ _ _ h2
      · rename_i hi; rw [if_neg hi] at h2; exact conv _ _ _ h2
    | normal => exact conv _ _ _ h2
    | goto i => exact conv _ _ _ h2
    | ret => exact conv _ _ _ h2
    | panic i => exact conv _ _ _ h2
    | outgrown => exact conv _ _ _ h2
  | loop c ih =>
    intro r k Q f ds w hok h
    simp only [okCode, Bool.and_eq_true, Bool.not_eq_true'] at hok
    exact loop_sound hok.1.1.1 hok.1.1.2 hok.1.2 (fun Q f w h => ih _ _ Q f ds w hok.2 h) h
  | rangeFunc g ps x y ihx ihy =>
    intro r k Q f ds w hok h
    simp only [okCode, Bool.and_eq_true, Bool.not_eq_true'] at hok
    obtain ⟨⟨⟨⟨hp, hrx⟩, hry⟩, hox⟩, hoy⟩ := hok
    unfold wpC at h
    split at h
    · rename_i p hps
      refine rf_sound hps ?_ hrx (fun Q f w' hb => ihx _ _ Q f [] w' hox hb) (fun Q f w' hb => ihy _ _ Q f [] w' hoy hb) h fun w3 hk => hk
      rw [hps] at hp
      simp only [List.all_cons, List.all_nil, Bool.and_true] at hp
      rwa [Nat.blt_eq] at hp
    · exact h.elim
  | exit id => intro r k Q f ds w _ h a hR; exact wpIn_exit ⟨f, ds, hR, h, fun _ _ => rfl, fun _ => rfl⟩
  | ret => intro r k Q f ds w _ h a hR; exact wpIn_ret ⟨f, ds, hR, h, fun _ _ => rfl, fun _ => rfl⟩
  | scope c ih =>
    intro r k Q f ds w hok h a hR
    refine wpIn_scope (wpIn_mono (ih _ _ _ f ds w hok h a hR) fun e a' w' ⟨f', ds', hR', hq, hs⟩ => ?_)
    cases e with
    | goto l => exact hq.elim
    | normal => exact ⟨f', ds', hR', hq, hs⟩
    | exit i => exact ⟨f', ds', hR', hq, hs⟩
    | ret => exact ⟨f', ds', hR', hq, hs⟩
    | panic i => exact ⟨f', ds', hR', hq, hs⟩
    | outgrown => exact ⟨f', ds', hR', hq, hs⟩
  | label l => intro r k Q f ds w _ h a hR; exact wpIn_label ⟨f, ds, hR, h, fun _ _ => rfl, fun _ => rfl⟩
  | goto l => intro r k Q f ds w _ h; exact h.elim
  | refuse s => intro r k Q f ds w _ h; exact h.elim

/-! ### A function -/
def endD : List Deferred → World → (World → Prop) → Prop
  | [], w, K => K w
  | d :: ds, w, K =>
    match d.target with
    | .collected D => w.heap[D]? = some (.deferred (some [])) ∧ atW (w.putObj D (.deferred none)) fun w' => endD ds w' K
    | _ => False

def resVs (P : Program) : List ResultVar → Fr → World → List Value → (List Value → Prop) → Prop
  | [], _, _, acc, K => K acc.reverse
  | .tmp t :: rs, f, w, acc, K => resVs P rs f w (f t :: acc) K
  | .cell a t :: rs, f, w, acc, K => ldW P t (f a) w fun v => resVs P rs f w (v :: acc) K

def one : List Value → Value
  | [v] => v
  | vs => .tuple ⟨vs⟩

def endP (P : Program) (rs : List ResultVar) (R : Value → World → Prop) : Post
  | .normal, f, ds, w => endD ds w fun w' => resVs P rs f w' [] fun vs => R (one vs) w'
  | .ret, f, ds, w => endD ds w fun w' => resVs P rs f w' [] fun vs => R (one vs) w'
  | _, _, _, _ => False

/-- The slots as a call finds them. -/
def fr0 (args : List Value) : Fr := fun t => (args[t]?).getD undef

theorem resVs_run {f : Fr} {w : World} {g : ResultVar → Sem Value} (h1 : ∀ t, (g (.tmp t)).run P w = .ok (f t) w) (h2 : ∀ a t ad, f a = .pointer (some ad) → g (.cell a t) = loadVar t ad ∨ ∀ v w', (loadVar t ad).run P w = .ok v w' → (g (.cell a t)).run P w = .ok v w') :
    ∀ (rs : List ResultVar) (acc : List Value) (K : List Value → Prop), resVs P rs f w acc K → ∃ vs, K (acc.reverse ++ vs) ∧ (rs.mapM g).run P w = .ok vs w := by
  intro rs
  induction rs with
  | nil => intro acc K h; exact ⟨[], by rw [List.append_nil]; exact h, rfl⟩
  | cons x rs ih =>
    intro acc K h
    cases x with
    | tmp t =>
      obtain ⟨vs, hk, hr⟩ := ih _ _ h
      refine ⟨f t :: vs, by simpa using hk, ?_⟩
      rw [List.mapM_cons, run_then (h1 t), run_then hr]
      rfl
    | cell a t =>
      have h : ldW P t (f a) w fun v => resVs P rs f w (v :: acc) K := h
      obtain ⟨v, ad, hp, hk, hld, _⟩ := ldW_held h
      obtain ⟨vs, hk, hr⟩ := ih _ _ hk
      refine ⟨v :: vs, by simpa using hk, ?_⟩
      have hl : (g (.cell a t)).run P w = .ok v w := by
        have hl : (loadVar t ad).run P w = .ok v w := by rw [hp] at hld; simpa [Instr.loadAt, Instr.sureAddr] using hld
        rcases h2 a t ad hp with h | h
        · rw [h]; exact hl
        · exact h _ _ hl
      rw [List.mapM_cons, run_then hl, run_then hr]
      rfl

theorem results_run {fn : Func} {f : Fr} {w : World} {tmps : Array Value} (hg : ∀ t, tmps.getD t undef = f t) {K : Value → Prop} (h : resVs P fn.results.toList f w [] fun vs => K (one vs)) :
    ∃ v, K v ∧ (results fn tmps).run P w = .ok v w := by
  unfold results
  have key := fun g h1 h2 => resVs_run (P := P) (f := f) (w := w) (g := g) h1 h2 _ _ _ h
  obtain ⟨vs, hk, hr⟩ := key (fun | .tmp t => pure (tmps.getD t undef) | .cell a t => do loadVar t (← asAddr (tmps.getD a undef))) (fun t => by simp only [hg]; rfl) (fun a t ad hp => by
    refine .inr fun v w' hl => ?_
    simp only [hg, hp]
    exact hl)
  refine ⟨_, hk, ?_⟩
  simp only [List.reverse_nil, List.nil_append]
  refine (run_then (a := vs.toArray) (w' := w) ?_).trans ?_
  · rw [Array.mapM_eq_mapM_toList]
    simp only [Sem.run_map]
    exact (congrArg (fun x : Result (List Value) => x.andThen fun a w' => Result.ok a.toArray w') hr).trans rfl
  · match vs with
    | [] => rfl
    | [v] => rfl
    | v :: u :: vs => rfl

theorem endD_leaves {F : Fence} {fn : Func} {tmps : Array Value} {R : Ending → World → Prop} : ∀ (ds : List Deferred) (w : World) (K : World → Prop), endD ds w K →
    (∀ w', K w' → ∃ v, (results fn tmps).run P w' = .ok v w' ∧ R (.returned v) w') → LeavesInM F 0 P fn tmps R ds .returning w := by
  intro ds
  induction ds with
  | nil => intro w K h hK; exact hK w h
  | cons d ds ih =>
    intro w K h hK
    unfold endD at h
    split at h
    · rename_i D hD
      exact ⟨by simp, .inl ⟨D, _, hD, run_takeDeferred h.1, ih _ _ (h.2 _ rfl) hK⟩⟩
    · exact h.elim

theorem callFunc_run {g : FuncId} {fn : Func} {c : Code} (hf : P.funcs[g]? = some fn) (hb : fn.body = some c) (hn : (fn.name == "runtime.NumGoroutine") = false) (args : Array Value) (w : World) :
    (callFunc g args).run P w = .ok (.enter g args) w := by
  simp only [callFunc, Sem.run_bind, run_program, Result.andThen, hf, hn, hb, Option.isNone_some, Bool.false_eq_true, if_false, Sem.run_pure]

/-- **A FUNCTION's CONTRACT OUT OF ITS BODY's 'wpC'.** -/
theorem ca_of {g : FuncId} {fn : Func} {c : Code} {args : List Value} {w : World} {R : Value → World → Prop} (hm : P.follows .mixedOrders = true) (hf : P.funcs[g]? = some fn) (hb : fn.body = some c)
    (hn : (fn.name == "runtime.NumGoroutine") = false) (hargs : args.length ≤ fn.ntmps) (hok : okCode fn.ntmps pl ls c 0 = true)
    (h : wpC none P fn.ntmps pl ls c 0 (endP P fn.results.toList R) (fr0 args) [] w) : Ca P g ⟨args⟩ w R := by
  refine ⟨fun w => callFunc_run hf hb hn _ w, ?_⟩
  refine callsIn_wide.1 (callsIn_of_wp_marks (F := Fence.wide) (n := 0) hf hb trivial ?_ rfl)
  have hR : Rl fn.ntmps { tmps := (⟨args⟩ : Array Value) ++ Array.replicate (fn.ntmps - args.length) undef, defers := [] } (fr0 args) [] := by
    refine ⟨by simp; omega, rfl, fun t => ?_⟩
    simp only [fr0, Array.getD_eq_getD_getElem?]
    by_cases ht : t < args.length
    · rw [Array.getElem?_append_left (by simpa using ht)]; simp [ht]
    · rw [Array.getElem?_append_right (by simpa using ht)]
      simp only [List.size_toArray]
      rw [List.getElem?_eq_none (by omega)]
      by_cases h2 : t - args.length < fn.ntmps - args.length
      · simp [h2]
      · rw [Array.getElem?_eq_none (by simp; omega)]
  have := wpC_sound hm c _ _ _ _ _ _ hok h _ hR
  refine wpIn_mono this fun e a' w' ⟨f', ds', hR', he, _⟩ => ?_
  cases e with
  | normal =>
    show LeavesInM _ _ _ _ _ _ _ _ _
    rw [hR'.defs]
    refine endD_leaves ds' w' _ he fun w'' h => ?_
    obtain ⟨v, hk, hr⟩ := results_run (P := P) (fn := fn) (K := fun v => R v w'') hR'.get h
    exact ⟨v, hr, v, rfl, hk⟩
  | ret =>
    show LeavesInM _ _ _ _ _ _ _ _ _
    rw [hR'.defs]
    refine endD_leaves ds' w' _ he fun w'' h => ?_
    obtain ⟨v, hk, hr⟩ := results_run (P := P) (fn := fn) (K := fun v => R v w'') hR'.get h
    exact ⟨v, hr, v, rfl, hk⟩
  | exit id => exact he.elim
  | goto id => exact he.elim
  | panic id => exact he.elim
  | outgrown => exact he.elim

/-- The same, the numbers and the code written out. -/
theorem ca_of' {g : FuncId} {fn : Func} {c : Code} {m : Nat} {rs : List ResultVar} {args : List Value} {w : World} {R : Value → World → Prop} (hm : P.follows .mixedOrders = true) (hf : P.funcs[g]? = some fn) (hb : fn.body = some c)
    (hnt : fn.ntmps = m) (hrs : fn.results.toList = rs) (hn : (fn.name == "runtime.NumGoroutine") = false) (hargs : Nat.ble args.length m = true) (hok : okCode m pl ls c 0 = true)
    (h : wpC none P m pl ls c 0 (endP P rs R) (fr0 args) [] w) : Ca P g ⟨args⟩ w R := by
  subst hnt hrs
  exact ca_of hm hf hb hn (Nat.le_of_ble_eq_true hargs) hok h
/-- What is asked of a function's code. -/
def okFn (P : Program) (fn : Func) (m : Nat) (pl : Nat → Plan) (ls : Nat → List (Nat × LT)) : Bool :=
  P.follows .mixedOrders && (fn.body.isSome && (!(fn.name == "runtime.NumGoroutine") && (Nat.ble m fn.ntmps && okCode fn.ntmps pl ls (fn.body.getD .skip) 0)))
theorem caB {g : FuncId} {fn : Func} {args : List Value} {w : World} {R : Value → World → Prop} {W : Prop} (hf : P.funcs[g]? = some fn) (hk : okFn P fn args.length pl ls = true)
    (e : W = wpC none P fn.ntmps pl ls (fn.body.getD .skip) 0 (endP P fn.results.toList R) (fr0 args) [] w) (h : W) : Ca P g ⟨args⟩ w R := by
  simp only [okFn, Bool.and_eq_true, Bool.not_eq_true'] at hk
  obtain ⟨h1, h2, h3, h4, h5⟩ := hk
  obtain ⟨c, hc⟩ := Option.isSome_iff_exists.1 h2
  rw [hc] at e h5
  exact ca_of h1 hf hc h3 (Nat.le_of_ble_eq_true h4) h5 (e ▸ h)
end
end Go.Proofs.YtbmcbbmgdcbhjaaGreatDoor.St
