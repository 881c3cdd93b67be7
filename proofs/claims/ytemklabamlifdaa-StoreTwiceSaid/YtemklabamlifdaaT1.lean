/- Parts of the proof of StoreTwice. -/
import Derived.Test.YtemklabamlifdaaLib
import Derived.Test.YtemklabamlifdaaCore9
import Derived.Test.YtemklabamlifdaaProg
import Derived.Laws.IdiomStrings
import Derived.Laws.Externs
import Derived.MapKept
import Derived.WalkKit
import Derived.Lib.BufferRead
/- Maps with keys of any kind that can be told apart (numbers, strings, pointers). It names no program. -/
namespace Go.Proofs.Ytemklabamlifdaa.St
open Go

section
variable {κ : Type} [BEq κ] [LawfulBEq κ]
/-- The entries, as they lie. -/
def kvL (kv : κ → Value) (L : List (κ × Value)) : List (Value × Value) := L.map fun p => (kv p.1, p.2)
/-- A key's place, and what stands there. -/
def posG (k : κ) : List (κ × Value) → Nat → Option (Nat × Value)
  | [], _ => none
  | p :: r, i => if k == p.1 then some (i, p.2) else posG k r (i + 1)

theorem posG_none {k : κ} : ∀ {L : List (κ × Value)} {i : Nat}, posG k L i = none ↔ k ∉ L.map (·.1)
  | [], i => by simp [posG]
  | p :: r, i => by
    simp only [posG]
    by_cases h : (k == p.1) = true
    · rw [if_pos h]; simp [eq_of_beq h]
    · rw [if_neg h, posG_none]
      have : ¬ k = p.1 := fun e => h (by rw [e]; exact beq_self_eq_true _)
      simp [this]
theorem posG_some {k : κ} {v : Value} {j : Nat} : ∀ {L : List (κ × Value)} {i : Nat}, posG k L i = some (j, v) → ∃ n, j = i + n ∧ ∃ h : n < L.length, L[n] = (k, v) ∧ ∀ m (h' : m < L.length), m < n → L[m].1 ≠ k
  | [], i, h => by simp [posG] at h
  | p :: r, i, h => by
    simp only [posG] at h
    by_cases hk : (k == p.1) = true
    · rw [if_pos hk] at h
      simp only [Option.some.injEq, Prod.mk.injEq] at h
      refine ⟨0, h.1.symm, by simp, ?_, fun m _ hm => by omega⟩
      rw [List.getElem_cons_zero, ← h.2, eq_of_beq hk]
    · rw [if_neg hk] at h
      obtain ⟨n, h1, h2, h3, h4⟩ := posG_some h
      refine ⟨n + 1, by omega, by simpa using h2, by simpa using h3, fun m h' hm => ?_⟩
      cases m with
      | zero => exact fun e => hk (by rw [← e]; exact beq_self_eq_true _)
      | succ m => simpa using h4 m (by simpa using h') (by omega)
/-- What a key has. -/
def getG (k : κ) (L : List (κ × Value)) : Option Value := (L.find? (fun p => k == p.1)).map (·.2)
omit [LawfulBEq κ] in
theorem posG_getG {k : κ} : ∀ {L : List (κ × Value)} {i : Nat}, (posG k L i).map (·.2) = getG k L
  | [], _ => rfl
  | p :: r, i => by
    simp only [posG, getG, List.find?_cons]
    cases h : (k == p.1) with
    | true => rfl
    | false => exact posG_getG (L := r) (i := i + 1)
/-- A key gets a value: where it stands, or at the end. -/
def setG (k : κ) (v : Value) : List (κ × Value) → List (κ × Value)
  | [] => [(k, v)]
  | p :: r => if k == p.1 then (k, v) :: r else p :: setG k v r
def delG (k : κ) : List (κ × Value) → List (κ × Value)
  | [] => []
  | p :: r => if k == p.1 then r else p :: delG k r
theorem posG_del {k : κ} {v : Value} {j : Nat} : ∀ {L : List (κ × Value)} {i : Nat}, posG k L i = some (j, v) → L.eraseIdx (j - i) = delG k L
  | [], i, h => by simp [posG] at h
  | p :: r, i, h => by
    simp only [posG] at h
    by_cases hk : (k == p.1) = true
    · rw [if_pos hk] at h
      simp only [Option.some.injEq, Prod.mk.injEq] at h
      rw [delG, if_pos hk, ← h.1, Nat.sub_self]; rfl
    · rw [if_neg hk] at h
      obtain ⟨n, h1, _⟩ := posG_some h
      have := posG_del h
      rw [delG, if_neg hk, show j - i = (j - (i + 1)) + 1 by omega, List.eraseIdx_cons_succ, this]
theorem delG_none {k : κ} : ∀ {L : List (κ × Value)}, k ∉ L.map (·.1) → delG k L = L
  | [], _ => rfl
  | p :: r, h => by
    simp only [List.map_cons, List.mem_cons, not_or] at h
    rw [delG, if_neg (fun e => h.1 (eq_of_beq e)), delG_none h.2]
theorem setG_none {k : κ} {v : Value} : ∀ {L : List (κ × Value)}, k ∉ L.map (·.1) → setG k v L = L ++ [(k, v)]
  | [], _ => rfl
  | p :: r, h => by
    simp only [List.map_cons, List.mem_cons, not_or] at h
    rw [setG, if_neg (fun e => h.1 (eq_of_beq e)), setG_none h.2]; rfl
theorem posG_set {k : κ} {v u : Value} {j : Nat} : ∀ {L : List (κ × Value)} {i : Nat}, posG k L i = some (j, u) → L.modify (j - i) (fun _ => (k, v)) = setG k v L
  | [], i, h => by simp [posG] at h
  | p :: r, i, h => by
    simp only [posG] at h
    by_cases hk : (k == p.1) = true
    · rw [if_pos hk] at h
      simp only [Option.some.injEq, Prod.mk.injEq] at h
      rw [setG, if_pos hk, ← h.1, Nat.sub_self]; rfl
    · rw [if_neg hk] at h
      obtain ⟨n, h1, _⟩ := posG_some h
      have := posG_set (v := v) h
      rw [setG, if_neg hk, show j - i = (j - (i + 1)) + 1 by omega, List.modify_succ_cons, this]
end

/-- Keys of the type kt are told apart as κ's are, where G holds. -/
structure Keys (P : Program) (kt : TypeId) {κ : Type} [BEq κ] (kv : κ → Value) (G : World → κ → Prop) : Prop where
  check : ∀ b k w, (Instr.checkKey b 10000 kt (kv k)).run P w = .ok () w
  find : ∀ k (L : List (κ × Value)) (es : List MapEntry) w, G w k → (∀ p ∈ L, G w p.1) → es.map (fun e => (e.key, e.val)) = kvL kv L → (Instr.findKey kt (kv k) es).run P w = .ok (posG k L 0) w
  stays : ∀ k w, (Instr.keyThatStays (kv k) (kv k)).run P w = .ok (kv k) w

instance : LawfulBEq ByteArray where
  eq_of_beq {a b} h := by
    cases a; cases b
    exact congrArg ByteArray.mk (eq_of_beq h)
  rfl {a} := by
    cases a
    exact beq_self_eq_true (α := Array UInt8) _

section
variable {P : Program} {kt : TypeId}
theorem find_string {k : ByteArray} : ∀ (es : List MapEntry) (L : List (ByteArray × Value)) (i : Nat), es.map (fun e => (e.key, e.val)) = kvL Value.string L → Instr.findNow .string (.string k) es i = some (posG k L i)
  | [], [], _, _ => rfl
  | [], _ :: _, _, h => by simp [kvL] at h
  | _ :: _, [], _, h => by simp [kvL] at h
  | e :: es, p :: L, i, h => by
    simp only [kvL, List.map_cons, List.cons.injEq, Prod.mk.injEq] at h
    obtain ⟨⟨hk, hv⟩, ht⟩ := h
    simp only [Instr.findNow, hk, Instr.sameNow]
    cases hb : (k == p.1) with
    | true => simp [posG, hb, hv]
    | false =>
      simp only [posG, hb]
      exact find_string es L (i + 1) ht
theorem keys_string (hk : P.underlying kt = some .string) : Keys P kt (κ := ByteArray) Value.string fun _ _ => True := by
  refine ⟨fun b k w => ?_, fun k L es w _ _ h => ?_, fun k w => ?_⟩
  · have h : ∀ n, (Instr.checkKey b (n + 1) kt (.string k)).run P w = .ok () w := by
      intro n
      simp [Instr.checkKey, run_underlying' hk, Result.andThen]
    exact h 9999
  · simp [Instr.findKey, run_underlying' hk, Result.andThen, find_string es L 0 h]
  · simp [Instr.keyThatStays, Instr.sameBits]

variable {κ : Type} [BEq κ] [LawfulBEq κ] {kv : κ → Value} {G : World → κ → Prop} {w : World} {t et : TypeId} {r : Nat} {L : List (κ × Value)}
omit [LawfulBEq κ] in
theorem lookup_k (K : Keys P kt kv G) (hu : P.underlying t = some (.map kt et)) {z : Value} (hz : ∀ w, (zeroValue et).run P w = .ok z w) (hm : MapAt w r (kvL kv L)) (k : κ) (hg : G w k) (hG : ∀ p ∈ L, G w p.1) (b : Bool) :
    (Instr.lookup t (.map (some r)) (kv k) b).run P w = .ok (match getG k L with | some v => if b then .tuple #[v, .bool true] else v | none => if b then .tuple #[z, .bool false] else z) w := by
  obtain ⟨es, clock, hb, he, _⟩ := hm
  have hf := K.find k L es.toList w hg hG he
  rw [← posG_getG (i := 0)]
  cases hp : posG k L 0 with
  | none => rw [hp] at hf; cases b <;> simp [Instr.lookup, run_underlying' hu, Result.andThen, MapKept.run_getObj_map hb, K.check, hf, hz]
  | some p => rw [hp] at hf; cases b <;> simp [Instr.lookup, run_underlying' hu, Result.andThen, MapKept.run_getObj_map hb, K.check, hf]
theorem update_k (K : Keys P kt kv G) (hu : P.underlying t = some (.map kt et)) (hm : MapAt w r (kvL kv L)) (k : κ) (hg : G w k) (hG : ∀ p ∈ L, G w p.1) (v : Value) :
    ∃ w', (Instr.mapUpdate t (.map (some r)) (kv k) v).run P w = .ok () w' ∧ Mod (on r) w w' ∧ MapAt w' r (kvL kv (setG k v L)) := by
  obtain ⟨es, clock, hb, he, hn, hc⟩ := hm
  have hf := K.find k L es.toList w hg hG he
  have hrun : ∀ (es' : Array MapEntry) (c : Nat), (setObj r (.map es' c)).run P w = .ok () (w.putObj r (.map es' c)) := by
    intro es' c; simp [setObj, Sem.run, World.putObj, hb]
  cases hp : posG k L 0 with
  | none =>
    rw [hp] at hf
    refine ⟨w.putObj r (.map (es.push { key := kv k, val := v, born := clock }) (clock + 1)), ?_, Mod.putObj w r _, ⟨_, _, put_at _ hb, ?_, ?_, ?_⟩⟩
    · simp [Instr.mapUpdate, run_underlying' hu, Result.andThen, MapKept.run_getObj_map hb, K.check, hf, hrun]
    · rw [setG_none (posG_none.1 hp)]
      simp [he, kvL]
    · simp only [Array.toList_push, List.map_append, List.map_cons, List.map_nil]
      rw [List.nodup_append]
      refine ⟨hn, by simp, ?_⟩
      intro a ha b hb' hab
      simp only [List.mem_cons, List.not_mem_nil, or_false] at hb'
      obtain ⟨e, he', rfl⟩ := List.mem_map.1 ha
      have := hc e he'
      omega
    · intro e h
      simp only [Array.toList_push, List.mem_append, List.mem_cons, List.not_mem_nil, or_false] at h
      rcases h with h | rfl
      · have := hc e h; omega
      · simp
  | some p =>
    obtain ⟨j, u⟩ := p
    rw [hp] at hf
    obtain ⟨n, hjn, hnl, hLn, _⟩ := posG_some hp
    have hjn : j = n := by omega
    subst hjn
    have hlen : es.size = L.length := by
      have := congrArg List.length he
      simpa [kvL] using this
    have hje : j < es.size := by omega
    have hkey : es[j].key = kv k := by
      have h1 : (es.toList.map fun e => (e.key, e.val))[j]? = some (es[j].key, es[j].val) := by simp [hje]
      rw [he, kvL, List.getElem?_map, List.getElem?_eq_getElem hnl, hLn] at h1
      simp only [Option.map_some, Option.some.injEq, Prod.mk.injEq] at h1
      exact h1.1.symm
    have hst := K.stays k w
    refine ⟨w.putObj r (.map (es.modify j fun e => { e with key := kv k, val := v }) clock), ?_, Mod.putObj w r _, ⟨_, _, put_at _ hb, ?_, ?_, ?_⟩⟩
    · simp [Instr.mapUpdate, run_underlying' hu, Result.andThen, MapKept.run_getObj_map hb, K.check, hf, hje, hkey, hst, hrun]
    · have h2 := posG_set (v := v) hp
      rw [Nat.sub_zero] at h2
      rw [← h2, kvL, Array.toList_modify]
      apply List.ext_getElem?
      intro m
      have h3 : (es.toList.map fun e => (e.key, e.val))[m]? = (kvL kv L)[m]? := by rw [he]
      simp only [kvL, List.getElem?_map] at h3
      simp only [List.getElem?_map, List.getElem?_modify]
      by_cases hmj : j = m
      · subst hmj
        simp [hje, hnl]
      · simp only [hmj, if_false]
        simpa using h3
    · have : (es.modify j fun e => { e with key := kv k, val := v }).toList.map (·.born) = es.toList.map (·.born) := by
        rw [Array.toList_modify]
        apply List.ext_getElem?
        intro m
        simp only [List.getElem?_map, List.getElem?_modify]
        by_cases hmj : j = m
        · subst hmj; simp [hje]
        · simp [hmj]
      rw [this]
      exact hn
    · intro e h
      rw [Array.toList_modify] at h
      obtain ⟨m, hm, rfl⟩ := List.getElem_of_mem h
      have hm' : m < es.toList.length := by simpa using hm
      rw [List.getElem_modify]
      split
      · exact hc es.toList[m] (List.getElem_mem hm')
      · exact hc es.toList[m] (List.getElem_mem hm')
theorem delete_k (K : Keys P kt kv G) {u ty : TypeId} (hu : P.underlying t = some (.map kt et)) (hm : MapAt w r (kvL kv L)) (k : κ) (hg : G w k) (hG : ∀ p ∈ L, G w p.1) :
    ∃ w', (Builtin.delete_ #[t, u] ty #[.map (some r), kv k]).run P w = .ok (.tuple #[]) w' ∧ Mod (on r) w w' ∧ MapAt w' r (kvL kv (delG k L)) := by
  obtain ⟨es, clock, hb, he, hn, hc⟩ := hm
  have hf := K.find k L es.toList w hg hG he
  have hrun : ∀ es' : Array MapEntry, (setObj r (.map es' clock)).run P w = .ok () (w.putObj r (.map es' clock)) := by
    intro es'; simp [setObj, Sem.run, World.putObj, hb]
  cases hp : posG k L 0 with
  | none =>
    rw [hp] at hf
    refine ⟨w.putObj r (.map es clock), ?_, Mod.putObj w r _, ⟨es, clock, put_at _ hb, by rw [delG_none (posG_none.1 hp)]; exact he, hn, hc⟩⟩
    simp [Builtin.delete_, run_underlying' hu, Result.andThen, MapKept.run_getObj_map hb, K.check, hf, hrun]
  | some p =>
    obtain ⟨j, v⟩ := p
    rw [hp] at hf
    refine ⟨w.putObj r (.map (es.eraseIdxIfInBounds j) clock), ?_, Mod.putObj w r _, ⟨es.eraseIdxIfInBounds j, clock, put_at _ hb, ?_, ?_, ?_⟩⟩
    · simp [Builtin.delete_, run_underlying' hu, Result.andThen, MapKept.run_getObj_map hb, K.check, hf, hrun]
    · have := posG_del hp
      rw [Nat.sub_zero] at this
      simp only [Array.toList_eraseIdxIfInBounds, ← eraseIdx_map', he, kvL]
      rw [← this, eraseIdx_map']
    · rw [Array.toList_eraseIdxIfInBounds, ← eraseIdx_map']; exact hn.eraseIdx _
    · intro e h
      rw [Array.toList_eraseIdxIfInBounds] at h
      exact hc e (List.mem_of_mem_eraseIdx h)
end
end Go.Proofs.Ytemklabamlifdaa.St

/- Plain laws on lists of whole numbers: swaps, parts that are sorted. It names no program. -/
namespace Go.Proofs.Ytemklabamlifdaa.St

/-- What can be sorted: of two, one is less or the other is at most so; and what is at most so goes on. -/
class Lin (α : Type) [LE α] [_root_.LT α] : Prop where
  nlt : ∀ {a b : α}, ¬ a < b → b ≤ a
  nle : ∀ {a b : α}, a ≤ b → ¬ b < a
  lle : ∀ {a b : α}, a < b → a ≤ b
  tr : ∀ {a b c : α}, a ≤ b → b ≤ c → a ≤ c
instance : Lin Int := ⟨fun h => by omega, fun h => by omega, fun h => by omega, fun h h' => by omega⟩

section
variable {α : Type} [Inhabited α]
def at0 (xs : List α) (i : Nat) : α := xs.getD i default
/-- At a stands v (a word of its own, so that no solver looks into it). -/
structure AtE (xs : List α) (a : Nat) (v : α) : Prop where
  eq : at0 xs a = v
def swapL (xs : List α) (i j : Nat) : List α := (xs.set i (at0 xs j)).set j (at0 xs i)

theorem at0_eq {xs : List α} {i : Nat} (h : i < xs.length) : at0 xs i = xs[i] := by simp [at0, h]
theorem at0_set {xs : List α} {i k : Nat} {v : α} (h : i < xs.length) : at0 (xs.set i v) k = if k = i then v else at0 xs k := by
  simp only [at0, List.getD_eq_getElem?_getD, List.getElem?_set]
  by_cases e : i = k
  · subst e; simp [h]
  · rw [if_neg e, if_neg (fun h => e h.symm)]
@[simp] theorem length_swapL (xs : List α) (i j : Nat) : (swapL xs i j).length = xs.length := by simp [swapL]
theorem at0_swapL {xs : List α} {i j k : Nat} (hi : i < xs.length) (hj : j < xs.length) : at0 (swapL xs i j) k = if k = j then at0 xs i else if k = i then at0 xs j else at0 xs k := by
  rw [swapL, at0_set (by simpa using hj), at0_set hi]

theorem swapL_perm {xs : List α} {i j : Nat} (hi : i < xs.length) (hj : j < xs.length) : (swapL xs i j).Perm xs := by
  have h := Array.swap_perm (xs := xs.toArray) (i := i) (j := j) (by simpa using hi) (by simpa using hj)
  have e : (xs.toArray.swap i j (by simpa using hi) (by simpa using hj)).toList = swapL xs i j := by
    simp [Array.swap, swapL, at0_eq hi, at0_eq hj]
  rw [← e]
  exact Array.perm_iff_toList_perm.1 h

/-- Of the part [a, b) another order; all else as it was. -/
structure Seg (a b : Nat) (xs ys : List α) : Prop where
  len : ys.length = xs.length
  out : ∀ k, k < a ∨ b ≤ k → at0 ys k = at0 xs k
  perm : ys.Perm xs

theorem Seg.refl (a b : Nat) (xs : List α) : Seg a b xs xs := ⟨rfl, fun _ _ => rfl, .refl _⟩
theorem Seg.trans {a b : Nat} {xs ys zs : List α} (h : Seg a b xs ys) (h' : Seg a b ys zs) : Seg a b xs zs :=
  ⟨h'.len.trans h.len, fun k hk => (h'.out k hk).trans (h.out k hk), h'.perm.trans h.perm⟩
theorem Seg.mono {a b a' b' : Nat} {xs ys : List α} (h : Seg a b xs ys) (ha : a' ≤ a) (hb : b ≤ b') : Seg a' b' xs ys :=
  ⟨h.len, fun k hk => h.out k (by omega), h.perm⟩
theorem Seg.swap {a b i j : Nat} {xs : List α} (hi : i < xs.length) (hj : j < xs.length) (h1 : a ≤ i) (h2 : i < b) (h3 : a ≤ j) (h4 : j < b) : Seg a b xs (swapL xs i j) :=
  ⟨length_swapL _ _ _, fun k hk => by rw [at0_swapL hi hj, if_neg (by omega), if_neg (by omega)], swapL_perm hi hj⟩

/-- The part [a, b) is sorted. -/
def Srt [LE α] (xs : List α) (a b : Nat) : Prop := ∀ p q, a ≤ p → p < q → q < b → at0 xs p ≤ at0 xs q

/-- A part's elements are the same ones. -/
theorem Seg.part {a b : Nat} {xs ys : List α} (h : Seg a b xs ys) (hab : a ≤ b) : ((ys.take b).drop a).Perm ((xs.take b).drop a) := by
  have split : ∀ l : List α, l = l.take a ++ ((l.take b).drop a ++ l.drop b) := by
    intro l
    have h1 : l.take b = l.take a ++ (l.take b).drop a := by
      have := (List.take_append_drop a (l.take b)).symm
      rwa [List.take_take, Nat.min_eq_left hab] at this
    rw [← List.append_assoc, ← h1, List.take_append_drop]
  have ext : ∀ (l l' : List α), l.length = l'.length → (∀ k, k < l.length → at0 l k = at0 l' k) → l = l' := by
    intro l l' hl hk
    apply List.ext_getElem hl
    intro i h1 h2
    have := hk i h1
    rwa [at0_eq h1, at0_eq h2] at this
  have e1 : ys.take a = xs.take a := by
    refine ext _ _ (by simp [h.len]) fun k hk => ?_
    simp at hk
    have := h.out k (.inl (by omega))
    rw [at0_eq (by simp; omega), at0_eq (by have := h.len; simp; omega)]
    rw [at0_eq (by omega), at0_eq (by have := h.len; omega)] at this
    simpa using this
  have e2 : ys.drop b = xs.drop b := by
    refine ext _ _ (by simp [h.len]) fun k hk => ?_
    simp at hk
    have := h.out (b + k) (.inr (by omega))
    rw [at0_eq (by simp; omega), at0_eq (by have := h.len; simp; omega)]
    rw [at0_eq (by omega), at0_eq (by have := h.len; omega)] at this
    simpa using this
  have hp := h.perm
  rw [split ys, split xs, e1, e2] at hp
  exact (List.perm_append_right_iff _).1 ((List.perm_append_left_iff _).1 hp)

theorem Seg.all {a b : Nat} {xs ys : List α} (h : Seg a b xs ys) (hb : b ≤ xs.length) {P : α → Prop} (hx : ∀ k, a ≤ k → k < b → P (at0 xs k)) : ∀ k, a ≤ k → k < b → P (at0 ys k) := by
  intro k h1 h2
  have hp := h.part (by omega : a ≤ b)
  have hl := h.len
  have hm : at0 ys k ∈ (ys.take b).drop a := by
    rw [List.mem_drop_iff_getElem]
    refine ⟨k - a, by simp; omega, ?_⟩
    rw [at0_eq (by omega)]
    simp [show a + (k - a) = k by omega]
  have := hp.mem_iff.1 hm
  rw [List.mem_drop_iff_getElem] at this
  obtain ⟨i, hi, e⟩ := this
  simp at hi
  rw [← e]
  have := hx (a + i) (by omega) (by omega)
  rw [at0_eq (by omega)] at this
  simpa using this

end

section
variable {α : Type} [Inhabited α] [LE α] [_root_.LT α] [Lin α]
omit [Inhabited α] in
theorem Lin.refl (x : α) : x ≤ x := by
  by_cases h : x < x
  · exact Lin.lle h
  · exact Lin.nlt h

omit [_root_.LT α] [Lin α] in
theorem Srt.nil (xs : List α) (a b : Nat) (h : b ≤ a + 1) : Srt xs a b := fun p q _ _ _ => by omega
omit [_root_.LT α] [Lin α] in
theorem Srt.of_out {xs ys : List α} {a b a' b' : Nat} (h : Srt xs a b) (hs : Seg a' b' xs ys) (hd : b ≤ a' ∨ b' ≤ a) : Srt ys a b := fun p q h1 h2 h3 => by
  rw [hs.out p (by omega), hs.out q (by omega)]; exact h p q h1 h2 h3

/-- Insertion: all is sorted but what stands at j. -/
def Ins (xs : List α) (a i j : Nat) : Prop := ∀ p q, a ≤ p → p < q → q ≤ i → q ≠ j → at0 xs p ≤ at0 xs q
omit [_root_.LT α] [Lin α] in
theorem Ins.start {xs : List α} {a i : Nat} (h : Srt xs a i) : Ins xs a i i := fun p q h1 h2 h3 h4 => h p q h1 h2 (by omega)
theorem Ins.done {xs : List α} {a i j : Nat} (h : Ins xs a i j) (hj : j ≤ a ∨ at0 xs (j - 1) ≤ at0 xs j) : Srt xs a (i + 1) := by
  intro p q h1 h2 h3
  by_cases e : q = j
  · subst e
    rcases hj with hj | hj
    · omega
    · by_cases e' : p = q - 1
      · subst e'; exact hj
      · exact Lin.tr (h p (q - 1) h1 (by omega) (by omega) (by omega)) hj
  · exact h p q h1 h2 (by omega) e
theorem Ins.step {xs : List α} {a i j : Nat} (h : Ins xs a i j) (hi : i < xs.length) (hja : a < j) (hji : j ≤ i) (hlt : at0 xs j < at0 xs (j - 1)) : Ins (swapL xs j (j - 1)) a i (j - 1) := by
  have hs : ∀ k, at0 (swapL xs j (j - 1)) k = if k = j - 1 then at0 xs j else if k = j then at0 xs (j - 1) else at0 xs k := fun k => at0_swapL (by omega) (by omega)
  intro p q h1 h2 h3 h4
  rw [hs p, hs q, if_neg h4]
  by_cases hq : q = j
  · subst hq
    rw [if_pos rfl]
    by_cases hp : p = q - 1
    · rw [if_pos hp]; exact Lin.lle hlt
    · rw [if_neg hp, if_neg (by omega)]
      exact h p (q - 1) h1 (by omega) (by omega) (by omega)
  · rw [if_neg hq]
    by_cases hp : p = j - 1
    · rw [if_pos hp]
      exact h j q (by omega) (by omega) h3 hq
    · rw [if_neg hp]
      by_cases hp2 : p = j
      · rw [if_pos hp2]; exact h (j - 1) q (by omega) (by omega) h3 hq
      · rw [if_neg hp2]; exact h p q h1 h2 h3 hq
end
end Go.Proofs.Ytemklabamlifdaa.St

/- Rows of one-cell elements (numbers, strings). It names no program. -/
namespace Go.Proofs.Ytemklabamlifdaa.St
open Go

/-- The row a[:l:c] holds these elements. -/
def Els {α : Type} (val : α → Value) (e : TypeId) (w : World) (a : Option Addr) (l c : Nat) (xs : List α) : Prop := w.ownsRow 0 e 1 (.slice a l c) l (xs.map val)
/-- The row a[:l:c] holds these numbers. -/
abbrev Ints (ik : IntKind) (e : TypeId) (w : World) (a : Option Addr) (l c : Nat) (xs : List Int) : Prop := Els (Value.int ik) e w a l c xs

section
variable {α : Type} {val : α → Value} {e : TypeId} {w w' : World} {a : Option Addr} {l c : Nat} {xs : List α}
theorem Els.len (h : Els val e w a l c xs) : xs.length = l ∧ l ≤ c ∧ c ≤ 9223372036854775807 := by
  obtain ⟨_, h1, h2, h3⟩ := row_len h
  exact ⟨by simpa using h1, h2, h3⟩
theorem Els.blk (h : Els val e w a l c xs) : ∀ k, rowB a k → k < w.heap.size := by
  intro k hk
  rcases h.2 with ⟨hv, _⟩ | ⟨g, cap, cur, hv, _, hg, _⟩
  · injection hv with h1; subst h1; simp [rowB] at hk
  · injection hv with h1; subst h1; simp [rowB] at hk; subst hk; exact lt_of_heap hg
theorem Els.mod {S : Nat → Prop} (h : Els val e w a l c xs) (hm : Mod S w w') (hs : ∀ k, rowB a k → ¬ S k) : Els val e w' a l c xs := row_mod h hm hs
theorem Els.no (h : Els val e w a l c xs) (hm : Mod no w w') : Els val e w' a l c xs := row_mod h hm fun _ _ => id
theorem Els.at (h : Els val e w a l c xs) {i : Nat} (hi : i < xs.length) : ∃ g, a = some ⟨g, 0, none⟩ ∧ w.cell? (Addr.add ⟨g, 0, none⟩ (i * 1)) = some (val xs[i]) :=
  row_at h (i := i) (by simp [hi])
theorem Els.put (h : Els val e w a l c xs) {i : Nat} (hi : i < xs.length) (v : α) :
    ∃ ad, a = some ad ∧ (∃ u, w.cell? (Addr.add (Addr.add ad (i * 1)) 0) = some u) ∧ w.frozen? (Addr.add (Addr.add ad (i * 1)) 0) = false ∧
      Mod (rowB a) w (w.setCell (Addr.add (Addr.add ad (i * 1)) 0) (val v)) ∧ Els val e (w.setCell (Addr.add (Addr.add ad (i * 1)) 0) (val v)) a l c (xs.set i v) := by
  obtain ⟨ad, h1, h2, h3, h4, h5⟩ := row_put h (i := i) (by have := h.len; omega) (val v)
  exact ⟨ad, h1, h2, h3, h4, by rw [Els, List.map_set]; exact h5⟩
end

section
variable {α : Type} [Inhabited α] {val : α → Value} {e : TypeId} {w : World} {a : Option Addr} {l c : Nat} {xs : List α}
theorem Els.get (h : Els val e w a l c xs) {i : Nat} (hi : i < xs.length) : ∃ g, a = some ⟨g, 0, none⟩ ∧ w.cell? (Addr.add ⟨g, 0, none⟩ (i * 1)) = some (val (at0 xs i)) := by
  rw [at0_eq hi]; exact h.at hi
omit [Inhabited α] in
theorem Els.lt (h : Els val e w a l c xs) {i : Nat} (hi : i < l) : i < xs.length := by have := h.len.1; omega
omit [Inhabited α] in
theorem Els.le (h : Els val e w a l c xs) {i : Nat} (hi : i ≤ l) : i ≤ xs.length := by have := h.len.1; omega
/-- Two of a part are swapped. -/
theorem Els.seg (h : Els val e w a l c xs) {p q i j : Nat} (hi : i < l) (hj : j < l) (h1 : p ≤ i) (h2 : i < q) (h3 : p ≤ j) (h4 : j < q) : Seg p q xs (swapL xs i j) := Seg.swap (h.lt hi) (h.lt hj) h1 h2 h3 h4
/-- One is read. -/
theorem Els.rd (h : Els val e w a l c xs) {i : Int} (n : Nat) (hi : i = n) (hn : n < l) {K : α → Prop} (hk : K (at0 xs n)) :
    ∃ ad : Addr, a = some ad ∧ (0 : Int) ≤ i ∧ i < (↑l : Int) ∧ ∃ x : α, w.cell? (Addr.add ad (Int.toNat i * 1)) = some (val x) ∧ K x := by
  subst hi
  obtain ⟨g, rfl, hc⟩ := h.get (i := n) (by have := h.len; omega)
  exact ⟨_, rfl, by omega, by omega, _, hc, hk⟩
omit [Inhabited α] in
/-- One is written. -/
theorem Els.wr (h : Els val e w a l c xs) {i : Int} (n : Nat) (hi : i = n) (hn : n < l) (v : α) {K : World → Prop} (hk : ∀ w', Mod (rowB a) w w' → Els val e w' a l c (xs.set n v) → K w') :
    ∃ ad : Addr, a = some ad ∧ (0 : Int) ≤ i ∧ i < (↑l : Int) ∧ (∃ u : Value, w.cell? (Addr.add (Addr.add ad (Int.toNat i * 1)) 0) = some u) ∧ w.frozen? (Addr.add (Addr.add ad (Int.toNat i * 1)) 0) = false ∧
      atW (w.setCell (Addr.add (Addr.add ad (Int.toNat i * 1)) 0) (val v)) K := by
  subst hi
  obtain ⟨ad, had, hold, hfz, m, hp⟩ := h.put (i := n) (by have := h.len; omega) v
  refine ⟨ad, had, by omega, by omega, hold, hfz, fun w' e => ?_⟩
  subst e
  exact hk _ m hp
/-- Two are swapped. -/
theorem Els.swp (h : Els val e w a l c xs) {i j : Int} (m n : Nat) (hi : i = m) (hj : j = n) (hm : m < l) (hn : n < l) {K : World → Prop}
    (hk : ∀ w', Els val e w' a l c (swapL xs m n) → Mod (rowB a) w w' → K w') :
    ∃ ad : Addr, a = some ad ∧ (0 : Int) ≤ j ∧ j < (↑l : Int) ∧ ∃ x : α, w.cell? (Addr.add ad (Int.toNat j * 1)) = some (val x) ∧
    ∃ ad : Addr, a = some ad ∧ (0 : Int) ≤ i ∧ i < (↑l : Int) ∧ ∃ y : α, w.cell? (Addr.add ad (Int.toNat i * 1)) = some (val y) ∧
    ∃ ad : Addr, a = some ad ∧ (0 : Int) ≤ i ∧ i < (↑l : Int) ∧ (∃ u : Value, w.cell? (Addr.add (Addr.add ad (Int.toNat i * 1)) 0) = some u) ∧ w.frozen? (Addr.add (Addr.add ad (Int.toNat i * 1)) 0) = false ∧
      atW (w.setCell (Addr.add (Addr.add ad (Int.toNat i * 1)) 0) (val x)) fun w1 =>
    ∃ ad : Addr, a = some ad ∧ (0 : Int) ≤ j ∧ j < (↑l : Int) ∧ (∃ u : Value, w1.cell? (Addr.add (Addr.add ad (Int.toNat j * 1)) 0) = some u) ∧ w1.frozen? (Addr.add (Addr.add ad (Int.toNat j * 1)) 0) = false ∧
      atW (w1.setCell (Addr.add (Addr.add ad (Int.toNat j * 1)) 0) (val y)) K := by
  refine h.rd n hj hn (h.rd m hi hm (h.wr m hi hm _ fun w1 m1 h1 => h1.wr n hj hn _ fun w2 m2 h2 => hk w2 h2 (m1.trans m2)))
end

end Go.Proofs.Ytemklabamlifdaa.St

/- Rows of elements of any number of cells. It names no program. -/
namespace Go.Proofs.Ytemklabamlifdaa.St
open Go

/-- How an element lies: s cells, one word each. -/
structure Lay (α : Type) where
  cs : α → List Value
  s : Nat
  pos : 0 < s
  len : ∀ x, (cs x).length = s
  one : ∀ x, ∀ v ∈ cs x, v.oneCell' = true

section
variable {α : Type} (L : Lay α)
/-- The row a[:l:c] holds these elements. -/
def Row (e : TypeId) (w : World) (a : Option Addr) (l c : Nat) (xs : List α) : Prop := w.ownsRow 0 e L.s (.slice a l c) l (xs.flatMap L.cs)
variable {L : Lay α} {e : TypeId} {w w' : World} {a : Option Addr} {l c : Nat} {xs : List α}

theorem Lay.length (L : Lay α) (xs : List α) : (xs.flatMap L.cs).length = xs.length * L.s := by
  induction xs with
  | nil => simp
  | cons x r ih => rw [List.flatMap_cons, List.length_append, L.len, ih, List.length_cons, Nat.add_mul, Nat.one_mul, Nat.add_comm]
theorem Lay.at (L : Lay α) {xs : List α} {i : Nat} (hi : i < xs.length) {j : Nat} {v : Value} (hj : (L.cs xs[i])[j]? = some v) : (xs.flatMap L.cs)[i * L.s + j]? = some v := by
  induction xs generalizing i with
  | nil => simp at hi
  | cons x r ih =>
    have hjs : j < L.s := by
      obtain ⟨h, _⟩ := List.getElem?_eq_some_iff.1 hj
      rwa [L.len] at h
    rw [List.flatMap_cons]
    cases i with
    | zero =>
      rw [List.getElem?_append_left (by rw [L.len]; omega)]
      simpa using hj
    | succ k =>
      rw [List.getElem?_append_right (by rw [L.len, Nat.add_mul, Nat.one_mul]; omega), L.len]
      have := ih (i := k) (by simpa using hi) (by simpa using hj)
      rwa [show (k + 1) * L.s + j - L.s = k * L.s + j by rw [Nat.add_mul, Nat.one_mul]; omega]
theorem Lay.take (L : Lay α) (xs : List α) (i : Nat) : (xs.take i).flatMap L.cs = (xs.flatMap L.cs).take (i * L.s) := by
  induction xs generalizing i with
  | nil => simp
  | cons x r ih =>
    cases i with
    | zero => simp
    | succ k =>
      rw [List.take_succ_cons, List.flatMap_cons, List.flatMap_cons, ih, List.take_append, L.len, List.take_of_length_le (l := L.cs x) (by rw [L.len, Nat.add_mul, Nat.one_mul]; omega), show (k + 1) * L.s - L.s = k * L.s by rw [Nat.add_mul, Nat.one_mul]; omega]
theorem Lay.drop (L : Lay α) (xs : List α) (i : Nat) : (xs.drop i).flatMap L.cs = (xs.flatMap L.cs).drop (i * L.s) := by
  induction xs generalizing i with
  | nil => simp
  | cons x r ih =>
    cases i with
    | zero => simp
    | succ k =>
      rw [List.drop_succ_cons, List.flatMap_cons, ih, List.drop_append, L.len, List.drop_of_length_le (l := L.cs x) (by rw [L.len, Nat.add_mul, Nat.one_mul]; omega), show (k + 1) * L.s - L.s = k * L.s by rw [Nat.add_mul, Nat.one_mul]; omega, List.nil_append]
theorem Lay.ones (L : Lay α) (xs : List α) : ∀ v ∈ xs.flatMap L.cs, v.oneCell' = true := by
  intro v hv
  obtain ⟨x, _, h⟩ := List.mem_flatMap.1 hv
  exact L.one x v h

theorem Row.len (h : Row L e w a l c xs) : xs.length = l ∧ l ≤ c ∧ c ≤ 9223372036854775807 := by
  have h1 : xs.length = l := by
    have := h.1
    rw [L.length] at this
    exact Nat.eq_of_mul_eq_mul_right L.pos this
  rcases h.2 with ⟨hv, h0⟩ | ⟨g, cap, cur, hv, _, _, hn, hm, _⟩
  · injection hv with _ h2 h3; exact ⟨h1, by omega, by omega⟩
  · injection hv with _ h2 h3; subst h3; exact ⟨h1, hn, by simpa [maxLen] using hm⟩
theorem Row.mod {S : Nat → Prop} (h : Row L e w a l c xs) (hm : Mod S w w') (hs : ∀ k, rowB a k → ¬ S k) : Row L e w' a l c xs := by
  refine ⟨h.1, ?_⟩
  rcases h.2 with hn | ⟨g, cap, cur, hv, hb, hg, rest⟩
  · exact .inl hn
  · injection hv with h1 h2 h3
    subst h1; subst h3
    exact .inr ⟨g, c, cur, rfl, hb, hm.at hg (hs g (by simp [rowB])), rest⟩
theorem Row.no (h : Row L e w a l c xs) (hm : Mod no w w') : Row L e w' a l c xs := h.mod hm fun _ _ => id
theorem Row.block (h : Row L e w a l c xs) : (a = none ∧ l = 0 ∧ c = 0 ∧ xs = []) ∨ ∃ g cur, a = some ⟨g, 0, none⟩ ∧ w.heap[g]? = some (.cells cur e (0, 0)) ∧ l ≤ c ∧ c ≤ maxLen ∧ cur.size = c * L.s ∧ cur.toList.take (l * L.s) = xs.flatMap L.cs := by
  have hl := h.len
  rcases h.2 with ⟨hv, h0⟩ | ⟨g, cap, cur, hv, _, hg, h1, h2, h3, h4⟩
  · injection hv with e1 e2 e3
    exact .inl ⟨e1, e2, e3, List.eq_nil_of_length_eq_zero (by omega)⟩
  · injection hv with e1 e2 e3
    subst e1; subst e3
    exact .inr ⟨g, cur, rfl, hg, h1, h2, h3, h4⟩
/-- A row that is there lies in the heap. -/
theorem Row.lt (h : Row L e w a l c xs) : ∀ k, rowB a k → k < w.heap.size := by
  intro k hk
  rcases h.block with ⟨rfl, _⟩ | ⟨g, cur, rfl, hg, _⟩
  · simp [rowB] at hk
  · simp [rowB] at hk; subst hk; exact lt_of_heap hg
theorem Row.empty (L : Lay α) (e : TypeId) (w : World) : Row L e w none 0 0 [] := ⟨by simp, .inl ⟨rfl, rfl⟩⟩
theorem Row.cellAt {g : Nat} (h : Row L e w (some ⟨g, 0, none⟩) l c xs) {k : Nat} {v : Value} (hk : (xs.flatMap L.cs)[k]? = some v) : w.cell? (Addr.add ⟨g, 0, none⟩ k) = some v := by
  rcases h.block with ⟨h0, _⟩ | ⟨g', cur, hg', hg, _, _, _, h4⟩
  · cases h0
  · injection hg' with hg'; injection hg' with hg'; subst hg'
    rw [cl1 hg]
    rw [← h4, List.getElem?_take] at hk
    split at hk
    · simpa using hk
    · cases hk
/-- An element's cells. -/
theorem Row.get (h : Row L e w a l c xs) {i : Nat} (hi : i < xs.length) : ∃ g, a = some ⟨g, 0, none⟩ ∧ ∀ j v, (L.cs xs[i])[j]? = some v → w.cell? (Addr.add (Addr.add ⟨g, 0, none⟩ (i * L.s)) j) = some v := by
  have hl := h.len
  rcases h.block with ⟨_, h0, _⟩ | ⟨g, cur, rfl, _⟩
  · omega
  · refine ⟨g, rfl, fun j v hj => ?_⟩
    have := h.cellAt (L.at hi hj)
    rw [add_lit] at this
    rw [add_lit, add_lit, Nat.add_assoc]
    exact this
/-- The same of a smaller row's place. -/
theorem Row.getS (h : Row L e w a l c xs) {i : Nat} (hi : i < xs.length) {s : Nat} (hs : L.s = s) : ∃ g, a = some ⟨g, 0, none⟩ ∧ ∀ j v, (L.cs xs[i])[j]? = some v → w.cell? (Addr.add (Addr.add ⟨g, 0, none⟩ (i * s)) j) = some v := by
  subst hs; exact h.get hi

/-- t is a slice of e; an e has s cells, and b bytes. -/
def laidOk (P : Program) (t e : TypeId) (s : Nat) : Bool :=
  (match P.underlying t with | some (.slice e') => Nat.beq e' e | _ => false) &&
  (match P.info? e with
    | some i => Nat.beq i.size s && Nat.ble i.bytes 128 && (match i.zero with | some z => Nat.beq z.cells.size s | none => false)
    | none => false)
theorem laidOk_of {P : Program} {t e : TypeId} {s : Nat} (h : laidOk P t e s = true) :
    P.underlying t = some (.slice e) ∧ ∃ i z, P.info? e = some i ∧ i.zero = some z ∧ i.size = s ∧ i.bytes ≤ 128 ∧ z.cells.size = s := by
  simp only [laidOk, Bool.and_eq_true] at h
  obtain ⟨h1, h2⟩ := h
  constructor
  · split at h1
    · rename_i e' hu; rw [hu, Nat.eq_of_beq_eq_true h1]
    · cases h1
  · split at h2
    · rename_i i hi
      simp only [Bool.and_eq_true] at h2
      obtain ⟨⟨h2, h3⟩, h4⟩ := h2
      split at h4
      · rename_i z hz
        exact ⟨i, z, hi, hz, Nat.eq_of_beq_eq_true h2, Nat.le_of_ble_eq_true h3, Nat.eq_of_beq_eq_true h4⟩
      · cases h4
    · cases h2

/-- append(row, others..): behind it the row of both; only the row's own block changed, or a new one was made. The others lie where b begins, or there are none. -/
theorem Row.push {P : Program} {t ty : TypeId} (ho : laidOk P t e L.s = true) (h : Row L e w a l c xs) {b : Option Addr} {m cc : Nat} {ys : List α} (hm : ys.length = m)
    (hb : ∀ ad, b = some ad → ∀ j v, (ys.flatMap L.cs)[j]? = some v → w.cell? (ad.add j) = some v) (hb0 : b = none → m = 0 ∧ cc = 0) (hn : l + m ≤ 1099511627776) :
    ∃ a' c' w', (Builtin.append_ #[t, t] ty #[.slice a l c, .slice b m cc]).run P w = .ok (.slice a' (l + m) c') w' ∧ Row L e w' a' (l + m) c' (xs ++ ys) ∧
      Mod (rowB a) w w' ∧ (∀ k, rowB a' k → rowB a k ∨ w.heap.size ≤ k) := by
  obtain ⟨ht, i, z, hi, hz, hsize, hby, hzs⟩ := laidOk_of ho
  have hxl : xs.length = l := h.len.1
  have hlx : (xs.flatMap L.cs).length = l * i.size := by rw [L.length, hxl, hsize]
  have hnl : (ys.flatMap L.cs).length = m * i.size := by rw [L.length, hm, hsize]
  have same : a = a → ∀ k, rowB a k → rowB a k ∨ w.heap.size ≤ k := fun _ k hk => .inl hk
  rcases hbb : b with _ | ad
  · obtain ⟨rfl, rfl⟩ := hb0 hbb
    have : ys = [] := List.eq_nil_of_length_eq_zero hm
    subst this
    have hr := run_append_owned_none (P := P) w 0 t ty e i L.s ht hi (.slice a l c) l (xs.flatMap L.cs) h
    exact ⟨a, c, w, hr, by simpa using h, Mod.refl _ _, fun k hk => .inl hk⟩
  have hb := hb ad hbb
  have hbytes : (l + m) * i.bytes ≤ 140737488355328 := Nat.le_trans (Nat.mul_le_mul hn hby) (by decide)
  have hmx : l + m ≤ maxLen := Nat.le_trans hn (by decide)
  have grown : ∀ (old : Nat), old < l + m →
      Row L e (w.drew.alloc (.cells ((xs.flatMap L.cs).toArray ++ (ys.flatMap L.cs).toArray ++ Builtin.zeroCells z.cells (grownCap w (l + m) old e - (l + m))) e)) (some ⟨w.heap.size, 0, none⟩) (l + m) (grownCap w (l + m) old e) (xs ++ ys) ∧
      Mod (rowB a) w (w.drew.alloc (.cells ((xs.flatMap L.cs).toArray ++ (ys.flatMap L.cs).toArray ++ Builtin.zeroCells z.cells (grownCap w (l + m) old e - (l + m))) e)) := by
    intro old ho
    have hge := grownCap_ge w (l + m) old e
    have hcm : grownCap w (l + m) old e ≤ maxLen := grownCap_le_maxLen w (l + m) old e hmx
    refine ⟨⟨by rw [L.length]; simp [hxl, hm], .inr ⟨w.heap.size, _, _, rfl, Nat.zero_le _, heap_alloc_new w.drew _, hge, hcm, ?_, ?_⟩⟩, ⟨rfl, rfl, rfl, by simp, fun k hk _ => heap_alloc_old w.drew _ hk⟩⟩
    · simp only [Array.size_append, List.size_toArray, size_zeroCells, hzs, hlx, hnl, hsize]
      rw [← Nat.add_mul, ← Nat.add_mul]
      congr 1
      omega
    · simp only [Array.toList_append, List.flatMap_append]
      exact List.take_left' (by simp [hlx, hnl, hsize, Nat.add_mul])
  have hnew : ∀ k, rowB (some (⟨w.heap.size, 0, none⟩ : Addr)) k → rowB a k ∨ w.heap.size ≤ k := by
    intro k hk
    simp [rowB] at hk
    exact .inr (by omega)
  rcases h.block with ⟨rfl, rfl, rfl, rfl⟩ | ⟨g, cur, rfl, hg, hnc, hcm, hcs, htake⟩
  · by_cases hm0 : m = 0
    · subst hm0
      have : ys = [] := List.eq_nil_of_length_eq_zero hm
      subst this
      have hr := run_append_own (P := P) w 0 t ty e i z L.s i.bytes ht hi hz hsize rfl hzs L.pos (.slice none 0 0) 0 [] ⟨by simp, .inl ⟨rfl, rfl⟩⟩ ad 0 cc [] (by simp) (by simp) (by simp) (by simp [maxLen]) (by simp) (Nat.zero_le _)
      obtain ⟨v', w', hr, ho', hg', hv'⟩ := hr
      have hv : v' = .slice none 0 0 := hv'.2 ⟨rfl, rfl⟩
      subst hv
      refine ⟨none, 0, w', hr, Row.empty _ _ _, (Mod.grown hg').mono fun k _ hk => ?_, fun k hk => by simp [rowB] at hk⟩
      simp [Value.ownBlock] at hk
    · have e63 : (m : Int) ≤ 9223372036854775807 := by simp only [maxLen] at hmx; omega
      have e48 : m * i.bytes ≤ 281474976710656 := by rw [Nat.zero_add] at hbytes; omega
      have hr := run_append_nil (P := P) w t ty e i z ht hi hz ad m cc _ hnl hb (by omega) e63 e48
      have hgr := grown 0 (by omega)
      simp only [Nat.zero_add, List.nil_append, Array.empty_append, List.flatMap_nil] at hgr hr ⊢
      exact ⟨_, _, _, hr, hgr.1, hgr.2, hnew⟩
  · by_cases hroom : l + m ≤ c
    · have hown : w.ownsRow 0 e i.size (.slice (some ⟨g, 0, none⟩) l c) l (xs.flatMap L.cs) := by rw [hsize]; exact h
      obtain ⟨w', hr, ho', hgr⟩ := run_append_fits (P := P) (ty := ty) w 0 t e i i.size ht hi rfl g l c _ hown ad m cc _ hnl hb (L.ones ys) hroom
      rw [hsize, ← List.flatMap_append] at ho'
      refine ⟨_, _, _, hr, ho', (Mod.grown hgr).mono fun k _ hk => ?_, fun k hk => .inl hk⟩
      simp [rowB]
      injection hk with hk
      exact hk.symm
    · have holds : ∀ j u, (xs.flatMap L.cs)[j]? = some u → w.cell? ((⟨g, 0, none⟩ : Addr).add j) = some u := fun j u hj => h.cellAt hj
      have hr := run_append_grow (P := P) w t ty e i z ht hi hz ⟨g, 0, none⟩ l c _ hlx holds ad m cc _ hnl hb (by omega) (by simp only [maxLen] at hmx; omega) (growslice_fits (by omega) hbytes)
      have hgr := grown c (by omega)
      exact ⟨_, _, _, hr, hgr.1, hgr.2, hnew⟩

/-- The cells of row[k:]. -/
theorem Row.tail (h : Row L e w a l c xs) {k : Nat} (hk : k ≤ l) {s : Nat} (hs : L.s = s) :
    (∀ ad, (if c = k then a else a.map fun x => Addr.add x (k * s)) = some ad → ∀ j v, ((xs.drop k).flatMap L.cs)[j]? = some v → w.cell? (ad.add j) = some v) ∧
    ((if c = k then a else a.map fun x => Addr.add x (k * s)) = none → l - k = 0 ∧ c - k = 0) ∧ (xs.drop k).length = l - k := by
  subst hs
  have hl := h.len
  refine ⟨fun ad had j v hj => ?_, fun hn => ?_, by rw [List.length_drop]; omega⟩
  · split at had
    · rw [List.drop_eq_nil_of_le (by omega)] at hj
      simp at hj
    · rcases h.block with ⟨rfl, _⟩ | ⟨g, cur, rfl, _⟩
      · cases had
      · simp only [Option.map_some, Option.some.injEq] at had
        subst had
        rw [L.drop, List.getElem?_drop] at hj
        have := h.cellAt hj
        rw [add_lit] at this
        rw [add_lit, add_lit, Nat.add_assoc]
        exact this
  · rcases h.block with ⟨rfl, h1, h2, _⟩ | ⟨g, cur, rfl, _⟩
    · omega
    · split at hn <;> cases hn
/-- The cells of row[:k]. -/
theorem Row.head (h : Row L e w a l c xs) {k : Nat} (hk : k ≤ l) :
    (∀ ad, (if c = 0 then a else a.map fun x => Addr.add x 0) = some ad → ∀ j v, ((xs.take k).flatMap L.cs)[j]? = some v → w.cell? (ad.add j) = some v) ∧
    ((if c = 0 then a else a.map fun x => Addr.add x 0) = none → k - 0 = 0 ∧ c - 0 = 0) ∧ (xs.take k).length = k - 0 := by
  have hl := h.len
  refine ⟨fun ad had j v hj => ?_, fun hn => ?_, by rw [List.length_take]; omega⟩
  · rw [L.take, List.getElem?_take] at hj
    split at hj
    · rcases h.block with ⟨rfl, h1, h2, h3⟩ | ⟨g, cur, rfl, _⟩
      · subst h3; simp at hj
      · have := h.cellAt hj
        split at had
        · cases had; exact this
        · simp only [Option.map_some, Option.some.injEq] at had
          subst had
          rw [add_lit] at this
          rw [add_lit, add_lit, Nat.add_assoc]
          simpa using this
    · cases hj
  · rcases h.block with ⟨rfl, h1, h2, _⟩ | ⟨g, cur, rfl, _⟩
    · omega
    · split at hn <;> cases hn
/-- The cells of the whole row. -/
theorem Row.all (h : Row L e w a l c xs) : (∀ ad, a = some ad → ∀ j v, (xs.flatMap L.cs)[j]? = some v → w.cell? (ad.add j) = some v) ∧ (a = none → l = 0 ∧ c = 0) := by
  refine ⟨fun ad had j v hj => ?_, fun hn => ?_⟩
  · rcases h.block with ⟨rfl, _⟩ | ⟨g, cur, rfl, _⟩
    · cases had
    · cases had; exact h.cellAt hj
  · rcases h.block with ⟨_, h1, h2, _⟩ | ⟨g, cur, rfl, _⟩
    · exact ⟨h1, h2⟩
    · cases hn
/-- A row of what a literal made. -/
theorem Row.lit (L : Lay α) {e : TypeId} {w : World} {k : Nat} {cur : Array Value} (hg : w.heap[k]? = some (.cells cur e (0, 0))) (xs : List α) (h : cur.toList = xs.flatMap L.cs) (hn : xs.length ≤ maxLen) :
    Row L e w (some ⟨k, 0, none⟩) xs.length xs.length xs := by
  have hl : cur.size = xs.length * L.s := by rw [← L.length, ← h, Array.length_toList]
  exact ⟨L.length xs, .inr ⟨k, xs.length, cur, rfl, Nat.zero_le _, hg, Nat.le_refl _, hn, hl, by rw [← h, List.take_of_length_le (by rw [Array.length_toList, hl]; exact Nat.le_refl _)]⟩⟩
theorem Lay.set (L : Lay α) (xs : List α) {i : Nat} (hi : i < xs.length) (y : α) {j : Nat} {v : Value} (hj : j < L.s) (hy : L.cs y = (L.cs xs[i]).set j v) : (xs.set i y).flatMap L.cs = (xs.flatMap L.cs).set (i * L.s + j) v := by
  induction xs generalizing i with
  | nil => simp at hi
  | cons x r ih =>
    cases i with
    | zero =>
      rw [List.set_cons_zero, List.flatMap_cons, List.flatMap_cons, hy, Nat.zero_mul, Nat.zero_add, List.set_append, if_pos (by rw [L.len]; exact hj)]
      rfl
    | succ k =>
      rw [List.set_cons_succ, List.flatMap_cons, List.flatMap_cons, ih (by simpa using hi) (by simpa using hy), List.set_append, if_neg (by rw [L.len, Nat.add_mul, Nat.one_mul]; omega), L.len,
        show (k + 1) * L.s + j - L.s = k * L.s + j by rw [Nat.add_mul, Nat.one_mul]; omega]
/-- A cell of an element is written. -/
theorem Row.put (h : Row L e w a l c xs) {i : Nat} (hi : i < xs.length) {j s : Nat} (hs : L.s = s) (hj : j < L.s) (v : Value) (y : α) (hy : L.cs y = (L.cs xs[i]).set j v) :
    ∃ g, a = some ⟨g, 0, none⟩ ∧ (∃ u, w.cell? (Addr.add (Addr.add (Addr.add ⟨g, 0, none⟩ (i * s)) j) 0) = some u) ∧ w.frozen? (Addr.add (Addr.add (Addr.add ⟨g, 0, none⟩ (i * s)) j) 0) = false ∧
      Mod (on g) w (w.setCell (Addr.add (Addr.add (Addr.add ⟨g, 0, none⟩ (i * s)) j) 0) v) ∧ Row L e (w.setCell (Addr.add (Addr.add (Addr.add ⟨g, 0, none⟩ (i * s)) j) 0) v) a l c (xs.set i y) := by
  subst hs
  have hl := h.len
  rcases h.block with ⟨_, h0, _⟩ | ⟨g, cur, rfl, hg, hnc, hcm, hcs, htake⟩
  · omega
  have hlt : i * L.s + j < l * L.s := by
    have : (i + 1) * L.s ≤ l * L.s := Nat.mul_le_mul_right _ (by omega)
    rw [Nat.add_mul, Nat.one_mul] at this
    omega
  have hlc : l * L.s ≤ c * L.s := Nat.mul_le_mul_right _ hnc
  refine ⟨g, rfl, ⟨_, by rw [add_lit, add_lit, add_lit, cl hg]; exact Array.getElem?_eq_getElem (by omega)⟩, by rw [add_lit, add_lit, add_lit]; exact fz0 hg _, by rw [add_lit, add_lit, add_lit]; exact Mod.setCell w ⟨g, _, none⟩ v, ?_⟩
  refine ⟨by rw [L.length, List.length_set, hl.1], .inr ⟨g, c, _, rfl, Nat.zero_le _, by rw [add_lit, add_lit, add_lit]; exact set0 hg _ v, hnc, hcm, by simpa using hcs, ?_⟩⟩
  rw [L.set xs hi y hj hy, ← htake, Array.toList_setIfInBounds, Nat.zero_add, Nat.add_zero, List.take_set]
end

/-! ### Two lists, held against each other -/
structure AllAt {α β : Type} (P : α → β → Prop) (xs : List α) (ys : List β) : Prop where
  len : xs.length = ys.length
  get : ∀ (i : Nat) (h : i < xs.length) (h' : i < ys.length), P xs[i] ys[i]
section
variable {α β : Type} {P Q : α → β → Prop} {xs xs' : List α} {ys ys' : List β}
theorem AllAt.imp (h : AllAt P xs ys) (hq : ∀ x y, P x y → Q x y) : AllAt Q xs ys := ⟨h.len, fun i h1 h2 => hq _ _ (h.get i h1 h2)⟩
theorem AllAt.nil : AllAt P [] [] := ⟨rfl, fun i h => by simp at h⟩
theorem AllAt.append (h : AllAt P xs ys) (h' : AllAt P xs' ys') : AllAt P (xs ++ xs') (ys ++ ys') := by
  refine ⟨by simp [h.len, h'.len], fun i h1 h2 => ?_⟩
  have hl := h.len
  by_cases hi : i < xs.length
  · rw [List.getElem_append_left hi, List.getElem_append_left (by omega)]; exact h.get i _ _
  · rw [List.getElem_append_right (by omega), List.getElem_append_right (by omega)]
    have := h'.get (i - xs.length) (by simp at h1; omega) (by simp at h2; omega)
    simpa only [hl] using this
theorem AllAt.one {x : α} {y : β} (h : P x y) : AllAt P [x] [y] := ⟨rfl, fun i h1 h2 => by
  have : i = 0 := by simpa using h1
  subst this; exact h⟩
theorem AllAt.take (h : AllAt P xs ys) (k : Nat) : AllAt P (xs.take k) (ys.take k) :=
  ⟨by simp [h.len], fun i h1 h2 => by rw [List.getElem_take, List.getElem_take]; exact h.get i _ _⟩
theorem AllAt.drop (h : AllAt P xs ys) (k : Nat) : AllAt P (xs.drop k) (ys.drop k) :=
  ⟨by simp [h.len], fun i h1 h2 => by rw [List.getElem_drop, List.getElem_drop]; exact h.get (k + i) _ _⟩
theorem AllAt.set (h : AllAt P xs ys) (k : Nat) {x : α} {y : β} (hp : P x y) : AllAt P (xs.set k x) (ys.set k y) := by
  refine ⟨by simp [h.len], fun i h1 h2 => ?_⟩
  rw [List.getElem_set, List.getElem_set]
  split
  · exact hp
  · exact h.get i _ _
end

/-! ### A struct of its own, filled cell by cell -/
def fillC (b : Nat) : List Value → Nat → World → (World → Prop) → Prop
  | [], _, w, K => K w
  | v :: r, i, w, K => (∃ u : Value, w.cell? (Addr.add ⟨b, 0, none⟩ i) = some u) ∧ w.frozen? (Addr.add ⟨b, 0, none⟩ i) = false ∧ atW (w.setCell (Addr.add ⟨b, 0, none⟩ i) v) fun w' => fillC b r (i + 1) w' K
theorem fillC_at {b : Nat} {t : TypeId} {K : World → Prop} : ∀ (vs : List Value) (done old : List Value) (w : World), old.length = vs.length → w.heap[b]? = some (.cells (done ++ old).toArray t (0, 0)) →
    (∀ w', w'.heap[b]? = some (.cells (done ++ vs).toArray t (0, 0)) → Mod (on b) w w' → w'.heap.size = w.heap.size → K w') → fillC b vs done.length w K
  | [], done, old, w, hl, h, hk => by
    have : old = [] := List.eq_nil_of_length_eq_zero hl
    subst this
    exact hk w h (Mod.refl _ _) rfl
  | v :: r, done, [], w, hl, h, hk => by simp at hl
  | v :: r, done, o :: old, w, hl, h, hk => by
    refine ⟨⟨o, by rw [cl1 h]; simp⟩, fz1 h _, fun w' e => ?_⟩
    subst e
    have h1 : (w.setCell (Addr.add ⟨b, 0, none⟩ done.length) v).heap[b]? = some (.cells ((done ++ [v]) ++ old).toArray t (0, 0)) := by
      rw [set1 h]
      simp
    have := fillC_at (K := K) r (done ++ [v]) old _ (by simpa using hl) h1 (fun w' h' m' s' => hk w' (by simpa using h') ((Mod.set1 _ _ _ _).trans m') (by rw [s']; simp))
    simpa using this
theorem fillC_ok {b : Nat} {t : TypeId} {K : World → Prop} {vs : List Value} {w : World} {old : Array Value} (h : w.heap[b]? = some (.cells old t (0, 0))) (hl : old.size = vs.length)
    (hk : ∀ w', w'.heap[b]? = some (.cells vs.toArray t (0, 0)) → Mod (on b) w w' → w'.heap.size = w.heap.size → K w') : fillC b vs 0 w K :=
  fillC_at vs [] old.toList w (by simpa using hl) (by simpa using h) (by simpa using hk)
end Go.Proofs.Ytemklabamlifdaa.St

/- Rows of one-cell elements: what is appended. It names no program. -/
namespace Go.Proofs.Ytemklabamlifdaa.St
open Go

section
variable {α : Type} {val : α → Value} {e : TypeId} {w w' : World} {a : Option Addr} {l c : Nat} {xs : List α}
/-- An element is one word. -/
def oneL (val : α → Value) (h : ∀ x, (val x).oneCell' = true) : Lay α where
  cs x := [val x]
  s := 1
  pos := by decide
  len _ := rfl
  one x v hv := by simp at hv; subst hv; exact h x
theorem oneL_cs (val : α → Value) (h : ∀ x, (val x).oneCell' = true) (xs : List α) : xs.flatMap (oneL val h).cs = xs.map val := by
  induction xs with
  | nil => rfl
  | cons x r ih => rw [List.flatMap_cons, ih]; rfl
theorem Els.row (hv : ∀ x, (val x).oneCell' = true) (h : Els val e w a l c xs) : Row (oneL val hv) e w a l c xs := by
  rw [Row, oneL_cs]; exact h
theorem Els.of_row {hv : ∀ x, (val x).oneCell' = true} (h : Row (oneL val hv) e w a l c xs) : Els val e w a l c xs := by
  rw [Row, oneL_cs] at h; exact h
theorem Els.nil (e : TypeId) (w : World) : Els val e w none 0 0 [] := ⟨by simp, .inl ⟨rfl, rfl⟩⟩
theorem Els.lit (hv : ∀ x, (val x).oneCell' = true) {k : Nat} {cur : Array Value} (hg : w.heap[k]? = some (.cells cur e (0, 0))) (xs : List α) (h : cur.toList = xs.map val) (hn : xs.length ≤ maxLen) : Els val e w (some ⟨k, 0, none⟩) xs.length xs.length xs :=
  Els.of_row (hv := hv) (Row.lit _ hg xs (by rw [oneL_cs]; exact h) hn)
theorem Els.all (hv : ∀ x, (val x).oneCell' = true) (h : Els val e w a l c xs) : (∀ ad, a = some ad → ∀ j v, (xs.map val)[j]? = some v → w.cell? (ad.add j) = some v) ∧ (a = none → l = 0 ∧ c = 0) := by
  have := (h.row hv).all
  rw [oneL_cs] at this
  exact this
theorem Els.push {P : Program} {t ty : TypeId} (hv : ∀ x, (val x).oneCell' = true) (ho : laidOk P t e 1 = true) (h : Els val e w a l c xs) {b : Option Addr} {m cc : Nat} {ys : List α} (hm : ys.length = m)
    (hb : ∀ ad, b = some ad → ∀ j v, (ys.map val)[j]? = some v → w.cell? (ad.add j) = some v) (hb0 : b = none → m = 0 ∧ cc = 0) (hn : l + m ≤ 1099511627776) :
    ∃ a' c' w', (Builtin.append_ #[t, t] ty #[.slice a l c, .slice b m cc]).run P w = .ok (.slice a' (l + m) c') w' ∧ Els val e w' a' (l + m) c' (xs ++ ys) ∧
      Mod (rowB a) w w' ∧ (∀ k, rowB a' k → rowB a k ∨ w.heap.size ≤ k) := by
  obtain ⟨a', c', w', h1, h2, h3, h4⟩ := (h.row hv).push (P := P) (ty := ty) ho hm (by rw [oneL_cs]; exact hb) hb0 hn
  exact ⟨a', c', w', h1, Els.of_row h2, h3, h4⟩
/-- append(row, x). -/
theorem Els.push1 {P : Program} {t ty : TypeId} (hv : ∀ x, (val x).oneCell' = true) (ho : laidOk P t e 1 = true) (h : Els val e w a l c xs) {k : Nat} {x : α} {e' : TypeId} (hk : w.heap[k]? = some (.cells #[val x] e' (0, 0))) (hn : l + 1 ≤ 1099511627776) :
    ∃ a' c' w', (Builtin.append_ #[t, t] ty #[.slice a l c, .slice (some ⟨k, 0, none⟩) 1 1]).run P w = .ok (.slice a' (l + 1) c') w' ∧ Els val e w' a' (l + 1) c' (xs ++ [x]) ∧
      Mod (rowB a) w w' ∧ (∀ k, rowB a' k → rowB a k ∨ w.heap.size ≤ k) :=
  h.push hv ho (ys := [x]) rfl (fun ad had j v hj => by cases had; rw [cl1 hk]; simpa using hj) (fun h => by cases h) hn
end
theorem swapL_comm {α : Type} [Inhabited α] {xs : List α} {i j : Nat} (h : i ≠ j) : swapL xs i j = swapL xs j i := by
  unfold swapL
  exact List.set_comm _ _ h
end Go.Proofs.Ytemklabamlifdaa.St

/- Plain laws on lists that are sorted in parts: heaps, parting at an element, what is left to sort. It names no program. -/
namespace Go.Proofs.Ytemklabamlifdaa.St
variable {α : Type} [Inhabited α] [LE α] [_root_.LT α] [Lin α]

/-! ### Heaps -/
def Hp (xs : List α) (f lo hi : Nat) : Prop := ∀ p c, lo ≤ p → (c = 2 * p + 1 ∨ c = 2 * p + 2) → c < hi → at0 xs (f + c) ≤ at0 xs (f + p)
structure Sift (xs : List α) (f lo hi r : Nat) : Prop where
  a : ∀ p c, lo ≤ p → p ≠ r → (c = 2 * p + 1 ∨ c = 2 * p + 2) → c < hi → at0 xs (f + c) ≤ at0 xs (f + p)
  b : ∀ q c, lo ≤ q → (r = 2 * q + 1 ∨ r = 2 * q + 2) → (c = 2 * r + 1 ∨ c = 2 * r + 2) → c < hi → at0 xs (f + c) ≤ at0 xs (f + q)
omit [_root_.LT α] [Lin α] in
theorem Sift.start {xs : List α} {f lo hi : Nat} (h : Hp xs f (lo + 1) hi) : Sift xs f lo hi lo :=
  ⟨fun p c h1 h2 h3 h4 => h p c (by omega) h3 h4, fun q c h1 h2 => by omega⟩
omit [_root_.LT α] [Lin α] in
theorem Sift.done {xs : List α} {f lo hi r : Nat} (h : Sift xs f lo hi r) (hc : ∀ c, (c = 2 * r + 1 ∨ c = 2 * r + 2) → c < hi → at0 xs (f + c) ≤ at0 xs (f + r)) : Hp xs f lo hi := by
  intro p c h1 h2 h3
  by_cases e : p = r
  · subst e; exact hc c h2 h3
  · exact h.a p c h1 e h2 h3
theorem Sift.step {xs : List α} {f lo hi r c : Nat} (h : Sift xs f lo hi r) (hr : lo ≤ r) (hx : f + hi ≤ xs.length) (hc : c = 2 * r + 1 ∨ c = 2 * r + 2) (hch : c < hi)
    (hmax : ∀ e, (e = 2 * r + 1 ∨ e = 2 * r + 2) → e < hi → at0 xs (f + e) ≤ at0 xs (f + c)) (hlt : at0 xs (f + r) < at0 xs (f + c)) : Sift (swapL xs (f + r) (f + c)) f lo hi c := by
  have hs : ∀ k, at0 (swapL xs (f + r) (f + c)) (f + k) = if k = c then at0 xs (f + r) else if k = r then at0 xs (f + c) else at0 xs (f + k) := by
    intro k
    rw [at0_swapL (by omega) (by omega)]
    by_cases h1 : k = c
    · subst h1; rw [if_pos rfl, if_pos rfl]
    · rw [if_neg h1, if_neg (by omega)]
      by_cases h2 : k = r
      · subst h2; rw [if_pos rfl, if_pos rfl]
      · rw [if_neg h2, if_neg (by omega)]
  refine ⟨fun p e h1 h2 h3 h4 => ?_, fun q e h1 h2 h3 h4 => ?_⟩
  · rw [hs e, hs p, if_neg h2]
    by_cases hp : p = r
    · subst hp
      rw [if_pos rfl]
      by_cases he : e = c
      · subst he; rw [if_pos rfl]; exact Lin.lle hlt
      · rw [if_neg he, if_neg (by omega)]; exact hmax e h3 h4
    · rw [if_neg hp]
      by_cases he : e = c
      · omega
      · rw [if_neg he]
        by_cases he' : e = r
        · rw [if_pos he']
          subst he'
          exact h.b p c h1 h3 hc hch
        · rw [if_neg he']; exact h.a p e h1 hp h3 h4
  · have hq : q = r := by omega
    subst hq
    rw [hs e, hs q, if_neg (by omega), if_neg (by omega), if_neg (by omega), if_pos rfl]
    exact h.a c e (by omega) (by omega) h3 h4
theorem Hp.top {xs : List α} {f n : Nat} (h : Hp xs f 0 n) : ∀ k, k < n → at0 xs (f + k) ≤ at0 xs f := by
  intro k
  induction k using Nat.strongRecOn with
  | _ k ih =>
    intro hk
    by_cases h0 : k = 0
    · subst h0; exact Lin.refl _
    · refine Lin.tr (h ((k - 1) / 2) k (Nat.zero_le _) (by omega) hk) (ih _ (by omega) (by omega))

/-- While a heap is taken down: [0, n) is one, what is behind it is sorted, and not less. -/
structure Pop (xs : List α) (f n hi : Nat) : Prop where
  hp : Hp xs f 0 n
  srt : ∀ p q, n ≤ p → p < q → q < hi → at0 xs (f + p) ≤ at0 xs (f + q)
  le : ∀ k q, k < n → n ≤ q → q < hi → at0 xs (f + k) ≤ at0 xs (f + q)
omit [_root_.LT α] [Lin α] in
theorem Pop.swap {xs : List α} {f i hi : Nat} (h : Pop xs f (i + 1) hi) (hi1 : i < hi) (hx : f + hi ≤ xs.length) : Hp (swapL xs f (f + i)) f (0 + 1) i := by
  intro p c h1 h2 h3
  rw [at0_swapL (by omega) (by omega), at0_swapL (by omega) (by omega), if_neg (by omega), if_neg (by omega), if_neg (by omega), if_neg (by omega)]
  exact h.hp p c (by omega) h2 (by omega)
theorem Pop.step {xs zs : List α} {f i hi : Nat} (h : Pop xs f (i + 1) hi) (hi1 : i < hi) (hx : f + hi ≤ xs.length) (hs : Seg (f + 0) (f + i) (swapL xs f (f + i)) zs) (hz : Hp zs f 0 i) : Pop zs f i hi := by
  have hs : Seg f (f + i) (swapL xs f (f + i)) zs := hs
  have sw : ∀ k, at0 (swapL xs f (f + i)) k = if k = f + i then at0 xs f else if k = f then at0 xs (f + i) else at0 xs k := fun k => at0_swapL (by omega) (by omega)
  have hii : at0 zs (f + i) = at0 xs f := by rw [hs.out _ (by omega), sw, if_pos rfl]
  have hq : ∀ q, i < q → at0 zs (f + q) = at0 xs (f + q) := fun q hq => by rw [hs.out _ (by omega), sw, if_neg (by omega), if_neg (by omega)]
  have old : ∀ P : α → Prop, (∀ k, k < i + 1 → P (at0 xs (f + k))) → ∀ k, k < i → P (at0 zs (f + k)) := by
    intro P hP k hk
    refine hs.all (by simp; omega) (P := P) (fun m h1 h2 => ?_) (f + k) (by omega) (by omega)
    rw [sw, if_neg (by omega)]
    by_cases e : m = f
    · rw [if_pos e]; exact hP i (by omega)
    · rw [if_neg e]
      have := hP (m - f) (by omega)
      rwa [show f + (m - f) = m by omega] at this
  refine ⟨hz, fun p q h1 h2 h3 => ?_, fun k q h1 h2 h3 => ?_⟩
  · rw [hq q (by omega)]
    by_cases e : p = i
    · rw [e, hii]; exact h.le 0 q (by omega) (by omega) h3
    · rw [hq p (by omega)]; exact h.srt p q (by omega) h2 h3
  · by_cases e : q = i
    · rw [e, hii]; exact old (fun v => v ≤ at0 xs f) (fun m hm => h.hp.top m hm) k h1
    · rw [hq q (by omega)]; exact old (fun v => v ≤ at0 xs (f + q)) (fun m hm => h.le m q hm (by omega) h3) k h1
omit [_root_.LT α] [Lin α] in
theorem Pop.done {xs : List α} {f hi : Nat} (h : Pop xs f 0 hi) : Srt xs f (f + hi) := by
  intro p q h1 h2 h3
  have := h.srt (p - f) (q - f) (by omega) (by omega) (by omega)
  rwa [show f + (p - f) = p by omega, show f + (q - f) = q by omega] at this
omit [_root_.LT α] [Lin α] in
theorem Pop.start {xs : List α} {f hi : Nat} (h : Hp xs f 0 hi) : Pop xs f hi hi := ⟨h, fun _ _ _ _ _ => by omega, fun _ _ _ _ _ => by omega⟩

/-! ### Parting -/
structure Pt (xs : List α) (a b i j : Nat) : Prop where
  ai : a + 1 ≤ i
  ij : i ≤ j + 1
  jb : j < b
  lo : ∀ k, a < k → k < i → at0 xs k ≤ at0 xs a
  hi : ∀ k, j < k → k < b → at0 xs a ≤ at0 xs k
omit [_root_.LT α] [Lin α] in
theorem Pt.up {xs : List α} {a b i j : Nat} (h : Pt xs a b i j) (hij : i ≤ j) (hx : at0 xs i ≤ at0 xs a) : Pt xs a b (i + 1) j :=
  ⟨by have := h.ai; omega, by omega, h.jb, fun k h1 h2 => by
    by_cases e : k = i
    · rw [e]; exact hx
    · exact h.lo k h1 (by omega), h.hi⟩
omit [_root_.LT α] [Lin α] in
theorem Pt.down {xs : List α} {a b i j : Nat} (h : Pt xs a b i j) (hij : i ≤ j) (hx : at0 xs a ≤ at0 xs j) : Pt xs a b i (j - 1) :=
  ⟨h.ai, by have := h.ai; omega, by have := h.jb; omega, h.lo, fun k h1 h2 => by
    by_cases e : k = j
    · rw [e]; exact hx
    · exact h.hi k (by omega) h2⟩
omit [_root_.LT α] [Lin α] in
theorem Pt.swap {xs : List α} {a b i j : Nat} (h : Pt xs a b i j) (hb : b ≤ xs.length) (hij : i < j) (h1 : at0 xs j ≤ at0 xs a) (h2 : at0 xs a ≤ at0 xs i) : Pt (swapL xs i j) a b (i + 1) (j - 1) := by
  have hai := h.ai
  have hjb := h.jb
  have sw : ∀ k, at0 (swapL xs i j) k = if k = j then at0 xs i else if k = i then at0 xs j else at0 xs k := fun k => at0_swapL (by omega) (by omega)
  have swa : at0 (swapL xs i j) a = at0 xs a := by rw [sw, if_neg (by omega), if_neg (by omega)]
  refine ⟨by omega, by omega, by omega, fun k h3 h4 => ?_, fun k h3 h4 => ?_⟩
  · rw [swa, sw k, if_neg (by omega)]
    by_cases e : k = i
    · rw [if_pos e]; exact h1
    · rw [if_neg e]; exact h.lo k h3 (by omega)
  · rw [swa, sw k]
    by_cases e : k = j
    · rw [if_pos e]; exact h2
    · rw [if_neg e, if_neg (by omega)]; exact h.hi k (by omega) h4
/-- What is at m parts the others. -/
structure Parted (xs : List α) (a m b : Nat) : Prop where
  am : a ≤ m
  mb : m < b
  lo : ∀ k, a ≤ k → k < m → at0 xs k ≤ at0 xs m
  hi : ∀ k, m < k → k < b → at0 xs m ≤ at0 xs k
omit [_root_.LT α] [Lin α] in
theorem Pt.done {xs : List α} {a b i j : Nat} (h : Pt xs a b i j) (hb : b ≤ xs.length) (hij : j < i) : Parted (swapL xs j a) a j b := by
  have hai := h.ai
  have hjb := h.jb
  have hij' := h.ij
  have sw : ∀ k, at0 (swapL xs j a) k = if k = a then at0 xs j else if k = j then at0 xs a else at0 xs k := fun k => at0_swapL (by omega) (by omega)
  have swj : at0 (swapL xs j a) j = at0 xs a := by
    rw [sw]
    by_cases e : j = a
    · rw [if_pos e, e]
    · rw [if_neg e, if_pos rfl]
  refine ⟨by omega, hjb, fun k h1 h2 => ?_, fun k h1 h2 => ?_⟩
  · rw [swj, sw k]
    by_cases e : k = a
    · rw [if_pos e]; exact h.lo j (by omega) (by omega)
    · rw [if_neg e, if_neg (by omega)]; exact h.lo k (by omega) (by omega)
  · rw [swj, sw k, if_neg (by omega), if_neg (by omega)]
    exact h.hi k h1 h2
omit [_root_.LT α] [Lin α] in
theorem Parted.left {xs ys : List α} {a m b : Nat} (h : Parted xs a m b) (hb : b ≤ xs.length) (hs : Seg a m xs ys) : Parted ys a m b := by
  have hm := h.mb
  refine ⟨h.am, h.mb, fun k h1 h2 => ?_, fun k h1 h2 => ?_⟩
  · rw [hs.out m (by omega)]
    exact hs.all (by omega) (P := fun v => v ≤ at0 xs m) (fun k h1 h2 => h.lo k h1 h2) k h1 h2
  · rw [hs.out m (by omega), hs.out k (by omega)]; exact h.hi k h1 h2
omit [_root_.LT α] [Lin α] in
theorem Parted.right {xs ys : List α} {a m b : Nat} (h : Parted xs a m b) (hb : b ≤ xs.length) (hs : Seg (m + 1) b xs ys) : Parted ys a m b := by
  have hm := h.mb
  refine ⟨h.am, h.mb, fun k h1 h2 => ?_, fun k h1 h2 => ?_⟩
  · rw [hs.out m (by omega), hs.out k (by omega)]; exact h.lo k h1 h2
  · rw [hs.out m (by omega)]
    exact hs.all (by omega) (P := fun v => at0 xs m ≤ v) (fun k h1 h2 => h.hi k (by omega) h2) k (by omega) h2

/-! ### What is left to sort -/
/-- Of [a, b) all but [a', b') stands where it belongs. -/
def Alm (xs : List α) (a b a' b' : Nat) : Prop := ∀ p q, a ≤ p → p < q → q < b → ¬ (a' ≤ p ∧ q < b') → at0 xs p ≤ at0 xs q
/-- What stands before a is no more than any of [a, b). -/
def Bel (xs : List α) (a b : Nat) : Prop := 0 < a → ∀ k, a ≤ k → k < b → at0 xs (a - 1) ≤ at0 xs k
section
omit [_root_.LT α] [Lin α]
variable {xs ys : List α} {a b a' b' m : Nat}
theorem Alm.start (xs : List α) (a b : Nat) : Alm xs a b a b := fun _ _ h1 _ h3 h4 => absurd ⟨h1, h3⟩ h4
theorem Alm.seg (h : Alm xs a b a' b') (hs : Seg a' b' xs ys) (ha : a ≤ a') (hb : b' ≤ b) (hx : b ≤ xs.length) : Alm ys a b a' b' := by
  intro p q h1 h2 h3 h4
  by_cases hp : a' ≤ p ∧ p < b'
  · rw [hs.out q (by omega)]
    exact hs.all (by omega) (P := fun v => v ≤ at0 xs q) (fun k h5 h6 => h k q (by omega) (by omega) h3 (by omega)) p hp.1 hp.2
  · rw [hs.out p (by omega)]
    by_cases hq : a' ≤ q ∧ q < b'
    · exact hs.all (by omega) (P := fun v => at0 xs p ≤ v) (fun k h5 h6 => h p k h1 (by omega) (by omega) (by omega)) q hq.1 hq.2
    · rw [hs.out q (by omega)]; exact h p q h1 h2 h3 h4
theorem Alm.full (h : Alm xs a b a' b') (hs : Srt xs a' b') : Srt xs a b := by
  intro p q h1 h2 h3
  by_cases e : a' ≤ p ∧ q < b'
  · exact hs p q e.1 h2 e.2
  · exact h p q h1 h2 h3 e
theorem Bel.seg (h : Bel xs a b) (hs : Seg a b xs ys) (hx : b ≤ xs.length) : Bel ys a b := by
  intro h0 k h1 h2
  rw [hs.out (a - 1) (by omega)]
  exact hs.all hx (P := fun v => at0 xs (a - 1) ≤ v) (fun k h3 h4 => h h0 k h3 h4) k h1 h2
theorem Bel.mono (h : Bel xs a b) (hb : m ≤ b) : Bel xs a m := fun h0 k h1 h2 => h h0 k h1 (by omega)
theorem Parted.bel (h : Parted xs a m b) : Bel xs (m + 1) b := fun _ k h1 h2 => h.hi k (by omega) h2
end
theorem Alm.left {xs : List α} {a b a' b' m : Nat} (h : Alm xs a b a' b') (hp : Parted xs a' m b') (hs : Srt xs a' m) : Alm xs a b (m + 1) b' := by
  intro p q h1 h2 h3 h4
  have := hp.am
  by_cases e : a' ≤ p ∧ q < b'
  · have hpm : p ≤ m := by omega
    by_cases e1 : p = m
    · subst e1; exact hp.hi q h2 e.2
    · have h5 := hp.lo p e.1 (by omega)
      by_cases e2 : q < m
      · exact hs p q e.1 h2 e2
      · by_cases e3 : q = m
        · rw [e3]; exact h5
        · exact Lin.tr h5 (hp.hi q (by omega) e.2)
  · exact h p q h1 h2 h3 e
theorem Alm.right {xs : List α} {a b a' b' m : Nat} (h : Alm xs a b a' b') (hp : Parted xs a' m b') (hs : Srt xs (m + 1) b') : Alm xs a b a' m := by
  intro p q h1 h2 h3 h4
  have := hp.mb
  by_cases e : a' ≤ p ∧ q < b'
  · have hqm : m ≤ q := by omega
    by_cases e1 : q = m
    · subst e1; exact hp.lo p e.1 h2
    · have h5 := hp.hi q (by omega) e.2
      by_cases e2 : m < p
      · exact hs p q (by omega) h2 e.2
      · by_cases e3 : p = m
        · rw [e3]; exact h5
        · exact Lin.tr (hp.lo p e.1 (by omega)) h5
  · exact h p q h1 h2 h3 e
/-- [a, m) is of what is least, [m, b) of what is no less. -/
structure Eqd (xs : List α) (a m b : Nat) : Prop where
  am : a < m
  mb : m ≤ b
  srt : Srt xs a m
  le : ∀ p q, a ≤ p → p < m → m ≤ q → q < b → at0 xs p ≤ at0 xs q
  bel : Bel xs m b
theorem Pt.eqd {xs : List α} {a b i j : Nat} (h : Pt xs a b i j) (hij : j < i) (hmin : ∀ k, a ≤ k → k < b → at0 xs a ≤ at0 xs k) : Eqd xs a i b := by
  have h1 := h.ai
  have h2 := h.ij
  have h3 := h.jb
  have hlo : ∀ k, a ≤ k → k < i → at0 xs k ≤ at0 xs a := fun k h4 h5 => by
    by_cases e : k = a
    · rw [e]; exact Lin.refl _
    · exact h.lo k (by omega) h5
  refine ⟨by omega, by omega, fun p q h4 h5 h6 => ?_, fun p q h4 h5 h6 h7 => ?_, fun _ k h4 h5 => ?_⟩
  · exact Lin.tr (hlo p h4 (by omega)) (hmin q (by omega) (by omega))
  · exact Lin.tr (hlo p h4 h5) (hmin q (by omega) h7)
  · exact Lin.tr (hlo (i - 1) (by omega) (by omega)) (hmin k (by omega) h5)
omit [_root_.LT α] [Lin α] in
theorem Alm.eqd {xs : List α} {a b a' b' m : Nat} (h : Alm xs a b a' b') (he : Eqd xs a' m b') : Alm xs a b m b' := by
  intro p q h1 h2 h3 h4
  by_cases e : a' ≤ p ∧ q < b'
  · by_cases e1 : q < m
    · exact he.srt p q e.1 h2 e1
    · exact he.le p q e.1 (by omega) (by omega) e.2
  · exact h p q h1 h2 h3 e
end Go.Proofs.Ytemklabamlifdaa.St

/- Strings, ordered by their bytes. It names no program. -/
namespace Go.Proofs.Ytemklabamlifdaa.St
open Go

theorem byteAt_eq {s : ByteArray} {i : Nat} (h : i < s.size) : byteAt s i = ((s[i]'h).toNat : Int) := by
  have h' : i < s.data.size := h
  simp only [byteAt, Array.getElem?_eq_getElem h', Option.getD_some]
  rfl
theorem byteArray_toList (s : ByteArray) : s.toList = s.data.toList := by
  have h : ∀ (n : Nat) (i : Nat) (r : List UInt8), s.size - i = n → ByteArray.toList.loop s i r = r.reverse ++ s.data.toList.drop i := by
    intro n
    induction n with
    | zero =>
      intro i r hi
      unfold ByteArray.toList.loop
      have : ¬ i < s.size := by omega
      simp only [this, if_false]
      rw [List.drop_of_length_le (by have : s.size = s.data.size := rfl; simp; omega)]
      simp
    | succ n ih =>
      intro i r hi
      unfold ByteArray.toList.loop
      have hlt : i < s.size := by omega
      simp only [hlt, if_true]
      rw [ih (i + 1) _ (by omega)]
      have hlt' : i < s.data.toList.length := by have : s.size = s.data.size := rfl; simp; omega
      rw [List.drop_eq_getElem_cons hlt']
      have : s.get! i = s.data.toList[i] := by
        have hlt2 : i < s.data.size := by simpa using hlt'
        rw [Array.getElem_toList]
        show s.data[i]! = _
        rw [getElem!_pos s.data i hlt2]
      rw [this]
      simp
  have := h (s.size - 0) 0 [] rfl
  simpa [ByteArray.toList] using this
theorem bytes_empty (s : ByteArray) : (s.toList == (ByteArray.mk #[]).toList) = decide (s.size = 0) := by
  rw [byteArray_toList, byteArray_toList]
  have : s.size = s.data.toList.length := Array.length_toList.symm
  rw [this]
  cases s.data.toList with
  | nil => rfl
  | cons x r => exact (decide_eq_false (Nat.succ_ne_zero _)).symm

theorem bl_irr : ∀ x : List UInt8, Op.bytesLess x x = false
  | [] => rfl
  | a :: x => by
    have h1 : ¬ a < a := by simp
    simp [Op.bytesLess, h1, bl_irr x]
theorem bl_asym : ∀ x y : List UInt8, Op.bytesLess x y = true → Op.bytesLess y x = false
  | [], [], h => by simp [Op.bytesLess] at h
  | [], _ :: _, _ => by simp [Op.bytesLess]
  | _ :: _, [], h => by simp [Op.bytesLess] at h
  | a :: x, b :: y, h => by
    simp only [Op.bytesLess, Bool.or_eq_true, Bool.and_eq_true, decide_eq_true_eq, beq_iff_eq] at h
    rcases h with h | ⟨rfl, h⟩
    · have h1 : ¬ b < a := by
        simp only [UInt8.lt_iff_toNat_lt] at h ⊢
        omega
      have h2 : ¬ b = a := fun e => by subst e; simp at h
      simp [Op.bytesLess, h1, h2]
    · have h1 : ¬ a < a := by simp
      simp [Op.bytesLess, h1, bl_asym x y h]
theorem bl_ntr : ∀ x y z : List UInt8, Op.bytesLess y x = false → Op.bytesLess z y = false → Op.bytesLess z x = false
  | [], y, z, h1, h2 => by cases z <;> simp [Op.bytesLess]
  | a :: x, [], z, h1, h2 => by simp [Op.bytesLess] at h1
  | a :: x, b :: y, [], h1, h2 => by simp [Op.bytesLess] at h2
  | a :: x, b :: y, c :: z, h1, h2 => by
    simp only [Op.bytesLess, Bool.or_eq_false_iff, Bool.and_eq_false_iff, decide_eq_false_iff_not, beq_eq_false_iff_ne, UInt8.lt_iff_toNat_lt] at h1 h2 ⊢
    obtain ⟨h1, h1'⟩ := h1
    obtain ⟨h2, h2'⟩ := h2
    refine ⟨by omega, ?_⟩
    by_cases e : c = a
    · subst e
      have hbc : b = c := by
        apply UInt8.toNat_inj.1
        omega
      subst hbc
      right
      rcases h1' with h | h
      · exact absurd rfl h
      · rcases h2' with h' | h'
        · exact absurd rfl h'
        · exact bl_ntr x y z h h'
    · exact .inl e

instance strLT : _root_.LT ByteArray := ⟨fun x y => Op.bytesLess x.toList y.toList = true⟩
instance strLE : LE ByteArray := ⟨fun x y => ¬ y < x⟩
instance strDec : DecidableLT ByteArray := fun x y => inferInstanceAs (Decidable (Op.bytesLess x.toList y.toList = true))
instance strLin : Lin ByteArray where
  nlt h := h
  nle h := h
  lle {a b} h := by
    intro h'
    have := bl_asym a.toList b.toList h
    rw [show Op.bytesLess b.toList a.toList = true from h'] at this
    cases this
  tr {a b c} h h' := by
    intro h2
    have h1 : Op.bytesLess b.toList a.toList = false := by simpa using (show ¬ Op.bytesLess b.toList a.toList = true from h)
    have h3 : Op.bytesLess c.toList b.toList = false := by simpa using (show ¬ Op.bytesLess c.toList b.toList = true from h')
    have := bl_ntr a.toList b.toList c.toList h1 h3
    rw [show Op.bytesLess c.toList a.toList = true from h2] at this
    cases this
theorem strLess {x y : ByteArray} {w : World} {R : Value → World → Prop} (h : R (.bool (decide (x < y))) w) : R (.bool (Op.bytesLess x.toList y.toList)) w := by
  have : decide (x < y) = Op.bytesLess x.toList y.toList := by
    cases hb : Op.bytesLess x.toList y.toList with
    | true => exact decide_eq_true hb
    | false => exact decide_eq_false fun h => by rw [show Op.bytesLess x.toList y.toList = true from h] at hb; cases hb
  rwa [this] at h
end Go.Proofs.Ytemklabamlifdaa.St

/- The formulas of functions, printed by a program of mine (gen.py) out of the translation. -/
namespace Go.Proofs.Ytemklabamlifdaa
open Go Go.Proofs.Ytemklabamlifdaa.St
set_option maxRecDepth 100000

/-- staith/store.Good -/
noncomputable def C10 : Code := (Try.f10.body).getD .skip
def pl10 : Nat → Plan := fun _ => .done
def ls10 : Nat → List (Nat × LT)
  | 3 => [(10, (.one (.int .i64)))]
  | _ => []
def W10 (name : ByteArray) (w : World) (R : Value → World → Prop) : Prop :=
  (∃ v0 : Value, (∃ w1 : World, ((Sem.run Try.prog (convert 9 24 (Value.string name)) w = Result.ok v0 w1) ∧ (∃ p2 : Option Addr, (∃ n3 : Nat, (∃ n4 : Nat, ((v0 = Value.slice p2 n3 n4) ∧ (∃ z5 : Int → World → Prop, (∃ z6 : Int → World → Nat, ((z5 (0) (w1)) ∧ (∀ (_ : Nat → Value), (∀ (x8 : Int), (∀ (w9 : World), ((z5 (x8) (w9)) → (ifK (decide (x8 < (↑n3 : Int)))
    (∃ a10 : Addr, ((p2 = some a10) ∧ (((0 : Int) ≤ x8) ∧ (((x8 : Int) < (↑n3 : Int)) ∧ (∃ x11 : Int, ((World.cell? w9 (Addr.add a10 (Int.toNat x8 * 1)) = some (Value.int IntKind.u8 x11)) ∧ (ifK (decide (97 ≤ x11))
      (ifK (x11 == 46)
        (ifK (!decide (x11 ≤ 122))
          (ifK (x8 == 0)
            (R (Value.bool false) (w9))
            ((z5 (IntKind.wrap IntKind.i64 (x8 + 1)) (w9)) ∧ (z6 (IntKind.wrap IntKind.i64 (x8 + 1)) w9 < z6 x8 w9)))
          ((z5 (IntKind.wrap IntKind.i64 (x8 + 1)) (w9)) ∧ (z6 (IntKind.wrap IntKind.i64 (x8 + 1)) w9 < z6 x8 w9)))
        (ifK (decide (48 ≤ x11))
          (ifK (!decide (x11 ≤ 122))
            (ifK (x8 == 0)
              (R (Value.bool false) (w9))
              (ifK (!decide (x11 ≤ 57))
                (R (Value.bool false) (w9))
                ((z5 (IntKind.wrap IntKind.i64 (x8 + 1)) (w9)) ∧ (z6 (IntKind.wrap IntKind.i64 (x8 + 1)) w9 < z6 x8 w9))))
            ((z5 (IntKind.wrap IntKind.i64 (x8 + 1)) (w9)) ∧ (z6 (IntKind.wrap IntKind.i64 (x8 + 1)) w9 < z6 x8 w9)))
          (ifK (!decide (x11 ≤ 122))
            (ifK (x8 == 0)
              (R (Value.bool false) (w9))
              (R (Value.bool false) (w9)))
            ((z5 (IntKind.wrap IntKind.i64 (x8 + 1)) (w9)) ∧ (z6 (IntKind.wrap IntKind.i64 (x8 + 1)) w9 < z6 x8 w9)))))
      (ifK (x11 == 46)
        (ifK (x8 == 0)
          (R (Value.bool false) (w9))
          ((z5 (IntKind.wrap IntKind.i64 (x8 + 1)) (w9)) ∧ (z6 (IntKind.wrap IntKind.i64 (x8 + 1)) w9 < z6 x8 w9)))
        (ifK (decide (48 ≤ x11))
          (ifK (x8 == 0)
            (R (Value.bool false) (w9))
            (ifK (!decide (x11 ≤ 57))
              (R (Value.bool false) (w9))
              ((z5 (IntKind.wrap IntKind.i64 (x8 + 1)) (w9)) ∧ (z6 (IntKind.wrap IntKind.i64 (x8 + 1)) w9 < z6 x8 w9))))
          (ifK (x8 == 0)
            (R (Value.bool false) (w9))
            (R (Value.bool false) (w9))))))))))))
    (ifK (!ByteArray.toList name == ByteArray.toList (ByteArray.mk #[]))
      (R (Value.bool (decide ((↑(ByteArray.size name) : Int) ≤ 30))) (w9))
      (R (Value.bool false) (w9))))))))))))))))))
theorem ca10 (name : ByteArray) (w : World) (R : Value → World → Prop) (h : W10 name w R) : Ca Try.prog 10 ⟨[(.string name)]⟩ w R := by
  have h1 : Try.prog.follows .mixedOrders = true := by kernel_rfl
  have h2 : Try.f10.body = some C10 := by kernel_rfl
  have h3 : (Try.f10.name == "runtime.NumGoroutine") = false := by kernel_rfl
  have h6 : Try.f10.results.toList = [.tmp 2] := by kernel_rfl
  have h4 : Nat.ble 1 49 = true := by kernel_rfl
  have h5 : okCode 49 pl10 ls10 C10 0 = true := by kernel_rfl
  have e : W10 name w R = wpC none Try.prog 49 pl10 ls10 C10 0 (endP Try.prog [.tmp 2] R) (fr0 [(.string name)]) [] w := by kernel_rfl
  exact ca_of' (P := Try.prog) (g := 10) (fn := Try.f10) (c := C10) (m := 49) (rs := [.tmp 2]) (args := [(.string name)]) (pl := pl10) (ls := ls10) (w := w) (R := R) h1 Try.func10 h2 Try.ntmps10 h6 h3 h4 h5 (Eq.mp e h)

/-- staith/staithref11.Good -/
noncomputable def C11 : Code := (Try.f11.body).getD .skip
def pl11 : Nat → Plan := fun _ => .done
def ls11 : Nat → List (Nat × LT)
  | 3 => [(3, (.one (.int .i64)))]
  | _ => []
def W11 (name : ByteArray) (w : World) (R : Value → World → Prop) : Prop :=
  (∃ z0 : Int → World → Prop, (∃ z1 : Int → World → Nat, ((z0 (0) (w)) ∧ (∀ (_ : Nat → Value), (∀ (x3 : Int), (∀ (w4 : World), ((z0 (x3) (w4)) → (ifK (decide (x3 < (↑(ByteArray.size name) : Int)))
    (((0 : Int) ≤ x3) ∧ (((x3 : Int) < (↑(ByteArray.size name) : Int)) ∧ (ifK (decide (byteAt name (Int.toNat x3) ≥ 97))
      (ifK (decide (byteAt name (Int.toNat x3) ≤ 122))
        ((z0 (IntKind.wrap IntKind.i64 (x3 + 1)) (w4)) ∧ (z1 (IntKind.wrap IntKind.i64 (x3 + 1)) w4 < z1 x3 w4))
        (ifK (decide (x3 > 0))
          (ifK (decide (byteAt name (Int.toNat x3) ≥ 48))
            (ifK (decide (byteAt name (Int.toNat x3) ≤ 57))
              ((z0 (IntKind.wrap IntKind.i64 (x3 + 1)) (w4)) ∧ (z1 (IntKind.wrap IntKind.i64 (x3 + 1)) w4 < z1 x3 w4))
              (ifK (!byteAt name (Int.toNat x3) == 46)
                (R (Value.bool false) (w4))
                ((z0 (IntKind.wrap IntKind.i64 (x3 + 1)) (w4)) ∧ (z1 (IntKind.wrap IntKind.i64 (x3 + 1)) w4 < z1 x3 w4))))
            (ifK (!byteAt name (Int.toNat x3) == 46)
              (R (Value.bool false) (w4))
              ((z0 (IntKind.wrap IntKind.i64 (x3 + 1)) (w4)) ∧ (z1 (IntKind.wrap IntKind.i64 (x3 + 1)) w4 < z1 x3 w4))))
          (R (Value.bool false) (w4))))
      (ifK (decide (x3 > 0))
        (ifK (decide (byteAt name (Int.toNat x3) ≥ 48))
          (ifK (decide (byteAt name (Int.toNat x3) ≤ 57))
            ((z0 (IntKind.wrap IntKind.i64 (x3 + 1)) (w4)) ∧ (z1 (IntKind.wrap IntKind.i64 (x3 + 1)) w4 < z1 x3 w4))
            (ifK (!byteAt name (Int.toNat x3) == 46)
              (R (Value.bool false) (w4))
              ((z0 (IntKind.wrap IntKind.i64 (x3 + 1)) (w4)) ∧ (z1 (IntKind.wrap IntKind.i64 (x3 + 1)) w4 < z1 x3 w4))))
          (ifK (!byteAt name (Int.toNat x3) == 46)
            (R (Value.bool false) (w4))
            ((z0 (IntKind.wrap IntKind.i64 (x3 + 1)) (w4)) ∧ (z1 (IntKind.wrap IntKind.i64 (x3 + 1)) w4 < z1 x3 w4))))
        (R (Value.bool false) (w4))))))
    (ifK (decide ((↑(ByteArray.size name) : Int) ≥ 1))
      (R (Value.bool (decide ((↑(ByteArray.size name) : Int) ≤ 30))) (w4))
      (R (Value.bool false) (w4)))))))))))
theorem ca11 (name : ByteArray) (w : World) (R : Value → World → Prop) (h : W11 name w R) : Ca Try.prog 11 ⟨[(.string name)]⟩ w R := by
  have h1 : Try.prog.follows .mixedOrders = true := by kernel_rfl
  have h2 : Try.f11.body = some C11 := by kernel_rfl
  have h3 : (Try.f11.name == "runtime.NumGoroutine") = false := by kernel_rfl
  have h6 : Try.f11.results.toList = [.tmp 2] := by kernel_rfl
  have h4 : Nat.ble 1 45 = true := by kernel_rfl
  have h5 : okCode 45 pl11 ls11 C11 0 = true := by kernel_rfl
  have e : W11 name w R = wpC none Try.prog 45 pl11 ls11 C11 0 (endP Try.prog [.tmp 2] R) (fr0 [(.string name)]) [] w := by kernel_rfl
  exact ca_of' (P := Try.prog) (g := 11) (fn := Try.f11) (c := C11) (m := 45) (rs := [.tmp 2]) (args := [(.string name)]) (pl := pl11) (ls := ls11) (w := w) (R := R) h1 Try.func11 h2 Try.ntmps11 h6 h3 h4 h5 (Eq.mp e h)

/-- staith/store.New -/
noncomputable def C13 : Code := (Try.f13.body).getD .skip
def pl13 : Nat → Plan := fun _ => .done
def ls13 : Nat → List (Nat × LT) := fun _ => []
def W13 (room : Int) (w : World) (R : Value → World → Prop) : Prop :=
  (ifK (decide (room < 0))
    (R (Value.pointer none) (w))
    (ifK (decide (room > 1073741824))
      (R (Value.pointer none) (w))
      (atW (World.alloc w (Obj.map #[] 0)) (fun w0 =>
        (atW (World.alloc w0 (Obj.map #[] 0)) (fun w1 =>
          (atW (World.alloc w1 (Obj.cells (Array.mk [Value.int IntKind.i64 room, Value.map (some (Array.size (World.heap w))), Value.map (some (Array.size (World.heap w0))), Value.bool false, Value.int IntKind.i64 0, Value.int IntKind.i64 0, Value.int IntKind.i64 0]) 65 (0, 0))) (fun w2 =>
            (R (Value.pointer (some (Addr.mk (Array.size (World.heap w1)) 0 none))) (w2))))))))))
theorem ca13 (room : Int) (w : World) (R : Value → World → Prop) (h : W13 room w R) : Ca Try.prog 13 ⟨[(.int .i64 room)]⟩ w R := by
  have h1 : Try.prog.follows .mixedOrders = true := by kernel_rfl
  have h2 : Try.f13.body = some C13 := by kernel_rfl
  have h3 : (Try.f13.name == "runtime.NumGoroutine") = false := by kernel_rfl
  have h6 : Try.f13.results.toList = [.tmp 2] := by kernel_rfl
  have h4 : Nat.ble 1 14 = true := by kernel_rfl
  have h5 : okCode 14 pl13 ls13 C13 0 = true := by kernel_rfl
  have e : W13 room w R = wpC none Try.prog 14 pl13 ls13 C13 0 (endP Try.prog [.tmp 2] R) (fr0 [(.int .i64 room)]) [] w := by kernel_rfl
  exact ca_of' (P := Try.prog) (g := 13) (fn := Try.f13) (c := C13) (m := 14) (rs := [.tmp 2]) (args := [(.int .i64 room)]) (pl := pl13) (ls := ls13) (w := w) (R := R) h1 Try.func13 h2 Try.ntmps13 h6 h3 h4 h5 (Eq.mp e h)

/-- (*staith/store.Store).Make -/
noncomputable def C14 : Code := (Try.f14.body).getD .skip
def pl14 : Nat → Plan := fun _ => .done
def ls14 : Nat → List (Nat × LT) := fun _ => []
def W14 (s : Option Addr) (name : ByteArray) (w : World) (R : Value → World → Prop) : Prop :=
  (atW (World.alloc w (Obj.cells (Array.mk [Value.pointer s]) 25 (0, 0))) (fun w0 =>
    (atW (World.alloc w0 (Obj.cells (Array.mk [Value.string name]) 9 (0, 0))) (fun w1 =>
      (∃ p2 : Option Addr, ((World.cell? w1 (Addr.mk (Array.size (World.heap w)) 0 none) = some (Value.pointer p2)) ∧ (∃ s3 : ByteArray, ((World.cell? w1 (Addr.mk (Array.size (World.heap w0)) 0 none) = some (Value.string s3)) ∧ (Ca Try.prog (36) (Array.mk [Value.pointer p2, Value.string s3]) (w1) (fun v4 => (fun w5 =>
        (∃ p6 : Option Addr, (∃ x7 : Int, ((v4 = Value.tuple (Array.mk (List.reverse [Value.int IntKind.i64 x7, Value.pointer p6]))) ∧ (ifK (x7 == 0)
          (R (Value.int IntKind.i64 4) (w5))
          (ifK (x7 != 3)
            (R (Value.int IntKind.i64 x7) (w5))
            (∃ p8 : Option Addr, ((World.cell? w5 (Addr.mk (Array.size (World.heap w)) 0 none) = some (Value.pointer p8)) ∧ (Ca Try.prog (37) (Array.mk [Value.pointer p8]) (w5) (fun v9 => (fun w10 =>
              (∃ x11 : Int, ((v9 = Value.int IntKind.i64 x11) ∧ (ifK (decide (x11 < 16))
                (R (Value.int IntKind.i64 6) (w10))
                (∃ p12 : Option Addr, ((World.cell? w10 (Addr.mk (Array.size (World.heap w)) 0 none) = some (Value.pointer p12)) ∧ (Ca Try.prog (38) (Array.mk [Value.pointer p12, Value.func (Fn.func 39) (Array.mk []) (Array.mk [Value.pointer (some (Addr.mk (Array.size (World.heap w)) 0 none)), Value.pointer (some (Addr.mk (Array.size (World.heap w0)) 0 none))])]) (w10) (fun v13 => (fun w14 =>
                  (∃ x15 : Int, ((v13 = Value.int IntKind.i64 x15) ∧ (R (Value.int IntKind.i64 x15) (w14)))))))))))))))))))))))))))))))))
theorem ca14 (s : Option Addr) (name : ByteArray) (w : World) (R : Value → World → Prop) (h : W14 s name w R) : Ca Try.prog 14 ⟨[(.pointer s), (.string name)]⟩ w R := by
  have h1 : Try.prog.follows .mixedOrders = true := by kernel_rfl
  have h2 : Try.f14.body = some C14 := by kernel_rfl
  have h3 : (Try.f14.name == "runtime.NumGoroutine") = false := by kernel_rfl
  have h6 : Try.f14.results.toList = [.tmp 4] := by kernel_rfl
  have h4 : Nat.ble 2 27 = true := by kernel_rfl
  have h5 : okCode 27 pl14 ls14 C14 0 = true := by kernel_rfl
  have e : W14 s name w R = wpC none Try.prog 27 pl14 ls14 C14 0 (endP Try.prog [.tmp 4] R) (fr0 [(.pointer s), (.string name)]) [] w := by kernel_rfl
  exact ca_of' (P := Try.prog) (g := 14) (fn := Try.f14) (c := C14) (m := 27) (rs := [.tmp 4]) (args := [(.pointer s), (.string name)]) (pl := pl14) (ls := ls14) (w := w) (R := R) h1 Try.func14 h2 Try.ntmps14 h6 h3 h4 h5 (Eq.mp e h)

/-- (*staith/store.Store).Write -/
noncomputable def C15 : Code := (Try.f15.body).getD .skip
def pl15 : Nat → Plan
  | 4 => (.quiet 0 (.quiet 2 (.quiet 3 (.eff 1 [2] (.quiet 4 (.quiet 5 .done))))))
  | _ => .done
def ls15 : Nat → List (Nat × LT) := fun _ => []
def W15 (s : Option Addr) (name : ByteArray) (ba : Option Addr) (bl : Nat) (bc : Nat) (w : World) (R : Value → World → Prop) : Prop :=
  (atW (World.alloc w (Obj.cells (Array.mk [Value.slice ba bl bc]) 24 (0, 0))) (fun w0 =>
    (Ca Try.prog (36) (Array.mk [Value.pointer s, Value.string name]) (w0) (fun v1 => (fun w2 =>
      (∃ p3 : Option Addr, (∃ x4 : Int, ((v1 = Value.tuple (Array.mk (List.reverse [Value.int IntKind.i64 x4, Value.pointer p3]))) ∧ (atW (World.alloc w2 (Obj.cells (Array.mk [Value.pointer none]) 68 (0, 0))) (fun w5 =>
        ((∃ v6 : Value, (World.cell? w5 (Addr.add (Addr.mk (Array.size (World.heap w2)) 0 none) 0) = some v6)) ∧ ((World.frozen? w5 (Addr.add (Addr.mk (Array.size (World.heap w2)) 0 none) 0) = false) ∧ (atW (World.setCell w5 (Addr.add (Addr.mk (Array.size (World.heap w2)) 0 none) 0) (Value.pointer p3)) (fun w7 =>
          (ifK (x4 != 0)
            (R (Value.int IntKind.i64 x4) (w7))
            (atW (World.drew w7) (fun w8 =>
              (∃ p9 : Option Addr, (∃ n10 : Nat, (∃ n11 : Nat, ((World.cell? w8 (Addr.mk (Array.size (World.heap w)) 0 none) = some (Value.slice p9 n10 n11)) ∧ (Ca Try.prog (37) (Array.mk [Value.pointer s]) (w8) (fun v12 => (fun w13 =>
                (∃ x14 : Int, ((v12 = Value.int IntKind.i64 x14) ∧ ((World.cell? w13 (Addr.add (Addr.mk (Array.size (World.heap w)) 0 none) 0) = some (Value.slice p9 n10 n11)) ∧ (ifK (decide (x14 < (↑n10 : Int)))
                  (R (Value.int IntKind.i64 6) (w13))
                  (Ca Try.prog (38) (Array.mk [Value.pointer s, Value.func (Fn.func 40) (Array.mk []) (Array.mk [Value.pointer (some (Addr.mk (Array.size (World.heap w2)) 0 none)), Value.pointer (some (Addr.mk (Array.size (World.heap w)) 0 none))])]) (w13) (fun v15 => (fun w16 =>
                    (∃ x17 : Int, ((v15 = Value.int IntKind.i64 x17) ∧ (R (Value.int IntKind.i64 x17) (w16)))))))))))))))))))))))))))))))))))
theorem ca15 (s : Option Addr) (name : ByteArray) (ba : Option Addr) (bl : Nat) (bc : Nat) (w : World) (R : Value → World → Prop) (h : W15 s name ba bl bc w R) : Ca Try.prog 15 ⟨[(.pointer s), (.string name), (.slice ba bl bc)]⟩ w R := by
  have h1 : Try.prog.follows .mixedOrders = true := by kernel_rfl
  have h2 : Try.f15.body = some C15 := by kernel_rfl
  have h3 : (Try.f15.name == "runtime.NumGoroutine") = false := by kernel_rfl
  have h6 : Try.f15.results.toList = [.tmp 6] := by kernel_rfl
  have h4 : Nat.ble 3 28 = true := by kernel_rfl
  have h5 : okCode 28 pl15 ls15 C15 0 = true := by kernel_rfl
  have e : W15 s name ba bl bc w R = wpC none Try.prog 28 pl15 ls15 C15 0 (endP Try.prog [.tmp 6] R) (fr0 [(.pointer s), (.string name), (.slice ba bl bc)]) [] w := by kernel_rfl
  exact ca_of' (P := Try.prog) (g := 15) (fn := Try.f15) (c := C15) (m := 28) (rs := [.tmp 6]) (args := [(.pointer s), (.string name), (.slice ba bl bc)]) (pl := pl15) (ls := ls15) (w := w) (R := R) h1 Try.func15 h2 Try.ntmps15 h6 h3 h4 h5 (Eq.mp e h)

/-- (*staith/store.Store).Sync -/
noncomputable def C16 : Code := (Try.f16.body).getD .skip
def pl16 : Nat → Plan := fun _ => .done
def ls16 : Nat → List (Nat × LT) := fun _ => []
def W16 (s : Option Addr) (name : ByteArray) (w : World) (R : Value → World → Prop) : Prop :=
  (Ca Try.prog (36) (Array.mk [Value.pointer s, Value.string name]) (w) (fun v0 => (fun w1 =>
    (∃ p2 : Option Addr, (∃ x3 : Int, ((v0 = Value.tuple (Array.mk (List.reverse [Value.int IntKind.i64 x3, Value.pointer p2]))) ∧ (atW (World.alloc w1 (Obj.cells (Array.mk [Value.pointer none]) 68 (0, 0))) (fun w4 =>
      ((∃ v5 : Value, (World.cell? w4 (Addr.add (Addr.mk (Array.size (World.heap w1)) 0 none) 0) = some v5)) ∧ ((World.frozen? w4 (Addr.add (Addr.mk (Array.size (World.heap w1)) 0 none) 0) = false) ∧ (atW (World.setCell w4 (Addr.add (Addr.mk (Array.size (World.heap w1)) 0 none) 0) (Value.pointer p2)) (fun w6 =>
        (ifK (x3 != 0)
          (R (Value.int IntKind.i64 x3) (w6))
          (Ca Try.prog (38) (Array.mk [Value.pointer s, Value.func (Fn.func 42) (Array.mk []) (Array.mk [Value.pointer (some (Addr.mk (Array.size (World.heap w1)) 0 none))])]) (w6) (fun v7 => (fun w8 =>
            (∃ x9 : Int, ((v7 = Value.int IntKind.i64 x9) ∧ (R (Value.int IntKind.i64 x9) (w8))))))))))))))))))))
theorem ca16 (s : Option Addr) (name : ByteArray) (w : World) (R : Value → World → Prop) (h : W16 s name w R) : Ca Try.prog 16 ⟨[(.pointer s), (.string name)]⟩ w R := by
  have h1 : Try.prog.follows .mixedOrders = true := by kernel_rfl
  have h2 : Try.f16.body = some C16 := by kernel_rfl
  have h3 : (Try.f16.name == "runtime.NumGoroutine") = false := by kernel_rfl
  have h6 : Try.f16.results.toList = [.tmp 4] := by kernel_rfl
  have h4 : Nat.ble 2 19 = true := by kernel_rfl
  have h5 : okCode 19 pl16 ls16 C16 0 = true := by kernel_rfl
  have e : W16 s name w R = wpC none Try.prog 19 pl16 ls16 C16 0 (endP Try.prog [.tmp 4] R) (fr0 [(.pointer s), (.string name)]) [] w := by kernel_rfl
  exact ca_of' (P := Try.prog) (g := 16) (fn := Try.f16) (c := C16) (m := 19) (rs := [.tmp 4]) (args := [(.pointer s), (.string name)]) (pl := pl16) (ls := ls16) (w := w) (R := R) h1 Try.func16 h2 Try.ntmps16 h6 h3 h4 h5 (Eq.mp e h)

/-- (*staith/store.Store).Commit -/
noncomputable def C17 : Code := (Try.f17.body).getD .skip
def pl17 : Nat → Plan := fun _ => .done
def ls17 : Nat → List (Nat × LT) := fun _ => []
def W17 (s : Option Addr) (w : World) (R : Value → World → Prop) : Prop :=
  (atW (World.alloc w (Obj.cells (Array.mk [Value.pointer s]) 25 (0, 0))) (fun w0 =>
    (∃ p1 : Option Addr, ((World.cell? w0 (Addr.mk (Array.size (World.heap w)) 0 none) = some (Value.pointer p1)) ∧ (Ca Try.prog (43) (Array.mk [Value.pointer p1]) (w0) (fun v2 => (fun w3 =>
      (∃ x4 : Int, ((v2 = Value.int IntKind.i64 x4) ∧ (ifK (x4 != 0)
        (R (Value.int IntKind.i64 x4) (w3))
        (∃ p5 : Option Addr, ((World.cell? w3 (Addr.mk (Array.size (World.heap w)) 0 none) = some (Value.pointer p5)) ∧ (Ca Try.prog (38) (Array.mk [Value.pointer p5, Value.func (Fn.func 44) (Array.mk []) (Array.mk [Value.pointer (some (Addr.mk (Array.size (World.heap w)) 0 none))])]) (w3) (fun v6 => (fun w7 =>
          (∃ x8 : Int, ((v6 = Value.int IntKind.i64 x8) ∧ (R (Value.int IntKind.i64 x8) (w7)))))))))))))))))))
theorem ca17 (s : Option Addr) (w : World) (R : Value → World → Prop) (h : W17 s w R) : Ca Try.prog 17 ⟨[(.pointer s)]⟩ w R := by
  have h1 : Try.prog.follows .mixedOrders = true := by kernel_rfl
  have h2 : Try.f17.body = some C17 := by kernel_rfl
  have h3 : (Try.f17.name == "runtime.NumGoroutine") = false := by kernel_rfl
  have h6 : Try.f17.results.toList = [.tmp 2] := by kernel_rfl
  have h4 : Nat.ble 1 12 = true := by kernel_rfl
  have h5 : okCode 12 pl17 ls17 C17 0 = true := by kernel_rfl
  have e : W17 s w R = wpC none Try.prog 12 pl17 ls17 C17 0 (endP Try.prog [.tmp 2] R) (fr0 [(.pointer s)]) [] w := by kernel_rfl
  exact ca_of' (P := Try.prog) (g := 17) (fn := Try.f17) (c := C17) (m := 12) (rs := [.tmp 2]) (args := [(.pointer s)]) (pl := pl17) (ls := ls17) (w := w) (R := R) h1 Try.func17 h2 Try.ntmps17 h6 h3 h4 h5 (Eq.mp e h)

/-- (*staith/store.Store).Fail -/
noncomputable def C18 : Code := (Try.f18.body).getD .skip
def pl18 : Nat → Plan
  | 5 => (.quiet 0 (.quiet 1 (.quiet 2 (.quiet 3 (.quiet 4 (.quiet 5 (.quiet 6 (.quiet 7 (.quiet 8 (.quiet 9 (.quiet 10 (.quiet 11 (.quiet 12 (.quiet 13 (.quiet 14 (.quiet 15 (.quiet 16 (.quiet 17 (.eff 18 [] (.quiet 19 .done))))))))))))))))))))
  | 6 => (.quiet 0 (.quiet 1 (.quiet 2 (.quiet 3 (.quiet 4 (.quiet 5 (.quiet 6 (.quiet 7 (.quiet 8 (.quiet 9 (.quiet 10 (.quiet 11 (.quiet 12 (.quiet 13 (.quiet 14 (.quiet 15 (.quiet 16 (.quiet 17 (.quiet 18 (.quiet 19 (.eff 20 [] .done)))))))))))))))))))))
  | _ => .done
def ls18 : Nat → List (Nat × LT) := fun _ => []
def W18 (s : Option Addr) (keep : Int) (w : World) (R : Value → World → Prop) : Prop :=
  (atW (World.alloc w (Obj.cells (Array.mk [Value.int IntKind.i64 keep]) 3 (0, 0))) (fun w0 =>
    (Ca Try.prog (26) (Array.mk [Value.pointer s]) (w0) (fun v1 => (fun w2 =>
      (∃ b3 : Bool, ((v1 = Value.bool b3) ∧ (ifK (!b3)
        (R (Value.tuple (Array.mk (List.reverse []))) (w2))
        (Ca Try.prog (46) (Array.mk [Value.pointer s]) (w2) (fun v4 => (fun w5 =>
          (∃ v6 : Value, ((v4 = v6) ∧ (rfW Try.prog (v6) (w5) (fun v7 => (fun w8 => (fun z9 => (fun z10 =>
            (onPt (v7) (fun p11 =>
              (z9 (fun w12 =>
                (onP (p11) (fun a13 =>
                  (∃ p14 : Option Addr, (∃ n15 : Nat, (∃ n16 : Nat, ((World.cell? w12 (Addr.add a13 1) = some (Value.slice p14 n15 n16)) ∧ (atW (World.drew w12) (fun w17 =>
                    (onP (p11) (fun a18 =>
                      (∃ p19 : Option Addr, (∃ n20 : Nat, (∃ n21 : Nat, ((World.cell? w17 (Addr.add a18 0) = some (Value.slice p19 n20 n21)) ∧ (ifK (decide ((↑n20 : Int) ≥ (↑n15 : Int)))
                        (onP (p11) (fun a22 =>
                          (∃ p23 : Option Addr, (∃ n24 : Nat, (∃ n25 : Nat, ((World.cell? w17 (Addr.add a22 0) = some (Value.slice p23 n24 n25)) ∧ (((0 : Int) ≤ 0) ∧ (((0 : Int) ≤ (↑n15 : Int)) ∧ ((((↑n15 : Int) : Int) ≤ (↑n25 : Int)) ∧ (onP (p11) (fun a26 =>
                            (∃ p27 : Option Addr, (∃ n28 : Nat, (∃ n29 : Nat, ((World.cell? w17 (Addr.add a26 1) = some (Value.slice p27 n28 n29)) ∧ (Ca Try.prog (47) (Array.mk [Value.slice (if n25 = 0 then p23 else Option.map (fun x => Addr.add x 0) p23) (Int.toNat (↑n15 : Int) - 0) (n25 - 0), Value.slice p27 n28 n29]) (w17) (fun v30 => (fun w31 =>
                              (∃ b32 : Bool, ((v30 = Value.bool b32) ∧ (ifK (b32)
                                (atW (World.drew w31) (fun w33 =>
                                  (onP (p11) (fun a34 =>
                                    (∃ p35 : Option Addr, (∃ n36 : Nat, (∃ n37 : Nat, ((World.cell? w33 (Addr.add a34 0) = some (Value.slice p35 n36 n37)) ∧ (∃ x38 : Int, ((World.cell? w33 (Addr.mk (Array.size (World.heap w)) 0 none) = some (Value.int IntKind.i64 x38)) ∧ (onP (p11) (fun a39 =>
                                      (∃ p40 : Option Addr, (∃ n41 : Nat, (∃ n42 : Nat, ((World.cell? w33 (Addr.add a39 0) = some (Value.slice p40 n41 n42)) ∧ (((0 : Int) ≤ 0) ∧ (((0 : Int) ≤ IntKind.wrap IntKind.i64 ((↑n15 : Int) + if IntKind.wrap IntKind.i64 ((↑n41 : Int) - (↑n15 : Int)) < if 0 > x38 then 0 else x38 then IntKind.wrap IntKind.i64 ((↑n41 : Int) - (↑n15 : Int)) else if 0 > x38 then 0 else x38)) ∧ (((IntKind.wrap IntKind.i64 ((↑n15 : Int) + if IntKind.wrap IntKind.i64 ((↑n41 : Int) - (↑n15 : Int)) < if 0 > x38 then 0 else x38 then IntKind.wrap IntKind.i64 ((↑n41 : Int) - (↑n15 : Int)) else if 0 > x38 then 0 else x38) : Int) ≤ (↑n37 : Int)) ∧ (onP (p11) (fun a43 =>
                                        ((∃ v44 : Value, (World.cell? w33 (Addr.add (Addr.add a43 1) 0) = some v44)) ∧ ((World.frozen? w33 (Addr.add (Addr.add a43 1) 0) = false) ∧ (atW (World.setCell w33 (Addr.add (Addr.add a43 1) 0) (Value.slice (if n37 = 0 then p35 else Option.map (fun x => Addr.add x 0) p35) (Int.toNat (IntKind.wrap IntKind.i64 ((↑n15 : Int) + if IntKind.wrap IntKind.i64 ((↑n41 : Int) - (↑n15 : Int)) < if 0 > x38 then 0 else x38 then IntKind.wrap IntKind.i64 ((↑n41 : Int) - (↑n15 : Int)) else if 0 > x38 then 0 else x38)) - 0) (n37 - 0))) (fun w45 =>
                                          (onP (p11) (fun a46 =>
                                            (∃ p47 : Option Addr, (∃ n48 : Nat, (∃ n49 : Nat, ((World.cell? w45 (Addr.add a46 1) = some (Value.slice p47 n48 n49)) ∧ (onP (p11) (fun a50 =>
                                              ((∃ v51 : Value, (World.cell? w45 (Addr.add (Addr.add a50 0) 0) = some v51)) ∧ ((World.frozen? w45 (Addr.add (Addr.add a50 0) 0) = false) ∧ (atW (World.setCell w45 (Addr.add (Addr.add a50 0) 0) (Value.slice p47 n48 n49)) (fun w52 =>
                                                (z10 (w52)))))))))))))))))))))))))))))))))))))))
                                (onP (p11) (fun a53 =>
                                  (∃ p54 : Option Addr, (∃ n55 : Nat, (∃ n56 : Nat, ((World.cell? w31 (Addr.add a53 1) = some (Value.slice p54 n55 n56)) ∧ (onP (p11) (fun a57 =>
                                    ((∃ v58 : Value, (World.cell? w31 (Addr.add (Addr.add a57 0) 0) = some v58)) ∧ ((World.frozen? w31 (Addr.add (Addr.add a57 0) 0) = false) ∧ (atW (World.setCell w31 (Addr.add (Addr.add a57 0) 0) (Value.slice p54 n55 n56)) (fun w59 =>
                                      (z10 (w59)))))))))))))))))))))))))))))))))))
                        (onP (p11) (fun a60 =>
                          (∃ p61 : Option Addr, (∃ n62 : Nat, (∃ n63 : Nat, ((World.cell? w17 (Addr.add a60 1) = some (Value.slice p61 n62 n63)) ∧ (onP (p11) (fun a64 =>
                            ((∃ v65 : Value, (World.cell? w17 (Addr.add (Addr.add a64 0) 0) = some v65)) ∧ ((World.frozen? w17 (Addr.add (Addr.add a64 0) 0) = false) ∧ (atW (World.setCell w17 (Addr.add (Addr.add a64 0) 0) (Value.slice p61 n62 n63)) (fun w66 =>
                              (z10 (w66)))))))))))))))))))))))))))))) (w8)))))))) (fun w67 =>
            (onP (s) (fun a68 =>
              (∃ p69 : Option Nat, ((World.cell? w67 (Addr.add a68 2) = some (Value.map p69)) ∧ (Ca Try.prog (45) (Array.mk [Value.map p69]) (w67) (fun v70 => (fun w71 =>
                (∃ p72 : Option Nat, ((v70 = Value.map p72) ∧ (onP (s) (fun a73 =>
                  ((∃ v74 : Value, (World.cell? w71 (Addr.add (Addr.add a73 1) 0) = some v74)) ∧ ((World.frozen? w71 (Addr.add (Addr.add a73 1) 0) = false) ∧ (atW (World.setCell w71 (Addr.add (Addr.add a73 1) 0) (Value.map p72)) (fun w75 =>
                    (onP (s) (fun a76 =>
                      ((∃ v77 : Value, (World.cell? w75 (Addr.add (Addr.add a76 3) 0) = some v77)) ∧ ((World.frozen? w75 (Addr.add (Addr.add a76 3) 0) = false) ∧ (atW (World.setCell w75 (Addr.add (Addr.add a76 3) 0) (Value.bool true)) (fun w78 =>
                        (((World.heap w78)[Array.size (World.heap w5)]? = some (Obj.deferred (some []))) ∧ (atW (World.putObj w78 (Array.size (World.heap w5)) (Obj.deferred none)) (fun w79 =>
                          (R (Value.tuple (Array.mk (List.reverse []))) (w79)))))))))))))))))))))))))))))))))))))))))
theorem ca18 (s : Option Addr) (keep : Int) (w : World) (R : Value → World → Prop) (h : W18 s keep w R) : Ca Try.prog 18 ⟨[(.pointer s), (.int .i64 keep)]⟩ w R := by
  have h1 : Try.prog.follows .mixedOrders = true := by kernel_rfl
  have h2 : Try.f18.body = some C18 := by kernel_rfl
  have h3 : (Try.f18.name == "runtime.NumGoroutine") = false := by kernel_rfl
  have h6 : Try.f18.results.toList = [] := by kernel_rfl
  have h4 : Nat.ble 2 75 = true := by kernel_rfl
  have h5 : okCode 75 pl18 ls18 C18 0 = true := by kernel_rfl
  have e : W18 s keep w R = wpC none Try.prog 75 pl18 ls18 C18 0 (endP Try.prog [] R) (fr0 [(.pointer s), (.int .i64 keep)]) [] w := by kernel_rfl
  exact ca_of' (P := Try.prog) (g := 18) (fn := Try.f18) (c := C18) (m := 75) (rs := []) (args := [(.pointer s), (.int .i64 keep)]) (pl := pl18) (ls := ls18) (w := w) (R := R) h1 Try.func18 h2 Try.ntmps18 h6 h3 h4 h5 (Eq.mp e h)

/-- (*staith/store.Store).Power -/
noncomputable def C19 : Code := (Try.f19.body).getD .skip
def pl19 : Nat → Plan := fun _ => .done
def ls19 : Nat → List (Nat × LT) := fun _ => []
def W19 (s : Option Addr) (w : World) (R : Value → World → Prop) : Prop :=
  (ifK (!Option.isNone s)
    (onP (s) (fun a0 =>
      (∃ p1 : Option Nat, ((World.cell? w (Addr.add a0 1) = some (Value.map p1)) ∧ (ifK (!Option.isNone p1)
        (onP (s) (fun a2 =>
          ((∃ v3 : Value, (World.cell? w (Addr.add (Addr.add a2 3) 0) = some v3)) ∧ ((World.frozen? w (Addr.add (Addr.add a2 3) 0) = false) ∧ (atW (World.setCell w (Addr.add (Addr.add a2 3) 0) (Value.bool false)) (fun w4 =>
            (onP (s) (fun a5 =>
              ((∃ v6 : Value, (World.cell? w4 (Addr.add (Addr.add a5 5) 0) = some v6)) ∧ ((World.frozen? w4 (Addr.add (Addr.add a5 5) 0) = false) ∧ (atW (World.setCell w4 (Addr.add (Addr.add a5 5) 0) (Value.int IntKind.i64 0)) (fun w7 =>
                (R (Value.tuple (Array.mk (List.reverse []))) (w7))))))))))))))
        (R (Value.tuple (Array.mk (List.reverse []))) (w)))))))
    (R (Value.tuple (Array.mk (List.reverse []))) (w)))
theorem ca19 (s : Option Addr) (w : World) (R : Value → World → Prop) (h : W19 s w R) : Ca Try.prog 19 ⟨[(.pointer s)]⟩ w R := by
  have h1 : Try.prog.follows .mixedOrders = true := by kernel_rfl
  have h2 : Try.f19.body = some C19 := by kernel_rfl
  have h3 : (Try.f19.name == "runtime.NumGoroutine") = false := by kernel_rfl
  have h6 : Try.f19.results.toList = [] := by kernel_rfl
  have h4 : Nat.ble 1 17 = true := by kernel_rfl
  have h5 : okCode 17 pl19 ls19 C19 0 = true := by kernel_rfl
  have e : W19 s w R = wpC none Try.prog 17 pl19 ls19 C19 0 (endP Try.prog [] R) (fr0 [(.pointer s)]) [] w := by kernel_rfl
  exact ca_of' (P := Try.prog) (g := 19) (fn := Try.f19) (c := C19) (m := 17) (rs := []) (args := [(.pointer s)]) (pl := pl19) (ls := ls19) (w := w) (R := R) h1 Try.func19 h2 Try.ntmps19 h6 h3 h4 h5 (Eq.mp e h)

/-- (*staith/store.Store).Read -/
noncomputable def C20 : Code := (Try.f20.body).getD .skip
def pl20 : Nat → Plan := fun _ => .done
def ls20 : Nat → List (Nat × LT) := fun _ => []
def W20 (s : Option Addr) (name : ByteArray) (w : World) (R : Value → World → Prop) : Prop :=
  (Ca Try.prog (36) (Array.mk [Value.pointer s, Value.string name]) (w) (fun v0 => (fun w1 =>
    (∃ p2 : Option Addr, (∃ x3 : Int, ((v0 = Value.tuple (Array.mk (List.reverse [Value.int IntKind.i64 x3, Value.pointer p2]))) ∧ (ifK (x3 != 0)
      (R (Value.tuple (Array.mk [Value.slice none 0 0, Value.int IntKind.i64 x3])) (w1))
      (onP (p2) (fun a4 =>
        (∃ p5 : Option Addr, (∃ n6 : Nat, (∃ n7 : Nat, ((World.cell? w1 (Addr.add a4 0) = some (Value.slice p5 n6 n7)) ∧ (Ca Try.prog (48) (Array.mk [Value.slice p5 n6 n7]) (w1) (fun v8 => (fun w9 =>
          (∃ p10 : Option Addr, (∃ n11 : Nat, (∃ n12 : Nat, ((v8 = Value.slice p10 n11 n12) ∧ (R (Value.tuple (Array.mk [Value.slice p10 n11 n12, Value.int IntKind.i64 0])) (w9))))))))))))))))))))))
theorem ca20 (s : Option Addr) (name : ByteArray) (w : World) (R : Value → World → Prop) (h : W20 s name w R) : Ca Try.prog 20 ⟨[(.pointer s), (.string name)]⟩ w R := by
  have h1 : Try.prog.follows .mixedOrders = true := by kernel_rfl
  have h2 : Try.f20.body = some C20 := by kernel_rfl
  have h3 : (Try.f20.name == "runtime.NumGoroutine") = false := by kernel_rfl
  have h6 : Try.f20.results.toList = [.tmp 4, .tmp 5] := by kernel_rfl
  have h4 : Nat.ble 2 22 = true := by kernel_rfl
  have h5 : okCode 22 pl20 ls20 C20 0 = true := by kernel_rfl
  have e : W20 s name w R = wpC none Try.prog 22 pl20 ls20 C20 0 (endP Try.prog [.tmp 4, .tmp 5] R) (fr0 [(.pointer s), (.string name)]) [] w := by kernel_rfl
  exact ca_of' (P := Try.prog) (g := 20) (fn := Try.f20) (c := C20) (m := 22) (rs := [.tmp 4, .tmp 5]) (args := [(.pointer s), (.string name)]) (pl := pl20) (ls := ls20) (w := w) (R := R) h1 Try.func20 h2 Try.ntmps20 h6 h3 h4 h5 (Eq.mp e h)

/-- (*staith/store.Store).Plan -/
noncomputable def C24 : Code := (Try.f24.body).getD .skip
def pl24 : Nat → Plan := fun _ => .done
def ls24 : Nat → List (Nat × LT) := fun _ => []
def W24 (s : Option Addr) (n : Int) (keep : Int) (w : World) (R : Value → World → Prop) : Prop :=
  (Ca Try.prog (43) (Array.mk [Value.pointer s]) (w) (fun v0 => (fun w1 =>
    (∃ x2 : Int, ((v0 = Value.int IntKind.i64 x2) ∧ (ifK (x2 != 0)
      (R (Value.int IntKind.i64 x2) (w1))
      (ifK (decide (n < 0))
        (R (Value.int IntKind.i64 2) (w1))
        (onP (s) (fun a3 =>
          ((∃ v4 : Value, (World.cell? w1 (Addr.add (Addr.add a3 5) 0) = some v4)) ∧ ((World.frozen? w1 (Addr.add (Addr.add a3 5) 0) = false) ∧ (atW (World.setCell w1 (Addr.add (Addr.add a3 5) 0) (Value.int IntKind.i64 n)) (fun w5 =>
            (onP (s) (fun a6 =>
              ((∃ v7 : Value, (World.cell? w5 (Addr.add (Addr.add a6 6) 0) = some v7)) ∧ ((World.frozen? w5 (Addr.add (Addr.add a6 6) 0) = false) ∧ (atW (World.setCell w5 (Addr.add (Addr.add a6 6) 0) (Value.int IntKind.i64 keep)) (fun w8 =>
                (R (Value.int IntKind.i64 x2) (w8)))))))))))))))))))))
theorem ca24 (s : Option Addr) (n : Int) (keep : Int) (w : World) (R : Value → World → Prop) (h : W24 s n keep w R) : Ca Try.prog 24 ⟨[(.pointer s), (.int .i64 n), (.int .i64 keep)]⟩ w R := by
  have h1 : Try.prog.follows .mixedOrders = true := by kernel_rfl
  have h2 : Try.f24.body = some C24 := by kernel_rfl
  have h3 : (Try.f24.name == "runtime.NumGoroutine") = false := by kernel_rfl
  have h6 : Try.f24.results.toList = [.tmp 6] := by kernel_rfl
  have h4 : Nat.ble 3 25 = true := by kernel_rfl
  have h5 : okCode 25 pl24 ls24 C24 0 = true := by kernel_rfl
  have e : W24 s n keep w R = wpC none Try.prog 25 pl24 ls24 C24 0 (endP Try.prog [.tmp 6] R) (fr0 [(.pointer s), (.int .i64 n), (.int .i64 keep)]) [] w := by kernel_rfl
  exact ca_of' (P := Try.prog) (g := 24) (fn := Try.f24) (c := C24) (m := 25) (rs := [.tmp 6]) (args := [(.pointer s), (.int .i64 n), (.int .i64 keep)]) (pl := pl24) (ls := ls24) (w := w) (R := R) h1 Try.func24 h2 Try.ntmps24 h6 h3 h4 h5 (Eq.mp e h)

/-- (*staith/store.Store).Move -/
noncomputable def C25 : Code := (Try.f25.body).getD .skip
def pl25 : Nat → Plan := fun _ => .done
def ls25 : Nat → List (Nat × LT) := fun _ => []
def W25 (s : Option Addr) (from_ : ByteArray) (to : ByteArray) (w : World) (R : Value → World → Prop) : Prop :=
  (atW (World.alloc w (Obj.cells (Array.mk [Value.pointer s]) 25 (0, 0))) (fun w0 =>
    (atW (World.alloc w0 (Obj.cells (Array.mk [Value.string from_]) 9 (0, 0))) (fun w1 =>
      (atW (World.alloc w1 (Obj.cells (Array.mk [Value.string to]) 9 (0, 0))) (fun w2 =>
        (∃ p3 : Option Addr, ((World.cell? w2 (Addr.mk (Array.size (World.heap w)) 0 none) = some (Value.pointer p3)) ∧ (∃ s4 : ByteArray, ((World.cell? w2 (Addr.mk (Array.size (World.heap w0)) 0 none) = some (Value.string s4)) ∧ (Ca Try.prog (36) (Array.mk [Value.pointer p3, Value.string s4]) (w2) (fun v5 => (fun w6 =>
          (∃ p7 : Option Addr, (∃ x8 : Int, ((v5 = Value.tuple (Array.mk (List.reverse [Value.int IntKind.i64 x8, Value.pointer p7]))) ∧ (atW (World.alloc w6 (Obj.cells (Array.mk [Value.pointer none]) 68 (0, 0))) (fun w9 =>
            ((∃ v10 : Value, (World.cell? w9 (Addr.add (Addr.mk (Array.size (World.heap w6)) 0 none) 0) = some v10)) ∧ ((World.frozen? w9 (Addr.add (Addr.mk (Array.size (World.heap w6)) 0 none) 0) = false) ∧ (atW (World.setCell w9 (Addr.add (Addr.mk (Array.size (World.heap w6)) 0 none) 0) (Value.pointer p7)) (fun w11 =>
              (ifK (x8 != 1)
                (ifK (x8 != 9)
                  (∃ s12 : ByteArray, ((World.cell? w11 (Addr.mk (Array.size (World.heap w1)) 0 none) = some (Value.string s12)) ∧ (Ca Try.prog (10) (Array.mk [Value.string s12]) (w11) (fun v13 => (fun w14 =>
                    (∃ b15 : Bool, ((v13 = Value.bool b15) ∧ (ifK (!b15)
                      (R (Value.int IntKind.i64 2) (w14))
                      (ifK (x8 != 0)
                        (R (Value.int IntKind.i64 x8) (w14))
                        (∃ p16 : Option Addr, ((World.cell? w14 (Addr.mk (Array.size (World.heap w)) 0 none) = some (Value.pointer p16)) ∧ (Ca Try.prog (38) (Array.mk [Value.pointer p16, Value.func (Fn.func 51) (Array.mk []) (Array.mk [Value.pointer (some (Addr.mk (Array.size (World.heap w)) 0 none)), Value.pointer (some (Addr.mk (Array.size (World.heap w0)) 0 none)), Value.pointer (some (Addr.mk (Array.size (World.heap w6)) 0 none)), Value.pointer (some (Addr.mk (Array.size (World.heap w1)) 0 none))])]) (w14) (fun v17 => (fun w18 =>
                          (∃ x19 : Int, ((v17 = Value.int IntKind.i64 x19) ∧ (R (Value.int IntKind.i64 x19) (w18))))))))))))))))))
                  (ifK (x8 != 0)
                    (R (Value.int IntKind.i64 x8) (w11))
                    (∃ p20 : Option Addr, ((World.cell? w11 (Addr.mk (Array.size (World.heap w)) 0 none) = some (Value.pointer p20)) ∧ (Ca Try.prog (38) (Array.mk [Value.pointer p20, Value.func (Fn.func 51) (Array.mk []) (Array.mk [Value.pointer (some (Addr.mk (Array.size (World.heap w)) 0 none)), Value.pointer (some (Addr.mk (Array.size (World.heap w0)) 0 none)), Value.pointer (some (Addr.mk (Array.size (World.heap w6)) 0 none)), Value.pointer (some (Addr.mk (Array.size (World.heap w1)) 0 none))])]) (w11) (fun v21 => (fun w22 =>
                      (∃ x23 : Int, ((v21 = Value.int IntKind.i64 x23) ∧ (R (Value.int IntKind.i64 x23) (w22)))))))))))
                (ifK (x8 != 0)
                  (R (Value.int IntKind.i64 x8) (w11))
                  (∃ p24 : Option Addr, ((World.cell? w11 (Addr.mk (Array.size (World.heap w)) 0 none) = some (Value.pointer p24)) ∧ (Ca Try.prog (38) (Array.mk [Value.pointer p24, Value.func (Fn.func 51) (Array.mk []) (Array.mk [Value.pointer (some (Addr.mk (Array.size (World.heap w)) 0 none)), Value.pointer (some (Addr.mk (Array.size (World.heap w0)) 0 none)), Value.pointer (some (Addr.mk (Array.size (World.heap w6)) 0 none)), Value.pointer (some (Addr.mk (Array.size (World.heap w1)) 0 none))])]) (w11) (fun v25 => (fun w26 =>
                    (∃ x27 : Int, ((v25 = Value.int IntKind.i64 x27) ∧ (R (Value.int IntKind.i64 x27) (w26)))))))))))))))))))))))))))))))))
theorem ca25 (s : Option Addr) (from_ : ByteArray) (to : ByteArray) (w : World) (R : Value → World → Prop) (h : W25 s from_ to w R) : Ca Try.prog 25 ⟨[(.pointer s), (.string from_), (.string to)]⟩ w R := by
  have h1 : Try.prog.follows .mixedOrders = true := by kernel_rfl
  have h2 : Try.f25.body = some C25 := by kernel_rfl
  have h3 : (Try.f25.name == "runtime.NumGoroutine") = false := by kernel_rfl
  have h6 : Try.f25.results.toList = [.tmp 6] := by kernel_rfl
  have h4 : Nat.ble 3 32 = true := by kernel_rfl
  have h5 : okCode 32 pl25 ls25 C25 0 = true := by kernel_rfl
  have e : W25 s from_ to w R = wpC none Try.prog 32 pl25 ls25 C25 0 (endP Try.prog [.tmp 6] R) (fr0 [(.pointer s), (.string from_), (.string to)]) [] w := by kernel_rfl
  exact ca_of' (P := Try.prog) (g := 25) (fn := Try.f25) (c := C25) (m := 32) (rs := [.tmp 6]) (args := [(.pointer s), (.string from_), (.string to)]) (pl := pl25) (ls := ls25) (w := w) (R := R) h1 Try.func25 h2 Try.ntmps25 h6 h3 h4 h5 (Eq.mp e h)

/-- (*staith/store.Store).On -/
noncomputable def C26 : Code := (Try.f26.body).getD .skip
def pl26 : Nat → Plan := fun _ => .done
def ls26 : Nat → List (Nat × LT) := fun _ => []
def W26 (s : Option Addr) (w : World) (R : Value → World → Prop) : Prop :=
  (ifK (!Option.isNone s)
    (onP (s) (fun a0 =>
      (∃ p1 : Option Nat, ((World.cell? w (Addr.add a0 1) = some (Value.map p1)) ∧ (ifK (!Option.isNone p1)
        (onP (s) (fun a2 =>
          (∃ b3 : Bool, ((World.cell? w (Addr.add a2 3) = some (Value.bool b3)) ∧ (R (Value.bool !b3) (w))))))
        (R (Value.bool false) (w)))))))
    (R (Value.bool false) (w)))
theorem ca26 (s : Option Addr) (w : World) (R : Value → World → Prop) (h : W26 s w R) : Ca Try.prog 26 ⟨[(.pointer s)]⟩ w R := by
  have h1 : Try.prog.follows .mixedOrders = true := by kernel_rfl
  have h2 : Try.f26.body = some C26 := by kernel_rfl
  have h3 : (Try.f26.name == "runtime.NumGoroutine") = false := by kernel_rfl
  have h6 : Try.f26.results.toList = [.tmp 2] := by kernel_rfl
  have h4 : Nat.ble 1 19 = true := by kernel_rfl
  have h5 : okCode 19 pl26 ls26 C26 0 = true := by kernel_rfl
  have e : W26 s w R = wpC none Try.prog 19 pl26 ls26 C26 0 (endP Try.prog [.tmp 2] R) (fr0 [(.pointer s)]) [] w := by kernel_rfl
  exact ca_of' (P := Try.prog) (g := 26) (fn := Try.f26) (c := C26) (m := 19) (rs := [.tmp 2]) (args := [(.pointer s)]) (pl := pl26) (ls := ls26) (w := w) (R := R) h1 Try.func26 h2 Try.ntmps26 h6 h3 h4 h5 (Eq.mp e h)

/-- (*staith/store.Store).Used -/
noncomputable def C28 : Code := (Try.f28.body).getD .skip
def pl28 : Nat → Plan
  | 3 => (.quiet 0 (.quiet 1 (.quiet 2 (.quiet 3 (.quiet 4 (.eff 5 [3] (.quiet 6 (.quiet 7 .done))))))))
  | _ => .done
def ls28 : Nat → List (Nat × LT) := fun _ => []
def W28 (s : Option Addr) (w : World) (R : Value → World → Prop) : Prop :=
  (Ca Try.prog (26) (Array.mk [Value.pointer s]) (w) (fun v0 => (fun w1 =>
    (∃ b2 : Bool, ((v0 = Value.bool b2) ∧ (ifK (!b2)
      (R (Value.int IntKind.i64 0) (w1))
      (atW (World.drew w1) (fun w3 =>
        (onP (s) (fun a4 =>
          (∃ x5 : Int, ((World.cell? w3 (Addr.add a4 0) = some (Value.int IntKind.i64 x5)) ∧ (Ca Try.prog (37) (Array.mk [Value.pointer s]) (w3) (fun v6 => (fun w7 =>
            (∃ x8 : Int, ((v6 = Value.int IntKind.i64 x8) ∧ ((World.cell? w7 (Addr.add (Addr.add a4 0) 0) = some (Value.int IntKind.i64 x5)) ∧ (R (Value.int IntKind.i64 (IntKind.wrap IntKind.i64 (x5 - x8))) (w7))))))))))))))))))))
theorem ca28 (s : Option Addr) (w : World) (R : Value → World → Prop) (h : W28 s w R) : Ca Try.prog 28 ⟨[(.pointer s)]⟩ w R := by
  have h1 : Try.prog.follows .mixedOrders = true := by kernel_rfl
  have h2 : Try.f28.body = some C28 := by kernel_rfl
  have h3 : (Try.f28.name == "runtime.NumGoroutine") = false := by kernel_rfl
  have h6 : Try.f28.results.toList = [.tmp 2] := by kernel_rfl
  have h4 : Nat.ble 1 13 = true := by kernel_rfl
  have h5 : okCode 13 pl28 ls28 C28 0 = true := by kernel_rfl
  have e : W28 s w R = wpC none Try.prog 13 pl28 ls28 C28 0 (endP Try.prog [.tmp 2] R) (fr0 [(.pointer s)]) [] w := by kernel_rfl
  exact ca_of' (P := Try.prog) (g := 28) (fn := Try.f28) (c := C28) (m := 13) (rs := [.tmp 2]) (args := [(.pointer s)]) (pl := pl28) (ls := ls28) (w := w) (R := R) h1 Try.func28 h2 Try.ntmps28 h6 h3 h4 h5 (Eq.mp e h)

/-- (*staith/store.Store).Count -/
noncomputable def C29 : Code := (Try.f29.body).getD .skip
def pl29 : Nat → Plan := fun _ => .done
def ls29 : Nat → List (Nat × LT) := fun _ => []
def W29 (s : Option Addr) (w : World) (R : Value → World → Prop) : Prop :=
  (ifK (Option.isNone s)
    (R (Value.int IntKind.i64 0) (w))
    (onP (s) (fun a0 =>
      (∃ x1 : Int, ((World.cell? w (Addr.add a0 4) = some (Value.int IntKind.i64 x1)) ∧ (R (Value.int IntKind.i64 x1) (w)))))))
theorem ca29 (s : Option Addr) (w : World) (R : Value → World → Prop) (h : W29 s w R) : Ca Try.prog 29 ⟨[(.pointer s)]⟩ w R := by
  have h1 : Try.prog.follows .mixedOrders = true := by kernel_rfl
  have h2 : Try.f29.body = some C29 := by kernel_rfl
  have h3 : (Try.f29.name == "runtime.NumGoroutine") = false := by kernel_rfl
  have h6 : Try.f29.results.toList = [.tmp 2] := by kernel_rfl
  have h4 : Nat.ble 1 9 = true := by kernel_rfl
  have h5 : okCode 9 pl29 ls29 C29 0 = true := by kernel_rfl
  have e : W29 s w R = wpC none Try.prog 9 pl29 ls29 C29 0 (endP Try.prog [.tmp 2] R) (fr0 [(.pointer s)]) [] w := by kernel_rfl
  exact ca_of' (P := Try.prog) (g := 29) (fn := Try.f29) (c := C29) (m := 9) (rs := [.tmp 2]) (args := [(.pointer s)]) (pl := pl29) (ls := ls29) (w := w) (R := R) h1 Try.func29 h2 Try.ntmps29 h6 h3 h4 h5 (Eq.mp e h)

/-- (*staith/store.Store).Cut -/
noncomputable def C30 : Code := (Try.f30.body).getD .skip
def pl30 : Nat → Plan
  | 4 => (.quiet 0 (.quiet 1 (.quiet 2 (.quiet 3 (.quiet 4 (.quiet 5 (.quiet 6 (.quiet 7 (.quiet 8 (.quiet 9 (.quiet 10 (.quiet 11 .done))))))))))))
  | _ => .done
def ls30 : Nat → List (Nat × LT) := fun _ => []
def W30 (s : Option Addr) (name : ByteArray) (n : Int) (w : World) (R : Value → World → Prop) : Prop :=
  (atW (World.alloc w (Obj.cells (Array.mk [Value.int IntKind.i64 n]) 3 (0, 0))) (fun w0 =>
    (Ca Try.prog (36) (Array.mk [Value.pointer s, Value.string name]) (w0) (fun v1 => (fun w2 =>
      (∃ p3 : Option Addr, (∃ x4 : Int, ((v1 = Value.tuple (Array.mk (List.reverse [Value.int IntKind.i64 x4, Value.pointer p3]))) ∧ (atW (World.alloc w2 (Obj.cells (Array.mk [Value.pointer none]) 68 (0, 0))) (fun w5 =>
        ((∃ v6 : Value, (World.cell? w5 (Addr.add (Addr.mk (Array.size (World.heap w2)) 0 none) 0) = some v6)) ∧ ((World.frozen? w5 (Addr.add (Addr.mk (Array.size (World.heap w2)) 0 none) 0) = false) ∧ (atW (World.setCell w5 (Addr.add (Addr.mk (Array.size (World.heap w2)) 0 none) 0) (Value.pointer p3)) (fun w7 =>
          (ifK (x4 != 0)
            (R (Value.int IntKind.i64 x4) (w7))
            (atW (World.drew w7) (fun w8 =>
              (∃ x9 : Int, ((World.cell? w8 (Addr.mk (Array.size (World.heap w)) 0 none) = some (Value.int IntKind.i64 x9)) ∧ (ifK (decide (x9 < 0))
                (R (Value.int IntKind.i64 2) (w8))
                (∃ x10 : Int, ((World.cell? w8 (Addr.mk (Array.size (World.heap w)) 0 none) = some (Value.int IntKind.i64 x10)) ∧ (∃ p11 : Option Addr, ((World.cell? w8 (Addr.mk (Array.size (World.heap w2)) 0 none) = some (Value.pointer p11)) ∧ (onP (p11) (fun a12 =>
                  (∃ p13 : Option Addr, (∃ n14 : Nat, (∃ n15 : Nat, ((World.cell? w8 (Addr.add a12 0) = some (Value.slice p13 n14 n15)) ∧ (ifK (decide (x10 > (↑n14 : Int)))
                    (R (Value.int IntKind.i64 2) (w8))
                    (Ca Try.prog (38) (Array.mk [Value.pointer s, Value.func (Fn.func 52) (Array.mk []) (Array.mk [Value.pointer (some (Addr.mk (Array.size (World.heap w2)) 0 none)), Value.pointer (some (Addr.mk (Array.size (World.heap w)) 0 none))])]) (w8) (fun v16 => (fun w17 =>
                      (∃ x18 : Int, ((v16 = Value.int IntKind.i64 x18) ∧ (R (Value.int IntKind.i64 x18) (w17))))))))))))))))))))))))))))))))))))))
theorem ca30 (s : Option Addr) (name : ByteArray) (n : Int) (w : World) (R : Value → World → Prop) (h : W30 s name n w R) : Ca Try.prog 30 ⟨[(.pointer s), (.string name), (.int .i64 n)]⟩ w R := by
  have h1 : Try.prog.follows .mixedOrders = true := by kernel_rfl
  have h2 : Try.f30.body = some C30 := by kernel_rfl
  have h3 : (Try.f30.name == "runtime.NumGoroutine") = false := by kernel_rfl
  have h6 : Try.f30.results.toList = [.tmp 6] := by kernel_rfl
  have h4 : Nat.ble 3 34 = true := by kernel_rfl
  have h5 : okCode 34 pl30 ls30 C30 0 = true := by kernel_rfl
  have e : W30 s name n w R = wpC none Try.prog 34 pl30 ls30 C30 0 (endP Try.prog [.tmp 6] R) (fr0 [(.pointer s), (.string name), (.int .i64 n)]) [] w := by kernel_rfl
  exact ca_of' (P := Try.prog) (g := 30) (fn := Try.f30) (c := C30) (m := 34) (rs := [.tmp 6]) (args := [(.pointer s), (.string name), (.int .i64 n)]) (pl := pl30) (ls := ls30) (w := w) (R := R) h1 Try.func30 h2 Try.ntmps30 h6 h3 h4 h5 (Eq.mp e h)

/-- (*staith/store.Store).Drop -/
noncomputable def C31 : Code := (Try.f31.body).getD .skip
def pl31 : Nat → Plan := fun _ => .done
def ls31 : Nat → List (Nat × LT) := fun _ => []
def W31 (s : Option Addr) (name : ByteArray) (w : World) (R : Value → World → Prop) : Prop :=
  (atW (World.alloc w (Obj.cells (Array.mk [Value.pointer s]) 25 (0, 0))) (fun w0 =>
    (atW (World.alloc w0 (Obj.cells (Array.mk [Value.string name]) 9 (0, 0))) (fun w1 =>
      (∃ p2 : Option Addr, ((World.cell? w1 (Addr.mk (Array.size (World.heap w)) 0 none) = some (Value.pointer p2)) ∧ (∃ s3 : ByteArray, ((World.cell? w1 (Addr.mk (Array.size (World.heap w0)) 0 none) = some (Value.string s3)) ∧ (Ca Try.prog (36) (Array.mk [Value.pointer p2, Value.string s3]) (w1) (fun v4 => (fun w5 =>
        (∃ p6 : Option Addr, (∃ x7 : Int, ((v4 = Value.tuple (Array.mk (List.reverse [Value.int IntKind.i64 x7, Value.pointer p6]))) ∧ (ifK (x7 != 0)
          (R (Value.int IntKind.i64 x7) (w5))
          (∃ p8 : Option Addr, ((World.cell? w5 (Addr.mk (Array.size (World.heap w)) 0 none) = some (Value.pointer p8)) ∧ (Ca Try.prog (38) (Array.mk [Value.pointer p8, Value.func (Fn.func 53) (Array.mk []) (Array.mk [Value.pointer (some (Addr.mk (Array.size (World.heap w)) 0 none)), Value.pointer (some (Addr.mk (Array.size (World.heap w0)) 0 none))])]) (w5) (fun v9 => (fun w10 =>
            (∃ x11 : Int, ((v9 = Value.int IntKind.i64 x11) ∧ (R (Value.int IntKind.i64 x11) (w10))))))))))))))))))))))))
theorem ca31 (s : Option Addr) (name : ByteArray) (w : World) (R : Value → World → Prop) (h : W31 s name w R) : Ca Try.prog 31 ⟨[(.pointer s), (.string name)]⟩ w R := by
  have h1 : Try.prog.follows .mixedOrders = true := by kernel_rfl
  have h2 : Try.f31.body = some C31 := by kernel_rfl
  have h3 : (Try.f31.name == "runtime.NumGoroutine") = false := by kernel_rfl
  have h6 : Try.f31.results.toList = [.tmp 4] := by kernel_rfl
  have h4 : Nat.ble 2 19 = true := by kernel_rfl
  have h5 : okCode 19 pl31 ls31 C31 0 = true := by kernel_rfl
  have e : W31 s name w R = wpC none Try.prog 19 pl31 ls31 C31 0 (endP Try.prog [.tmp 4] R) (fr0 [(.pointer s), (.string name)]) [] w := by kernel_rfl
  exact ca_of' (P := Try.prog) (g := 31) (fn := Try.f31) (c := C31) (m := 19) (rs := [.tmp 4]) (args := [(.pointer s), (.string name)]) (pl := pl31) (ls := ls31) (w := w) (R := R) h1 Try.func31 h2 Try.ntmps31 h6 h3 h4 h5 (Eq.mp e h)

/-- (*staith/store.Store).known -/
noncomputable def C36 : Code := (Try.f36.body).getD .skip
def pl36 : Nat → Plan := fun _ => .done
def ls36 : Nat → List (Nat × LT) := fun _ => []
def W36 (s : Option Addr) (name : ByteArray) (w : World) (R : Value → World → Prop) : Prop :=
  (Ca Try.prog (43) (Array.mk [Value.pointer s]) (w) (fun v0 => (fun w1 =>
    (∃ x2 : Int, ((v0 = Value.int IntKind.i64 x2) ∧ (ifK (x2 != 0)
      (R (Value.tuple (Array.mk [Value.pointer none, Value.int IntKind.i64 x2])) (w1))
      (Ca Try.prog (10) (Array.mk [Value.string name]) (w1) (fun v3 => (fun w4 =>
        (∃ b5 : Bool, ((v3 = Value.bool b5) ∧ (ifK (!b5)
          (R (Value.tuple (Array.mk [Value.pointer none, Value.int IntKind.i64 2])) (w4))
          (onP (s) (fun a6 =>
            (∃ p7 : Option Nat, ((World.cell? w4 (Addr.add a6 1) = some (Value.map p7)) ∧ (∃ v8 : Value, (∃ w9 : World, ((Sem.run Try.prog (Instr.lookup 63 (Value.map p7) (Value.string name) false) w4 = Result.ok v8 w9) ∧ (∃ p10 : Option Addr, ((v8 = Value.pointer p10) ∧ (ifK (Option.isNone p10)
              (R (Value.tuple (Array.mk [Value.pointer none, Value.int IntKind.i64 3])) (w9))
              (R (Value.tuple (Array.mk [Value.pointer p10, Value.int IntKind.i64 0])) (w9))))))))))))))))))))))))
theorem ca36 (s : Option Addr) (name : ByteArray) (w : World) (R : Value → World → Prop) (h : W36 s name w R) : Ca Try.prog 36 ⟨[(.pointer s), (.string name)]⟩ w R := by
  have h1 : Try.prog.follows .mixedOrders = true := by kernel_rfl
  have h2 : Try.f36.body = some C36 := by kernel_rfl
  have h3 : (Try.f36.name == "runtime.NumGoroutine") = false := by kernel_rfl
  have h6 : Try.f36.results.toList = [.tmp 4, .tmp 5] := by kernel_rfl
  have h4 : Nat.ble 2 25 = true := by kernel_rfl
  have h5 : okCode 25 pl36 ls36 C36 0 = true := by kernel_rfl
  have e : W36 s name w R = wpC none Try.prog 25 pl36 ls36 C36 0 (endP Try.prog [.tmp 4, .tmp 5] R) (fr0 [(.pointer s), (.string name)]) [] w := by kernel_rfl
  exact ca_of' (P := Try.prog) (g := 36) (fn := Try.f36) (c := C36) (m := 25) (rs := [.tmp 4, .tmp 5]) (args := [(.pointer s), (.string name)]) (pl := pl36) (ls := ls36) (w := w) (R := R) h1 Try.func36 h2 Try.ntmps36 h6 h3 h4 h5 (Eq.mp e h)

/-- (*staith/store.Store).free -/
noncomputable def C37 : Code := (Try.f37.body).getD .skip
def pl37 : Nat → Plan := fun _ => .done
def ls37 : Nat → List (Nat × LT)
  | 4 => [(3, (.one (.int .i64)))]
  | _ => []
def W37 (s : Option Addr) (w : World) (R : Value → World → Prop) : Prop :=
  (onP (s) (fun a0 =>
    (∃ x1 : Int, ((World.cell? w (Addr.add a0 0) = some (Value.int IntKind.i64 x1)) ∧ (onP (s) (fun a2 =>
      (∃ p3 : Option Nat, ((World.cell? w (Addr.add a2 1) = some (Value.map p3)) ∧ (rngM (p3) (w) (fun v4 => (fun w5 =>
        (∃ z6 : Int → World → Prop, (∃ z7 : Int → World → Nat, ((z6 (x1) (w5)) ∧ (∀ (_ : Nat → Value), (∀ (x9 : Int), (∀ (w10 : World), ((z6 (x9) (w10)) → (nxtM Try.prog (0) (v4) (w10) (fun _ => (fun _ => (fun w13 =>
          (∃ v14 : Value, (∃ v15 : Value, ((Sem.run Try.prog (Instr.entry v4) w13 = Result.ok (Value.tuple #[v14, v15]) w13) ∧ (onPt (v15) (fun p16 =>
            (onP (p16) (fun a17 =>
              (∃ p18 : Option Addr, (∃ n19 : Nat, (∃ n20 : Nat, ((World.cell? w13 (Addr.add a17 0) = some (Value.slice p18 n19 n20)) ∧ ((z6 (IntKind.wrap IntKind.i64 (x9 - IntKind.wrap IntKind.i64 (16 + (↑n19 : Int)))) (w13)) ∧ (z7 (IntKind.wrap IntKind.i64 (x9 - IntKind.wrap IntKind.i64 (16 + (↑n19 : Int)))) w13 < z7 x9 w10)))))))))))))))) (fun w21 =>
          (R (Value.int IntKind.i64 x9) (w21))))))))))))))))))))))
theorem ca37 (s : Option Addr) (w : World) (R : Value → World → Prop) (h : W37 s w R) : Ca Try.prog 37 ⟨[(.pointer s)]⟩ w R := by
  have h1 : Try.prog.follows .mixedOrders = true := by kernel_rfl
  have h2 : Try.f37.body = some C37 := by kernel_rfl
  have h3 : (Try.f37.name == "runtime.NumGoroutine") = false := by kernel_rfl
  have h6 : Try.f37.results.toList = [.tmp 2] := by kernel_rfl
  have h4 : Nat.ble 1 28 = true := by kernel_rfl
  have h5 : okCode 28 pl37 ls37 C37 0 = true := by kernel_rfl
  have e : W37 s w R = wpC none Try.prog 28 pl37 ls37 C37 0 (endP Try.prog [.tmp 2] R) (fr0 [(.pointer s)]) [] w := by kernel_rfl
  exact ca_of' (P := Try.prog) (g := 37) (fn := Try.f37) (c := C37) (m := 28) (rs := [.tmp 2]) (args := [(.pointer s)]) (pl := pl37) (ls := ls37) (w := w) (R := R) h1 Try.func37 h2 Try.ntmps37 h6 h3 h4 h5 (Eq.mp e h)

/-- (*staith/store.Store).counted -/
noncomputable def C38 : Code := (Try.f38.body).getD .skip
def pl38 : Nat → Plan := fun _ => .done
def ls38 : Nat → List (Nat × LT) := fun _ => []
def W38 (s : Option Addr) (does : Value) (w : World) (R : Value → World → Prop) : Prop :=
  (onP (s) (fun a0 =>
    (∃ x1 : Int, ((World.cell? w (Addr.add a0 4) = some (Value.int IntKind.i64 x1)) ∧ (onP (s) (fun a2 =>
      ((∃ v3 : Value, (World.cell? w (Addr.add (Addr.add a2 4) 0) = some v3)) ∧ ((World.frozen? w (Addr.add (Addr.add a2 4) 0) = false) ∧ (atW (World.setCell w (Addr.add (Addr.add a2 4) 0) (Value.int IntKind.i64 (IntKind.wrap IntKind.i64 (x1 + 1)))) (fun w4 =>
        (onP (s) (fun a5 =>
          (∃ x6 : Int, ((World.cell? w4 (Addr.add a5 5) = some (Value.int IntKind.i64 x6)) ∧ (ifK (decide (x6 > 0))
            (onP (s) (fun a7 =>
              (∃ x8 : Int, ((World.cell? w4 (Addr.add a7 5) = some (Value.int IntKind.i64 x8)) ∧ (onP (s) (fun a9 =>
                ((∃ v10 : Value, (World.cell? w4 (Addr.add (Addr.add a9 5) 0) = some v10)) ∧ ((World.frozen? w4 (Addr.add (Addr.add a9 5) 0) = false) ∧ (atW (World.setCell w4 (Addr.add (Addr.add a9 5) 0) (Value.int IntKind.i64 (IntKind.wrap IntKind.i64 (x8 - 1)))) (fun w11 =>
                  (onP (s) (fun a12 =>
                    (∃ x13 : Int, ((World.cell? w11 (Addr.add a12 5) = some (Value.int IntKind.i64 x13)) ∧ (ifK (x13 == 0)
                      (onP (s) (fun a14 =>
                        (∃ x15 : Int, ((World.cell? w11 (Addr.add a14 6) = some (Value.int IntKind.i64 x15)) ∧ (Ca Try.prog (18) (Array.mk [Value.pointer s, Value.int IntKind.i64 x15]) (w11) (fun v16 => (fun w17 =>
                          ((v16 = Value.tuple (Array.mk (List.reverse []))) ∧ (R (Value.int IntKind.i64 9) (w17))))))))))
                      (CaV Try.prog (does) (Array.mk []) (w11) (fun v18 => (fun w19 =>
                        ((v18 = Value.tuple (Array.mk (List.reverse []))) ∧ (R (Value.int IntKind.i64 0) (w19)))))))))))))))))))))
            (CaV Try.prog (does) (Array.mk []) (w4) (fun v20 => (fun w21 =>
              ((v20 = Value.tuple (Array.mk (List.reverse []))) ∧ (R (Value.int IntKind.i64 0) (w21)))))))))))))))))))))
theorem ca38 (s : Option Addr) (does : Value) (w : World) (R : Value → World → Prop) (h : W38 s does w R) : Ca Try.prog 38 ⟨[(.pointer s), does]⟩ w R := by
  have h1 : Try.prog.follows .mixedOrders = true := by kernel_rfl
  have h2 : Try.f38.body = some C38 := by kernel_rfl
  have h3 : (Try.f38.name == "runtime.NumGoroutine") = false := by kernel_rfl
  have h6 : Try.f38.results.toList = [.tmp 4] := by kernel_rfl
  have h4 : Nat.ble 2 37 = true := by kernel_rfl
  have h5 : okCode 37 pl38 ls38 C38 0 = true := by kernel_rfl
  have e : W38 s does w R = wpC none Try.prog 37 pl38 ls38 C38 0 (endP Try.prog [.tmp 4] R) (fr0 [(.pointer s), does]) [] w := by kernel_rfl
  exact ca_of' (P := Try.prog) (g := 38) (fn := Try.f38) (c := C38) (m := 37) (rs := [.tmp 4]) (args := [(.pointer s), does]) (pl := pl38) (ls := ls38) (w := w) (R := R) h1 Try.func38 h2 Try.ntmps38 h6 h3 h4 h5 (Eq.mp e h)

/-- (*staith/store.Store).Make$1 -/
noncomputable def C39 : Code := (Try.f39.body).getD .skip
def pl39 : Nat → Plan
  | 0 => (.quiet 0 (.quiet 1 (.quiet 2 (.quiet 3 (.quiet 4 (.quiet 5 (.eff 6 [0, 3, 4] (.eff 7 [] .done))))))))
  | _ => .done
def ls39 : Nat → List (Nat × LT) := fun _ => []
def W39 (c0 : Option Addr) (c1 : Option Addr) (w : World) (R : Value → World → Prop) : Prop :=
  (atW (World.drew w) (fun w0 =>
    (onP (c0) (fun a1 =>
      (∃ p2 : Option Addr, ((World.cell? w0 a1 = some (Value.pointer p2)) ∧ (onP (p2) (fun a3 =>
        (∃ p4 : Option Nat, ((World.cell? w0 (Addr.add a3 1) = some (Value.map p4)) ∧ (onP (c1) (fun a5 =>
          (∃ s6 : ByteArray, ((World.cell? w0 a5 = some (Value.string s6)) ∧ (atW (World.alloc w0 (Obj.cells (Array.mk [Value.slice none 0 0, Value.slice none 0 0]) 73 (0, 0))) (fun w7 =>
            (onP (c0) (fun a8 =>
              ((World.cell? w7 (Addr.add a8 0) = some (Value.pointer p2)) ∧ ((World.cell? w7 (Addr.add (Addr.add a3 1) 0) = some (Value.map p4)) ∧ (onP (c1) (fun a9 =>
                ((World.cell? w7 (Addr.add a9 0) = some (Value.string s6)) ∧ (∃ w10 : World, ((Sem.run Try.prog (Instr.mapUpdate 63 (Value.map p4) (Value.string s6) (Value.pointer (some (Addr.mk (Array.size (World.heap w0)) 0 none)))) w7 = Result.ok () w10) ∧ (R (Value.tuple (Array.mk (List.reverse []))) (w10)))))))))))))))))))))))))))
theorem ca39 (c0 : Option Addr) (c1 : Option Addr) (w : World) (R : Value → World → Prop) (h : W39 c0 c1 w R) : Ca Try.prog 39 ⟨[(.pointer c0), (.pointer c1)]⟩ w R := by
  have h1 : Try.prog.follows .mixedOrders = true := by kernel_rfl
  have h2 : Try.f39.body = some C39 := by kernel_rfl
  have h3 : (Try.f39.name == "runtime.NumGoroutine") = false := by kernel_rfl
  have h6 : Try.f39.results.toList = [] := by kernel_rfl
  have h4 : Nat.ble 2 9 = true := by kernel_rfl
  have h5 : okCode 9 pl39 ls39 C39 0 = true := by kernel_rfl
  have e : W39 c0 c1 w R = wpC none Try.prog 9 pl39 ls39 C39 0 (endP Try.prog [] R) (fr0 [(.pointer c0), (.pointer c1)]) [] w := by kernel_rfl
  exact ca_of' (P := Try.prog) (g := 39) (fn := Try.f39) (c := C39) (m := 9) (rs := []) (args := [(.pointer c0), (.pointer c1)]) (pl := pl39) (ls := ls39) (w := w) (R := R) h1 Try.func39 h2 Try.ntmps39 h6 h3 h4 h5 (Eq.mp e h)

/-- (*staith/store.Store).Write$1 -/
noncomputable def C40 : Code := (Try.f40.body).getD .skip
def pl40 : Nat → Plan
  | 0 => (.quiet 0 (.quiet 1 (.quiet 2 (.quiet 3 (.quiet 4 (.quiet 5 (.eff 6 [0] (.eff 7 [0] (.quiet 8 (.quiet 9 (.eff 10 [] .done)))))))))))
  | _ => .done
def ls40 : Nat → List (Nat × LT) := fun _ => []
def W40 (c0 : Option Addr) (c1 : Option Addr) (w : World) (R : Value → World → Prop) : Prop :=
  (atW (World.drew w) (fun w0 =>
    (onP (c0) (fun a1 =>
      (∃ p2 : Option Addr, ((World.cell? w0 a1 = some (Value.pointer p2)) ∧ (onP (c0) (fun a3 =>
        (∃ p4 : Option Addr, ((World.cell? w0 a3 = some (Value.pointer p4)) ∧ (onP (p4) (fun a5 =>
          (∃ p6 : Option Addr, (∃ n7 : Nat, (∃ n8 : Nat, ((World.cell? w0 (Addr.add a5 0) = some (Value.slice p6 n7 n8)) ∧ (onP (c1) (fun a9 =>
            (∃ p10 : Option Addr, (∃ n11 : Nat, (∃ n12 : Nat, ((World.cell? w0 a9 = some (Value.slice p10 n11 n12)) ∧ (atW (World.alloc w0 (Obj.cells (Array.mk [Value.slice p6 n7 n8, Value.slice p10 n11 n12]) 24 (0, 0))) (fun w13 =>
              (onP (c0) (fun a14 =>
                ((World.cell? w13 (Addr.add a14 0) = some (Value.pointer p2)) ∧ (Ca Try.prog (41) (Array.mk [Value.slice (some (Addr.mk (Array.size (World.heap w0)) 0 none)) 2 2]) (w13) (fun v15 => (fun w16 =>
                  (∃ p17 : Option Addr, (∃ n18 : Nat, (∃ n19 : Nat, ((v15 = Value.slice p17 n18 n19) ∧ (onP (c0) (fun a20 =>
                    ((World.cell? w16 (Addr.add a20 0) = some (Value.pointer p2)) ∧ (onP (p2) (fun a21 =>
                      ((∃ v22 : Value, (World.cell? w16 (Addr.add (Addr.add a21 0) 0) = some v22)) ∧ ((World.frozen? w16 (Addr.add (Addr.add a21 0) 0) = false) ∧ (atW (World.setCell w16 (Addr.add (Addr.add a21 0) 0) (Value.slice p17 n18 n19)) (fun w23 =>
                        (R (Value.tuple (Array.mk (List.reverse []))) (w23)))))))))))))))))))))))))))))))))))))))))))))
theorem ca40 (c0 : Option Addr) (c1 : Option Addr) (w : World) (R : Value → World → Prop) (h : W40 c0 c1 w R) : Ca Try.prog 40 ⟨[(.pointer c0), (.pointer c1)]⟩ w R := by
  have h1 : Try.prog.follows .mixedOrders = true := by kernel_rfl
  have h2 : Try.f40.body = some C40 := by kernel_rfl
  have h3 : (Try.f40.name == "runtime.NumGoroutine") = false := by kernel_rfl
  have h6 : Try.f40.results.toList = [] := by kernel_rfl
  have h4 : Nat.ble 2 12 = true := by kernel_rfl
  have h5 : okCode 12 pl40 ls40 C40 0 = true := by kernel_rfl
  have e : W40 c0 c1 w R = wpC none Try.prog 12 pl40 ls40 C40 0 (endP Try.prog [] R) (fr0 [(.pointer c0), (.pointer c1)]) [] w := by kernel_rfl
  exact ca_of' (P := Try.prog) (g := 40) (fn := Try.f40) (c := C40) (m := 12) (rs := []) (args := [(.pointer c0), (.pointer c1)]) (pl := pl40) (ls := ls40) (w := w) (R := R) h1 Try.func40 h2 Try.ntmps40 h6 h3 h4 h5 (Eq.mp e h)

/-- (*staith/store.Store).Sync$1 -/
noncomputable def C42 : Code := (Try.f42.body).getD .skip
def pl42 : Nat → Plan
  | 0 => (.quiet 0 (.quiet 1 (.quiet 2 (.quiet 3 (.quiet 4 (.quiet 5 (.quiet 6 (.eff 7 [] .done))))))))
  | _ => .done
def ls42 : Nat → List (Nat × LT) := fun _ => []
def W42 (c0 : Option Addr) (w : World) (R : Value → World → Prop) : Prop :=
  (atW (World.drew w) (fun w0 =>
    (onP (c0) (fun a1 =>
      (∃ p2 : Option Addr, ((World.cell? w0 a1 = some (Value.pointer p2)) ∧ (onP (c0) (fun a3 =>
        (∃ p4 : Option Addr, ((World.cell? w0 a3 = some (Value.pointer p4)) ∧ (onP (p4) (fun a5 =>
          (∃ p6 : Option Addr, (∃ n7 : Nat, (∃ n8 : Nat, ((World.cell? w0 (Addr.add a5 0) = some (Value.slice p6 n7 n8)) ∧ (onP (p2) (fun a9 =>
            ((∃ v10 : Value, (World.cell? w0 (Addr.add (Addr.add a9 1) 0) = some v10)) ∧ ((World.frozen? w0 (Addr.add (Addr.add a9 1) 0) = false) ∧ (atW (World.setCell w0 (Addr.add (Addr.add a9 1) 0) (Value.slice p6 n7 n8)) (fun w11 =>
              (R (Value.tuple (Array.mk (List.reverse []))) (w11))))))))))))))))))))))))
theorem ca42 (c0 : Option Addr) (w : World) (R : Value → World → Prop) (h : W42 c0 w R) : Ca Try.prog 42 ⟨[(.pointer c0)]⟩ w R := by
  have h1 : Try.prog.follows .mixedOrders = true := by kernel_rfl
  have h2 : Try.f42.body = some C42 := by kernel_rfl
  have h3 : (Try.f42.name == "runtime.NumGoroutine") = false := by kernel_rfl
  have h6 : Try.f42.results.toList = [] := by kernel_rfl
  have h4 : Nat.ble 1 8 = true := by kernel_rfl
  have h5 : okCode 8 pl42 ls42 C42 0 = true := by kernel_rfl
  have e : W42 c0 w R = wpC none Try.prog 8 pl42 ls42 C42 0 (endP Try.prog [] R) (fr0 [(.pointer c0)]) [] w := by kernel_rfl
  exact ca_of' (P := Try.prog) (g := 42) (fn := Try.f42) (c := C42) (m := 8) (rs := []) (args := [(.pointer c0)]) (pl := pl42) (ls := ls42) (w := w) (R := R) h1 Try.func42 h2 Try.ntmps42 h6 h3 h4 h5 (Eq.mp e h)

/-- (*staith/store.Store).power -/
noncomputable def C43 : Code := (Try.f43.body).getD .skip
def pl43 : Nat → Plan := fun _ => .done
def ls43 : Nat → List (Nat × LT) := fun _ => []
def W43 (s : Option Addr) (w : World) (R : Value → World → Prop) : Prop :=
  (ifK (Option.isNone s)
    (R (Value.int IntKind.i64 1) (w))
    (onP (s) (fun a0 =>
      (∃ p1 : Option Nat, ((World.cell? w (Addr.add a0 1) = some (Value.map p1)) ∧ (ifK (Option.isNone p1)
        (R (Value.int IntKind.i64 1) (w))
        (onP (s) (fun a2 =>
          (∃ b3 : Bool, ((World.cell? w (Addr.add a2 3) = some (Value.bool b3)) ∧ (ifK (b3)
            (R (Value.int IntKind.i64 9) (w))
            (R (Value.int IntKind.i64 0) (w)))))))))))))
theorem ca43 (s : Option Addr) (w : World) (R : Value → World → Prop) (h : W43 s w R) : Ca Try.prog 43 ⟨[(.pointer s)]⟩ w R := by
  have h1 : Try.prog.follows .mixedOrders = true := by kernel_rfl
  have h2 : Try.f43.body = some C43 := by kernel_rfl
  have h3 : (Try.f43.name == "runtime.NumGoroutine") = false := by kernel_rfl
  have h6 : Try.f43.results.toList = [.tmp 2] := by kernel_rfl
  have h4 : Nat.ble 1 18 = true := by kernel_rfl
  have h5 : okCode 18 pl43 ls43 C43 0 = true := by kernel_rfl
  have e : W43 s w R = wpC none Try.prog 18 pl43 ls43 C43 0 (endP Try.prog [.tmp 2] R) (fr0 [(.pointer s)]) [] w := by kernel_rfl
  exact ca_of' (P := Try.prog) (g := 43) (fn := Try.f43) (c := C43) (m := 18) (rs := [.tmp 2]) (args := [(.pointer s)]) (pl := pl43) (ls := ls43) (w := w) (R := R) h1 Try.func43 h2 Try.ntmps43 h6 h3 h4 h5 (Eq.mp e h)

/-- (*staith/store.Store).Commit$1 -/
noncomputable def C44 : Code := (Try.f44.body).getD .skip
def pl44 : Nat → Plan
  | 0 => (.quiet 0 (.quiet 1 (.quiet 2 (.quiet 3 (.quiet 4 (.eff 5 [0] (.quiet 6 (.quiet 7 (.eff 8 [] .done)))))))))
  | _ => .done
def ls44 : Nat → List (Nat × LT) := fun _ => []
def W44 (c0 : Option Addr) (w : World) (R : Value → World → Prop) : Prop :=
  (atW (World.drew w) (fun w0 =>
    (onP (c0) (fun a1 =>
      (∃ p2 : Option Addr, ((World.cell? w0 a1 = some (Value.pointer p2)) ∧ (onP (c0) (fun a3 =>
        (∃ p4 : Option Addr, ((World.cell? w0 a3 = some (Value.pointer p4)) ∧ (onP (p4) (fun a5 =>
          (∃ p6 : Option Nat, ((World.cell? w0 (Addr.add a5 1) = some (Value.map p6)) ∧ (Ca Try.prog (45) (Array.mk [Value.map p6]) (w0) (fun v7 => (fun w8 =>
            (∃ p9 : Option Nat, ((v7 = Value.map p9) ∧ (onP (c0) (fun a10 =>
              ((World.cell? w8 (Addr.add a10 0) = some (Value.pointer p2)) ∧ (onP (p2) (fun a11 =>
                ((∃ v12 : Value, (World.cell? w8 (Addr.add (Addr.add a11 2) 0) = some v12)) ∧ ((World.frozen? w8 (Addr.add (Addr.add a11 2) 0) = false) ∧ (atW (World.setCell w8 (Addr.add (Addr.add a11 2) 0) (Value.map p9)) (fun w13 =>
                  (R (Value.tuple (Array.mk (List.reverse []))) (w13))))))))))))))))))))))))))))))
theorem ca44 (c0 : Option Addr) (w : World) (R : Value → World → Prop) (h : W44 c0 w R) : Ca Try.prog 44 ⟨[(.pointer c0)]⟩ w R := by
  have h1 : Try.prog.follows .mixedOrders = true := by kernel_rfl
  have h2 : Try.f44.body = some C44 := by kernel_rfl
  have h3 : (Try.f44.name == "runtime.NumGoroutine") = false := by kernel_rfl
  have h6 : Try.f44.results.toList = [] := by kernel_rfl
  have h4 : Nat.ble 1 9 = true := by kernel_rfl
  have h5 : okCode 9 pl44 ls44 C44 0 = true := by kernel_rfl
  have e : W44 c0 w R = wpC none Try.prog 9 pl44 ls44 C44 0 (endP Try.prog [] R) (fr0 [(.pointer c0)]) [] w := by kernel_rfl
  exact ca_of' (P := Try.prog) (g := 44) (fn := Try.f44) (c := C44) (m := 9) (rs := []) (args := [(.pointer c0)]) (pl := pl44) (ls := ls44) (w := w) (R := R) h1 Try.func44 h2 Try.ntmps44 h6 h3 h4 h5 (Eq.mp e h)

/-- (*staith/store.Store).Move$1 -/
noncomputable def C51 : Code := (Try.f51.body).getD .skip
def pl51 : Nat → Plan
  | 0 => (.quiet 0 (.quiet 1 (.quiet 2 (.quiet 3 (.quiet 4 (.eff 5 [] .done))))))
  | 1 => (.quiet 0 (.quiet 1 (.quiet 2 (.quiet 3 (.quiet 4 (.quiet 5 (.eff 6 [] .done)))))))
  | _ => .done
def ls51 : Nat → List (Nat × LT) := fun _ => []
def W51 (c0 : Option Addr) (c1 : Option Addr) (c2 : Option Addr) (c3 : Option Addr) (w : World) (R : Value → World → Prop) : Prop :=
  (atW (World.drew w) (fun w0 =>
    (onP (c0) (fun a1 =>
      (∃ p2 : Option Addr, ((World.cell? w0 a1 = some (Value.pointer p2)) ∧ (onP (p2) (fun a3 =>
        (∃ p4 : Option Nat, ((World.cell? w0 (Addr.add a3 1) = some (Value.map p4)) ∧ (onP (c1) (fun a5 =>
          (∃ s6 : ByteArray, ((World.cell? w0 a5 = some (Value.string s6)) ∧ (∃ v7 : Value, (∃ w8 : World, ((Sem.run Try.prog (Builtin.delete_ (Array.mk [63, 9]) 0 (Array.mk [Value.map p4, Value.string s6])) w0 = Result.ok v7 w8) ∧ ((v7 = Value.tuple (Array.mk (List.reverse []))) ∧ (atW (World.drew w8) (fun w9 =>
            (onP (c0) (fun a10 =>
              (∃ p11 : Option Addr, ((World.cell? w9 a10 = some (Value.pointer p11)) ∧ (onP (p11) (fun a12 =>
                (∃ p13 : Option Nat, ((World.cell? w9 (Addr.add a12 1) = some (Value.map p13)) ∧ (onP (c3) (fun a14 =>
                  (∃ s15 : ByteArray, ((World.cell? w9 a14 = some (Value.string s15)) ∧ (onP (c2) (fun a16 =>
                    (∃ p17 : Option Addr, ((World.cell? w9 a16 = some (Value.pointer p17)) ∧ (∃ w18 : World, ((Sem.run Try.prog (Instr.mapUpdate 63 (Value.map p13) (Value.string s15) (Value.pointer p17)) w9 = Result.ok () w18) ∧ (R (Value.tuple (Array.mk (List.reverse []))) (w18))))))))))))))))))))))))))))))))))))))))
theorem ca51 (c0 : Option Addr) (c1 : Option Addr) (c2 : Option Addr) (c3 : Option Addr) (w : World) (R : Value → World → Prop) (h : W51 c0 c1 c2 c3 w R) : Ca Try.prog 51 ⟨[(.pointer c0), (.pointer c1), (.pointer c2), (.pointer c3)]⟩ w R := by
  have h1 : Try.prog.follows .mixedOrders = true := by kernel_rfl
  have h2 : Try.f51.body = some C51 := by kernel_rfl
  have h3 : (Try.f51.name == "runtime.NumGoroutine") = false := by kernel_rfl
  have h6 : Try.f51.results.toList = [] := by kernel_rfl
  have h4 : Nat.ble 4 15 = true := by kernel_rfl
  have h5 : okCode 15 pl51 ls51 C51 0 = true := by kernel_rfl
  have e : W51 c0 c1 c2 c3 w R = wpC none Try.prog 15 pl51 ls51 C51 0 (endP Try.prog [] R) (fr0 [(.pointer c0), (.pointer c1), (.pointer c2), (.pointer c3)]) [] w := by kernel_rfl
  exact ca_of' (P := Try.prog) (g := 51) (fn := Try.f51) (c := C51) (m := 15) (rs := []) (args := [(.pointer c0), (.pointer c1), (.pointer c2), (.pointer c3)]) (pl := pl51) (ls := ls51) (w := w) (R := R) h1 Try.func51 h2 Try.ntmps51 h6 h3 h4 h5 (Eq.mp e h)

/-- (*staith/store.Store).Cut$1 -/
noncomputable def C52 : Code := (Try.f52.body).getD .skip
def pl52 : Nat → Plan
  | 0 => (.quiet 0 (.quiet 1 (.quiet 2 (.quiet 3 (.quiet 4 (.quiet 5 (.quiet 6 (.eff 7 [0] (.quiet 8 (.quiet 9 (.eff 10 [] .done)))))))))))
  | _ => .done
def ls52 : Nat → List (Nat × LT) := fun _ => []
def W52 (c0 : Option Addr) (c1 : Option Addr) (w : World) (R : Value → World → Prop) : Prop :=
  (atW (World.drew w) (fun w0 =>
    (onP (c0) (fun a1 =>
      (∃ p2 : Option Addr, ((World.cell? w0 a1 = some (Value.pointer p2)) ∧ (onP (c0) (fun a3 =>
        (∃ p4 : Option Addr, ((World.cell? w0 a3 = some (Value.pointer p4)) ∧ (onP (p4) (fun a5 =>
          (∃ p6 : Option Addr, (∃ n7 : Nat, (∃ n8 : Nat, ((World.cell? w0 (Addr.add a5 0) = some (Value.slice p6 n7 n8)) ∧ (onP (c1) (fun a9 =>
            (∃ x10 : Int, ((World.cell? w0 a9 = some (Value.int IntKind.i64 x10)) ∧ (((0 : Int) ≤ 0) ∧ (((0 : Int) ≤ x10) ∧ (((x10 : Int) ≤ (↑n8 : Int)) ∧ (Ca Try.prog (48) (Array.mk [Value.slice (if n8 = 0 then p6 else Option.map (fun x => Addr.add x 0) p6) (Int.toNat x10 - 0) (n8 - 0)]) (w0) (fun v11 => (fun w12 =>
              (∃ p13 : Option Addr, (∃ n14 : Nat, (∃ n15 : Nat, ((v11 = Value.slice p13 n14 n15) ∧ (onP (c0) (fun a16 =>
                ((World.cell? w12 (Addr.add a16 0) = some (Value.pointer p2)) ∧ (onP (p2) (fun a17 =>
                  ((∃ v18 : Value, (World.cell? w12 (Addr.add (Addr.add a17 0) 0) = some v18)) ∧ ((World.frozen? w12 (Addr.add (Addr.add a17 0) 0) = false) ∧ (atW (World.setCell w12 (Addr.add (Addr.add a17 0) 0) (Value.slice p13 n14 n15)) (fun w19 =>
                    (R (Value.tuple (Array.mk (List.reverse []))) (w19)))))))))))))))))))))))))))))))))))))))))
theorem ca52 (c0 : Option Addr) (c1 : Option Addr) (w : World) (R : Value → World → Prop) (h : W52 c0 c1 w R) : Ca Try.prog 52 ⟨[(.pointer c0), (.pointer c1)]⟩ w R := by
  have h1 : Try.prog.follows .mixedOrders = true := by kernel_rfl
  have h2 : Try.f52.body = some C52 := by kernel_rfl
  have h3 : (Try.f52.name == "runtime.NumGoroutine") = false := by kernel_rfl
  have h6 : Try.f52.results.toList = [] := by kernel_rfl
  have h4 : Nat.ble 2 12 = true := by kernel_rfl
  have h5 : okCode 12 pl52 ls52 C52 0 = true := by kernel_rfl
  have e : W52 c0 c1 w R = wpC none Try.prog 12 pl52 ls52 C52 0 (endP Try.prog [] R) (fr0 [(.pointer c0), (.pointer c1)]) [] w := by kernel_rfl
  exact ca_of' (P := Try.prog) (g := 52) (fn := Try.f52) (c := C52) (m := 12) (rs := []) (args := [(.pointer c0), (.pointer c1)]) (pl := pl52) (ls := ls52) (w := w) (R := R) h1 Try.func52 h2 Try.ntmps52 h6 h3 h4 h5 (Eq.mp e h)

/-- (*staith/store.Store).Drop$1 -/
noncomputable def C53 : Code := (Try.f53.body).getD .skip
def pl53 : Nat → Plan
  | 0 => (.quiet 0 (.quiet 1 (.quiet 2 (.quiet 3 (.quiet 4 (.eff 5 [] .done))))))
  | _ => .done
def ls53 : Nat → List (Nat × LT) := fun _ => []
def W53 (c0 : Option Addr) (c1 : Option Addr) (w : World) (R : Value → World → Prop) : Prop :=
  (atW (World.drew w) (fun w0 =>
    (onP (c0) (fun a1 =>
      (∃ p2 : Option Addr, ((World.cell? w0 a1 = some (Value.pointer p2)) ∧ (onP (p2) (fun a3 =>
        (∃ p4 : Option Nat, ((World.cell? w0 (Addr.add a3 1) = some (Value.map p4)) ∧ (onP (c1) (fun a5 =>
          (∃ s6 : ByteArray, ((World.cell? w0 a5 = some (Value.string s6)) ∧ (∃ v7 : Value, (∃ w8 : World, ((Sem.run Try.prog (Builtin.delete_ (Array.mk [63, 9]) 0 (Array.mk [Value.map p4, Value.string s6])) w0 = Result.ok v7 w8) ∧ ((v7 = Value.tuple (Array.mk (List.reverse []))) ∧ (R (Value.tuple (Array.mk (List.reverse []))) (w8))))))))))))))))))))
theorem ca53 (c0 : Option Addr) (c1 : Option Addr) (w : World) (R : Value → World → Prop) (h : W53 c0 c1 w R) : Ca Try.prog 53 ⟨[(.pointer c0), (.pointer c1)]⟩ w R := by
  have h1 : Try.prog.follows .mixedOrders = true := by kernel_rfl
  have h2 : Try.f53.body = some C53 := by kernel_rfl
  have h3 : (Try.f53.name == "runtime.NumGoroutine") = false := by kernel_rfl
  have h6 : Try.f53.results.toList = [] := by kernel_rfl
  have h4 : Nat.ble 2 7 = true := by kernel_rfl
  have h5 : okCode 7 pl53 ls53 C53 0 = true := by kernel_rfl
  have e : W53 c0 c1 w R = wpC none Try.prog 7 pl53 ls53 C53 0 (endP Try.prog [] R) (fr0 [(.pointer c0), (.pointer c1)]) [] w := by kernel_rfl
  exact ca_of' (P := Try.prog) (g := 53) (fn := Try.f53) (c := C53) (m := 7) (rs := []) (args := [(.pointer c0), (.pointer c1)]) (pl := pl53) (ls := ls53) (w := w) (R := R) h1 Try.func53 h2 Try.ntmps53 h6 h3 h4 h5 (Eq.mp e h)
end Go.Proofs.Ytemklabamlifdaa

/- Contracts of the store's functions: which names are good. -/
namespace Go.Proofs.Ytemklabamlifdaa
open Go Go.Proofs.Ytemklabamlifdaa.St

def gch (i c : Nat) : Bool := (decide (97 ≤ c) && decide (c ≤ 122)) || (!(i == 0) && (c == 46 || (decide (48 ≤ c) && decide (c ≤ 57))))
def goodL (s : ByteArray) : Bool := (List.range s.size).all fun i => gch i (byteAt s i).toNat
def goodB (s : ByteArray) : Bool := goodL s && (decide (0 < s.size) && decide (s.size ≤ 30))

theorem goodL_of {s : ByteArray} (h : ∀ i, i < s.size → gch i (byteAt s i).toNat = true) : goodL s = true := by
  rw [goodL, List.all_eq_true]
  intro i hi
  exact h i (List.mem_range.1 hi)
theorem goodL_not {s : ByteArray} {i : Nat} (hi : i < s.size) (h : gch i (byteAt s i).toNat = false) : goodL s = false := by
  cases hg : goodL s with
  | false => rfl
  | true =>
    rw [goodL, List.all_eq_true] at hg
    have := hg i (List.mem_range.2 hi)
    rw [h] at this
    cases this

theorem goodR_ok (s : ByteArray) (w : World) (hs : s.size < 4611686018427387904) (R : Value → World → Prop) (h : R (.bool (goodB s)) w) : Ca Try.prog 11 #[.string s] w R := by
  refine ca11 s w R ?_
  refine ⟨fun x w' => ∃ i : Nat, x = i ∧ i ≤ s.size ∧ w' = w ∧ ∀ k, k < i → gch k (byteAt s k).toNat = true, fun x _ => ((s.size : Int) - x).toNat, ⟨0, rfl, Nat.zero_le _, rfl, fun k hk => by omega⟩, ?_⟩
  rintro _ _ _ ⟨i, rfl, hi, rfl, hall⟩
  rename_i w
  have e1 : i < s.size → IntKind.i64.wrap ((i : Int) + 1) = ((i + 1 : Nat) : Int) := fun h => by rw [wrap64 (by omega) (by omega)]; rfl
  refine ifK_dec (fun hlt => ?_) (fun hge => ?_)
  · have hlt' : i < s.size := by omega
    refine ⟨by omega, hlt, ?_⟩
    rw [Int.toNat_natCast, e1 hlt']
    obtain ⟨c, hc⟩ : ∃ c : Nat, byteAt s i = (c : Int) := ⟨_, rfl⟩
    have bad : gch i c = false → R (.bool false) w := fun hb => by
      have : goodB s = false := by rw [goodB, goodL_not hlt' (by rw [hc]; exact hb), Bool.false_and]
      rwa [this] at h
    have next : gch i c = true → (∃ i' : Nat, ((i + 1 : Nat) : Int) = i' ∧ i' ≤ s.size ∧ w = w ∧ ∀ k, k < i' → gch k (byteAt s k).toNat = true) ∧ ((s.size : Int) - ((i + 1 : Nat) : Int)).toNat < ((s.size : Int) - (i : Int)).toNat := fun hg => by
      refine ⟨⟨i + 1, rfl, hlt', rfl, fun k hk => ?_⟩, by omega⟩
      by_cases e : k = i
      · subst e; rw [hc]; exact hg
      · exact hall k (by omega)
    rw [hc]
    clear e1 hall
    repeat' first
      | refine ifK_dec (fun _ => ?_) (fun _ => ?_)
      | refine ifK_eq (fun _ => ?_) (fun _ => ?_)
      | refine ifK_not (fun _ => ?_) (fun _ => ?_)
    all_goals first
      | exact bad (by rw [Bool.eq_false_iff]; simp_all [gch]; omega)
      | exact next (by simp_all [gch]; omega)
      | exact bad (by simp_all [gch])
      | exact next (by simp_all [gch])
  · have hg : goodL s = true := goodL_of fun k hk => hall k (by omega)
    refine ifK_dec (fun h1 => ?_) (fun h1 => ?_)
    · have : goodB s = decide ((s.size : Int) ≤ 30) := by
        have h2 : 0 < s.size := by omega
        rw [goodB, hg, Bool.true_and, decide_eq_true h2, Bool.true_and, Bool.eq_iff_iff]
        simp
        omega
      rwa [this] at h
    · have : goodB s = false := by
        have h2 : ¬ 0 < s.size := by omega
        rw [goodB, decide_eq_false h2, Bool.false_and, Bool.and_false]
      rwa [this] at h

theorem good_ok (s : ByteArray) (w : World) (hs : s.size < 4611686018427387904) (R : Value → World → Prop) (h : ∀ w', Mod no w w' → R (.bool (goodB s)) w') : Ca Try.prog 10 #[.string s] w R := by
  refine ca10 s w R ?_
  refine ⟨_, _, run_bytes_of_string w _ _ 5 s Try.underlying9 Try.underlying24 Try.underlying5, _, _, _, rfl, ?_⟩
  have m1 : Mod no w (w.drew.alloc (.cells (bytesRow s (grownCap w s.size 0 5)) 5 ((bytesRow s (grownCap w s.size 0 5)).size, (bytesRow s (grownCap w s.size 0 5)).size + 1))) := (Mod.drew w).trans (Mod.alloc _ _)
  have b1 : (w.drew.alloc (.cells (bytesRow s (grownCap w s.size 0 5)) 5 ((bytesRow s (grownCap w s.size 0 5)).size, (bytesRow s (grownCap w s.size 0 5)).size + 1))).heap[w.heap.size]? = some (.cells (bytesRow s (grownCap w s.size 0 5)) 5 ((bytesRow s (grownCap w s.size 0 5)).size, (bytesRow s (grownCap w s.size 0 5)).size + 1)) := new_at w.drew _
  generalize (w.drew.alloc (.cells (bytesRow s (grownCap w s.size 0 5)) 5 ((bytesRow s (grownCap w s.size 0 5)).size, (bytesRow s (grownCap w s.size 0 5)).size + 1))) = w1 at m1 b1
  generalize hG : bytesRow s (grownCap w s.size 0 5) = row at b1
  have hrow : ∀ i, i < s.size → row[i]? = some (.int .u8 (byteAt s i)) := fun i hi => by
    rw [← hG, bytesRow_at s _ i hi]
    simp only [byteAt, Array.getElem?_eq_getElem (show i < s.data.size from hi), Option.getD_some]
  have h := h w1 m1
  clear hG m1
  refine ⟨fun x w' => ∃ i : Nat, x = i ∧ i ≤ s.size ∧ w' = w1 ∧ ∀ k, k < i → gch k (byteAt s k).toNat = true, fun x _ => ((s.size : Int) - x).toNat, ⟨0, rfl, Nat.zero_le _, rfl, fun k hk => by omega⟩, ?_⟩
  rintro _ _ _ ⟨i, rfl, hi, rfl, hall⟩
  rename_i w1
  have e1 : i < s.size → IntKind.i64.wrap ((i : Int) + 1) = ((i + 1 : Nat) : Int) := fun h => by rw [wrap64 (by omega) (by omega)]; rfl
  refine ifK_dec (fun hlt => ?_) (fun hge => ?_)
  · have hlt' : i < s.size := by omega
    refine ⟨_, rfl, by omega, hlt, byteAt s i, ?_, ?_⟩
    · rw [Int.toNat_natCast, Nat.mul_one, cl1 b1, hrow i hlt']
    rw [e1 hlt']
    obtain ⟨c, hc⟩ : ∃ c : Nat, byteAt s i = (c : Int) := ⟨_, rfl⟩
    have bad : gch i c = false → R (.bool false) w1 := fun hb => by
      have : goodB s = false := by rw [goodB, goodL_not hlt' (by rw [hc]; exact hb), Bool.false_and]
      rwa [this] at h
    have next : gch i c = true → (∃ i' : Nat, ((i + 1 : Nat) : Int) = i' ∧ i' ≤ s.size ∧ w1 = w1 ∧ ∀ k, k < i' → gch k (byteAt s k).toNat = true) ∧ ((s.size : Int) - ((i + 1 : Nat) : Int)).toNat < ((s.size : Int) - (i : Int)).toNat := fun hg => by
      refine ⟨⟨i + 1, rfl, hlt', rfl, fun k hk => ?_⟩, by omega⟩
      by_cases e : k = i
      · subst e; rw [hc]; exact hg
      · exact hall k (by omega)
    rw [hc]
    clear e1 hall
    repeat' first
      | refine ifK_dec (fun _ => ?_) (fun _ => ?_)
      | refine ifK_eq (fun _ => ?_) (fun _ => ?_)
      | refine ifK_not (fun _ => ?_) (fun _ => ?_)
    all_goals first
      | exact bad (by rw [Bool.eq_false_iff]; simp_all [gch]; omega)
      | exact next (by simp_all [gch]; omega)
      | exact bad (by simp_all [gch])
      | exact next (by simp_all [gch])
  · have hg : goodL s = true := goodL_of fun k hk => hall k (by omega)
    rw [bytes_empty]
    refine ifK_not (fun h1 => ?_) (fun h1 => ?_)
    · have : goodB s = decide ((s.size : Int) ≤ 30) := by
        have h2 : 0 < s.size := by have := of_decide_eq_false h1; omega
        rw [goodB, hg, Bool.true_and, decide_eq_true h2, Bool.true_and, Bool.eq_iff_iff]
        simp
        omega
      rwa [this] at h
    · have : goodB s = false := by
        have h2 : ¬ 0 < s.size := by have := of_decide_eq_true h1; omega
        rw [goodB, decide_eq_false h2, Bool.false_and, Bool.and_false]
      rwa [this] at h
end Go.Proofs.Ytemklabamlifdaa

/- The formulas of functions, printed by a program of mine (gen.py) out of the translation. -/
namespace Go.Proofs.Ytemklabamlifdaa
open Go Go.Proofs.Ytemklabamlifdaa.St
set_option maxRecDepth 100000

/-- (*staith/store.Store).Names -/
noncomputable def C23 : Code := (Try.f23.body).getD .skip
def pl23 : Nat → Plan := fun _ => .done
def ls23 : Nat → List (Nat × LT) := fun _ => []
def W23 (s : Option Addr) (w : World) (R : Value → World → Prop) : Prop :=
  (Ca Try.prog (26) (Array.mk [Value.pointer s]) (w) (fun v0 => (fun w1 =>
    (∃ b2 : Bool, ((v0 = Value.bool b2) ∧ (ifK (!b2)
      (R (Value.slice none 0 0) (w1))
      (onP (s) (fun a3 =>
        (∃ p4 : Option Nat, ((World.cell? w1 (Addr.add a3 1) = some (Value.map p4)) ∧ (Ca Try.prog (50) (Array.mk [Value.map p4]) (w1) (fun v5 => (fun w6 =>
          (∃ v7 : Value, ((v5 = v7) ∧ (Ca Try.prog (49) (Array.mk [v7]) (w6) (fun v8 => (fun w9 =>
            (∃ p10 : Option Addr, (∃ n11 : Nat, (∃ n12 : Nat, ((v8 = Value.slice p10 n11 n12) ∧ (R (Value.slice p10 n11 n12) (w9))))))))))))))))))))))))
theorem ca23 (s : Option Addr) (w : World) (R : Value → World → Prop) (h : W23 s w R) : Ca Try.prog 23 ⟨[(.pointer s)]⟩ w R := by
  have h1 : Try.prog.follows .mixedOrders = true := by kernel_rfl
  have h2 : Try.f23.body = some C23 := by kernel_rfl
  have h3 : (Try.f23.name == "runtime.NumGoroutine") = false := by kernel_rfl
  have h6 : Try.f23.results.toList = [.tmp 2] := by kernel_rfl
  have h4 : Nat.ble 1 12 = true := by kernel_rfl
  have h5 : okCode 12 pl23 ls23 C23 0 = true := by kernel_rfl
  have e : W23 s w R = wpC none Try.prog 12 pl23 ls23 C23 0 (endP Try.prog [.tmp 2] R) (fr0 [(.pointer s)]) [] w := by kernel_rfl
  exact ca_of' (P := Try.prog) (g := 23) (fn := Try.f23) (c := C23) (m := 12) (rs := [.tmp 2]) (args := [(.pointer s)]) (pl := pl23) (ls := ls23) (w := w) (R := R) h1 Try.func23 h2 Try.ntmps23 h6 h3 h4 h5 (Eq.mp e h)

/-- slices.Concat[[]byte,byte] -/
noncomputable def C41 : Code := (Try.f41.body).getD .skip
def pl41 : Nat → Plan := fun _ => .done
def ls41 : Nat → List (Nat × LT)
  | 4 => [(3, (.one (.int .i64))), (11, (.one (.int .i64)))]
  | 14 => [(6, (.one .slice)), (27, (.one (.int .i64)))]
  | _ => []
def W41 (slicesa : Option Addr) (slicesl : Nat) (_slicesc : Nat) (w : World) (R : Value → World → Prop) : Prop :=
  (∃ z0 : Int → Int → World → Prop, (∃ z1 : Int → Int → World → Nat, ((z0 (0) (0) (w)) ∧ (∀ (_ : Nat → Value), (∀ (x3 : Int), (∀ (x4 : Int), (∀ (w5 : World), ((z0 (x3) (x4) (w5)) → (ifK (decide (x4 < (↑slicesl : Int)))
    (∃ a6 : Addr, ((slicesa = some a6) ∧ (((0 : Int) ≤ x4) ∧ (((x4 : Int) < (↑slicesl : Int)) ∧ (∃ p7 : Option Addr, (∃ n8 : Nat, (∃ n9 : Nat, ((World.cell? w5 (Addr.add a6 (Int.toNat x4 * 1)) = some (Value.slice p7 n8 n9)) ∧ (ifK (decide (IntKind.wrap IntKind.i64 (x3 + (↑n8 : Int)) < 0))
      False
      ((z0 (IntKind.wrap IntKind.i64 (x3 + (↑n8 : Int))) (IntKind.wrap IntKind.i64 (x4 + 1)) (w5)) ∧ (z1 (IntKind.wrap IntKind.i64 (x3 + (↑n8 : Int))) (IntKind.wrap IntKind.i64 (x4 + 1)) w5 < z1 x3 x4 w5)))))))))))
    (Ca Try.prog (68) (Array.mk [Value.slice none 0 0, Value.int IntKind.i64 x3]) (w5) (fun v10 => (fun w11 =>
      (∃ p12 : Option Addr, (∃ n13 : Nat, (∃ n14 : Nat, ((v10 = Value.slice p12 n13 n14) ∧ (∃ z15 : Option Addr → Nat → Nat → Int → World → Prop, (∃ z16 : Option Addr → Nat → Nat → Int → World → Nat, ((z15 (p12) (n13) (n14) (0) (w11)) ∧ (∀ (_ : Nat → Value), (∀ (p18 : Option Addr), (∀ (n19 : Nat), (∀ (n20 : Nat), (∀ (x21 : Int), (∀ (w22 : World), ((z15 (p18) (n19) (n20) (x21) (w22)) → (ifK (decide (x21 < (↑slicesl : Int)))
        (∃ a23 : Addr, ((slicesa = some a23) ∧ (((0 : Int) ≤ x21) ∧ (((x21 : Int) < (↑slicesl : Int)) ∧ (∃ p24 : Option Addr, (∃ n25 : Nat, (∃ n26 : Nat, ((World.cell? w22 (Addr.add a23 (Int.toNat x21 * 1)) = some (Value.slice p24 n25 n26)) ∧ (∃ v27 : Value, (∃ w28 : World, ((Sem.run Try.prog (Builtin.append_ (Array.mk [24, 24]) 24 (Array.mk [Value.slice p18 n19 n20, Value.slice p24 n25 n26])) w22 = Result.ok v27 w28) ∧ (∃ p29 : Option Addr, (∃ n30 : Nat, (∃ n31 : Nat, ((v27 = Value.slice p29 n30 n31) ∧ ((z15 (p29) (n30) (n31) (IntKind.wrap IntKind.i64 (x21 + 1)) (w28)) ∧ (z16 p29 n30 n31 (IntKind.wrap IntKind.i64 (x21 + 1)) w28 < z16 p18 n19 n20 x21 w22)))))))))))))))))
        (R (Value.slice p18 n19 n20) (w22)))))))))))))))))))))))))))))
theorem ca41 (slicesa : Option Addr) (slicesl : Nat) (slicesc : Nat) (w : World) (R : Value → World → Prop) (h : W41 slicesa slicesl slicesc w R) : Ca Try.prog 41 ⟨[(.slice slicesa slicesl slicesc)]⟩ w R := by
  have h1 : Try.prog.follows .mixedOrders = true := by kernel_rfl
  have h2 : Try.f41.body = some C41 := by kernel_rfl
  have h3 : (Try.f41.name == "runtime.NumGoroutine") = false := by kernel_rfl
  have h6 : Try.f41.results.toList = [.tmp 2] := by kernel_rfl
  have h4 : Nat.ble 1 36 = true := by kernel_rfl
  have h5 : okCode 36 pl41 ls41 C41 0 = true := by kernel_rfl
  have e : W41 slicesa slicesl slicesc w R = wpC none Try.prog 36 pl41 ls41 C41 0 (endP Try.prog [.tmp 2] R) (fr0 [(.slice slicesa slicesl slicesc)]) [] w := by kernel_rfl
  exact ca_of' (P := Try.prog) (g := 41) (fn := Try.f41) (c := C41) (m := 36) (rs := [.tmp 2]) (args := [(.slice slicesa slicesl slicesc)]) (pl := pl41) (ls := ls41) (w := w) (R := R) h1 Try.func41 h2 Try.ntmps41 h6 h3 h4 h5 (Eq.mp e h)

/-- maps.Clone[staith/store.directory,string,*staith/store.file] -/
noncomputable def C45 : Code := (Try.f45.body).getD .skip
def pl45 : Nat → Plan := fun _ => .done
def ls45 : Nat → List (Nat × LT) := fun _ => []
def W45 (m : Option Nat) (w : World) (R : Value → World → Prop) : Prop :=
  (ifK (Option.isNone m)
    (R (Value.map none) (w))
    False)
theorem ca45 (m : Option Nat) (w : World) (R : Value → World → Prop) (h : W45 m w R) : Ca Try.prog 45 ⟨[(.map m)]⟩ w R := by
  have h1 : Try.prog.follows .mixedOrders = true := by kernel_rfl
  have h2 : Try.f45.body = some C45 := by kernel_rfl
  have h3 : (Try.f45.name == "runtime.NumGoroutine") = false := by kernel_rfl
  have h6 : Try.f45.results.toList = [.tmp 2] := by kernel_rfl
  have h4 : Nat.ble 1 9 = true := by kernel_rfl
  have h5 : okCode 9 pl45 ls45 C45 0 = true := by kernel_rfl
  have e : W45 m w R = wpC none Try.prog 9 pl45 ls45 C45 0 (endP Try.prog [.tmp 2] R) (fr0 [(.map m)]) [] w := by kernel_rfl
  exact ca_of' (P := Try.prog) (g := 45) (fn := Try.f45) (c := C45) (m := 9) (rs := [.tmp 2]) (args := [(.map m)]) (pl := pl45) (ls := ls45) (w := w) (R := R) h1 Try.func45 h2 Try.ntmps45 h6 h3 h4 h5 (Eq.mp e h)

/-- (*staith/store.Store).files -/
noncomputable def C46 : Code := (Try.f46.body).getD .skip
def pl46 : Nat → Plan := fun _ => .done
def ls46 : Nat → List (Nat × LT) := fun _ => []
def W46 (s : Option Addr) (w : World) (R : Value → World → Prop) : Prop :=
  (atW (World.alloc w (Obj.cells (Array.mk [Value.pointer s]) 25 (0, 0))) (fun w0 =>
    (R (Value.func (Fn.func 70) (Array.mk []) (Array.mk [Value.pointer (some (Addr.mk (Array.size (World.heap w)) 0 none))])) (w0))))
theorem ca46 (s : Option Addr) (w : World) (R : Value → World → Prop) (h : W46 s w R) : Ca Try.prog 46 ⟨[(.pointer s)]⟩ w R := by
  have h1 : Try.prog.follows .mixedOrders = true := by kernel_rfl
  have h2 : Try.f46.body = some C46 := by kernel_rfl
  have h3 : (Try.f46.name == "runtime.NumGoroutine") = false := by kernel_rfl
  have h6 : Try.f46.results.toList = [.tmp 2] := by kernel_rfl
  have h4 : Nat.ble 1 4 = true := by kernel_rfl
  have h5 : okCode 4 pl46 ls46 C46 0 = true := by kernel_rfl
  have e : W46 s w R = wpC none Try.prog 4 pl46 ls46 C46 0 (endP Try.prog [.tmp 2] R) (fr0 [(.pointer s)]) [] w := by kernel_rfl
  exact ca_of' (P := Try.prog) (g := 46) (fn := Try.f46) (c := C46) (m := 4) (rs := [.tmp 2]) (args := [(.pointer s)]) (pl := pl46) (ls := ls46) (w := w) (R := R) h1 Try.func46 h2 Try.ntmps46 h6 h3 h4 h5 (Eq.mp e h)

/-- slices.Equal[[]byte,byte] -/
noncomputable def C47 : Code := (Try.f47.body).getD .skip
def pl47 : Nat → Plan
  | 6 => (.quiet 0 (.quiet 1 (.quiet 2 (.quiet 3 (.quiet 4 (.quiet 5 (.quiet 6 (.quiet 7 (.quiet 8 .done)))))))))
  | _ => .done
def ls47 : Nat → List (Nat × LT)
  | 6 => [(13, (.one (.int .i64)))]
  | _ => []
def W47 (s1_a : Option Addr) (s1_l : Nat) (_s1_c : Nat) (s2_a : Option Addr) (s2_l : Nat) (_s2_c : Nat) (w : World) (R : Value → World → Prop) : Prop :=
  (ifK ((↑s1_l : Int) != (↑s2_l : Int))
    (R (Value.bool false) (w))
    (∃ z0 : Int → World → Prop, (∃ z1 : Int → World → Nat, ((z0 (0) (w)) ∧ (∀ (_ : Nat → Value), (∀ (x3 : Int), (∀ (w4 : World), ((z0 (x3) (w4)) → (ifK (decide (x3 < (↑s1_l : Int)))
      (atW (World.drew w4) (fun w5 =>
        (∃ a6 : Addr, ((s1_a = some a6) ∧ (((0 : Int) ≤ x3) ∧ (((x3 : Int) < (↑s1_l : Int)) ∧ (∃ x7 : Int, ((World.cell? w5 (Addr.add a6 (Int.toNat x3 * 1)) = some (Value.int IntKind.u8 x7)) ∧ (∃ a8 : Addr, ((s2_a = some a8) ∧ (((0 : Int) ≤ x3) ∧ (((x3 : Int) < (↑s2_l : Int)) ∧ (∃ x9 : Int, ((World.cell? w5 (Addr.add a8 (Int.toNat x3 * 1)) = some (Value.int IntKind.u8 x9)) ∧ (ifK (x7 != x9)
          (R (Value.bool false) (w5))
          ((z0 (IntKind.wrap IntKind.i64 (x3 + 1)) (w5)) ∧ (z1 (IntKind.wrap IntKind.i64 (x3 + 1)) w5 < z1 x3 w4)))))))))))))))))
      (R (Value.bool true) (w4)))))))))))
theorem ca47 (s1_a : Option Addr) (s1_l : Nat) (s1_c : Nat) (s2_a : Option Addr) (s2_l : Nat) (s2_c : Nat) (w : World) (R : Value → World → Prop) (h : W47 s1_a s1_l s1_c s2_a s2_l s2_c w R) : Ca Try.prog 47 ⟨[(.slice s1_a s1_l s1_c), (.slice s2_a s2_l s2_c)]⟩ w R := by
  have h1 : Try.prog.follows .mixedOrders = true := by kernel_rfl
  have h2 : Try.f47.body = some C47 := by kernel_rfl
  have h3 : (Try.f47.name == "runtime.NumGoroutine") = false := by kernel_rfl
  have h6 : Try.f47.results.toList = [.tmp 4] := by kernel_rfl
  have h4 : Nat.ble 2 26 = true := by kernel_rfl
  have h5 : okCode 26 pl47 ls47 C47 0 = true := by kernel_rfl
  have e : W47 s1_a s1_l s1_c s2_a s2_l s2_c w R = wpC none Try.prog 26 pl47 ls47 C47 0 (endP Try.prog [.tmp 4] R) (fr0 [(.slice s1_a s1_l s1_c), (.slice s2_a s2_l s2_c)]) [] w := by kernel_rfl
  exact ca_of' (P := Try.prog) (g := 47) (fn := Try.f47) (c := C47) (m := 26) (rs := [.tmp 4]) (args := [(.slice s1_a s1_l s1_c), (.slice s2_a s2_l s2_c)]) (pl := pl47) (ls := ls47) (w := w) (R := R) h1 Try.func47 h2 Try.ntmps47 h6 h3 h4 h5 (Eq.mp e h)

/-- slices.Clone[[]byte,byte] -/
noncomputable def C48 : Code := (Try.f48.body).getD .skip
def pl48 : Nat → Plan := fun _ => .done
def ls48 : Nat → List (Nat × LT) := fun _ => []
def W48 (sa : Option Addr) (sl : Nat) (sc : Nat) (w : World) (R : Value → World → Prop) : Prop :=
  (ifK (Option.isNone sa)
    (R (Value.slice none 0 0) (w))
    (atW (World.alloc w (Obj.cells (Array.mk []) 5 (0, 0))) (fun w0 =>
      (∃ v1 : Value, (∃ w2 : World, ((Sem.run Try.prog (Builtin.append_ (Array.mk [24, 24]) 24 (Array.mk [Value.slice (some (Addr.mk (Array.size (World.heap w)) 0 none)) 0 0, Value.slice sa sl sc])) w0 = Result.ok v1 w2) ∧ (∃ p3 : Option Addr, (∃ n4 : Nat, (∃ n5 : Nat, ((v1 = Value.slice p3 n4 n5) ∧ (R (Value.slice p3 n4 n5) (w2))))))))))))
theorem ca48 (sa : Option Addr) (sl : Nat) (sc : Nat) (w : World) (R : Value → World → Prop) (h : W48 sa sl sc w R) : Ca Try.prog 48 ⟨[(.slice sa sl sc)]⟩ w R := by
  have h1 : Try.prog.follows .mixedOrders = true := by kernel_rfl
  have h2 : Try.f48.body = some C48 := by kernel_rfl
  have h3 : (Try.f48.name == "runtime.NumGoroutine") = false := by kernel_rfl
  have h6 : Try.f48.results.toList = [.tmp 2] := by kernel_rfl
  have h4 : Nat.ble 1 8 = true := by kernel_rfl
  have h5 : okCode 8 pl48 ls48 C48 0 = true := by kernel_rfl
  have e : W48 sa sl sc w R = wpC none Try.prog 8 pl48 ls48 C48 0 (endP Try.prog [.tmp 2] R) (fr0 [(.slice sa sl sc)]) [] w := by kernel_rfl
  exact ca_of' (P := Try.prog) (g := 48) (fn := Try.f48) (c := C48) (m := 8) (rs := [.tmp 2]) (args := [(.slice sa sl sc)]) (pl := pl48) (ls := ls48) (w := w) (R := R) h1 Try.func48 h2 Try.ntmps48 h6 h3 h4 h5 (Eq.mp e h)

/-- slices.Sorted[string] -/
noncomputable def C49 : Code := (Try.f49.body).getD .skip
def pl49 : Nat → Plan := fun _ => .done
def ls49 : Nat → List (Nat × LT) := fun _ => []
def W49 (seq : Value) (w : World) (R : Value → World → Prop) : Prop :=
  (Ca Try.prog (71) (Array.mk [seq]) (w) (fun v0 => (fun w1 =>
    (∃ p2 : Option Addr, (∃ n3 : Nat, (∃ n4 : Nat, ((v0 = Value.slice p2 n3 n4) ∧ (Ca Try.prog (72) (Array.mk [Value.slice p2 n3 n4]) (w1) (fun v5 => (fun w6 =>
      ((v5 = Value.tuple (Array.mk (List.reverse []))) ∧ (R (Value.slice p2 n3 n4) (w6)))))))))))))
theorem ca49 (seq : Value) (w : World) (R : Value → World → Prop) (h : W49 seq w R) : Ca Try.prog 49 ⟨[seq]⟩ w R := by
  have h1 : Try.prog.follows .mixedOrders = true := by kernel_rfl
  have h2 : Try.f49.body = some C49 := by kernel_rfl
  have h3 : (Try.f49.name == "runtime.NumGoroutine") = false := by kernel_rfl
  have h6 : Try.f49.results.toList = [.tmp 2] := by kernel_rfl
  have h4 : Nat.ble 1 9 = true := by kernel_rfl
  have h5 : okCode 9 pl49 ls49 C49 0 = true := by kernel_rfl
  have e : W49 seq w R = wpC none Try.prog 9 pl49 ls49 C49 0 (endP Try.prog [.tmp 2] R) (fr0 [seq]) [] w := by kernel_rfl
  exact ca_of' (P := Try.prog) (g := 49) (fn := Try.f49) (c := C49) (m := 9) (rs := [.tmp 2]) (args := [seq]) (pl := pl49) (ls := ls49) (w := w) (R := R) h1 Try.func49 h2 Try.ntmps49 h6 h3 h4 h5 (Eq.mp e h)

/-- maps.Keys[staith/store.directory,string,*staith/store.file] -/
noncomputable def C50 : Code := (Try.f50.body).getD .skip
def pl50 : Nat → Plan := fun _ => .done
def ls50 : Nat → List (Nat × LT) := fun _ => []
def W50 (m : Option Nat) (w : World) (R : Value → World → Prop) : Prop :=
  (atW (World.alloc w (Obj.cells (Array.mk [Value.map m]) 63 (0, 0))) (fun w0 =>
    (R (Value.func (Fn.func 73) (Array.mk []) (Array.mk [Value.pointer (some (Addr.mk (Array.size (World.heap w)) 0 none))])) (w0))))
theorem ca50 (m : Option Nat) (w : World) (R : Value → World → Prop) (h : W50 m w R) : Ca Try.prog 50 ⟨[(.map m)]⟩ w R := by
  have h1 : Try.prog.follows .mixedOrders = true := by kernel_rfl
  have h2 : Try.f50.body = some C50 := by kernel_rfl
  have h3 : (Try.f50.name == "runtime.NumGoroutine") = false := by kernel_rfl
  have h6 : Try.f50.results.toList = [.tmp 2] := by kernel_rfl
  have h4 : Nat.ble 1 4 = true := by kernel_rfl
  have h5 : okCode 4 pl50 ls50 C50 0 = true := by kernel_rfl
  have e : W50 m w R = wpC none Try.prog 4 pl50 ls50 C50 0 (endP Try.prog [.tmp 2] R) (fr0 [(.map m)]) [] w := by kernel_rfl
  exact ca_of' (P := Try.prog) (g := 50) (fn := Try.f50) (c := C50) (m := 4) (rs := [.tmp 2]) (args := [(.map m)]) (pl := pl50) (ls := ls50) (w := w) (R := R) h1 Try.func50 h2 Try.ntmps50 h6 h3 h4 h5 (Eq.mp e h)

/-- slices.Grow[[]byte,byte] -/
noncomputable def C68 : Code := (Try.f68.body).getD .skip
def pl68 : Nat → Plan := fun _ => .done
def ls68 : Nat → List (Nat × LT) := fun _ => []
def W68 (sa : Option Addr) (sl : Nat) (sc : Nat) (n : Int) (w : World) (R : Value → World → Prop) : Prop :=
  (ifK (decide (n < 0))
    False
    (ifK (decide (IntKind.wrap IntKind.i64 (n - IntKind.wrap IntKind.i64 ((↑sc : Int) - (↑sl : Int))) > 0))
      (((0 : Int) ≤ 0) ∧ (((0 : Int) ≤ (↑sc : Int)) ∧ ((((↑sc : Int) : Int) ≤ (↑sc : Int)) ∧ (∃ v0 : Value, (∃ w1 : World, ((Sem.run Try.prog (Builtin.append_ (Array.mk [24, 3]) 24 (Array.mk [Value.slice (if sc = 0 then sa else Option.map (fun x => Addr.add x 0) sa) (Int.toNat (↑sc : Int) - 0) (sc - 0), Value.int IntKind.i64 (IntKind.wrap IntKind.i64 (n - IntKind.wrap IntKind.i64 ((↑sc : Int) - (↑sl : Int))))])) w = Result.ok v0 w1) ∧ (∃ p2 : Option Addr, (∃ n3 : Nat, (∃ n4 : Nat, ((v0 = Value.slice p2 n3 n4) ∧ (((0 : Int) ≤ 0) ∧ (((0 : Int) ≤ (↑sl : Int)) ∧ ((((↑sl : Int) : Int) ≤ (↑n4 : Int)) ∧ (R (Value.slice (if n4 = 0 then p2 else Option.map (fun x => Addr.add x 0) p2) (Int.toNat (↑sl : Int) - 0) (n4 - 0)) (w1)))))))))))))))
      (R (Value.slice sa sl sc) (w))))
theorem ca68 (sa : Option Addr) (sl : Nat) (sc : Nat) (n : Int) (w : World) (R : Value → World → Prop) (h : W68 sa sl sc n w R) : Ca Try.prog 68 ⟨[(.slice sa sl sc), (.int .i64 n)]⟩ w R := by
  have h1 : Try.prog.follows .mixedOrders = true := by kernel_rfl
  have h2 : Try.f68.body = some C68 := by kernel_rfl
  have h3 : (Try.f68.name == "runtime.NumGoroutine") = false := by kernel_rfl
  have h6 : Try.f68.results.toList = [.tmp 4] := by kernel_rfl
  have h4 : Nat.ble 2 27 = true := by kernel_rfl
  have h5 : okCode 27 pl68 ls68 C68 0 = true := by kernel_rfl
  have e : W68 sa sl sc n w R = wpC none Try.prog 27 pl68 ls68 C68 0 (endP Try.prog [.tmp 4] R) (fr0 [(.slice sa sl sc), (.int .i64 n)]) [] w := by kernel_rfl
  exact ca_of' (P := Try.prog) (g := 68) (fn := Try.f68) (c := C68) (m := 27) (rs := [.tmp 4]) (args := [(.slice sa sl sc), (.int .i64 n)]) (pl := pl68) (ls := ls68) (w := w) (R := R) h1 Try.func68 h2 Try.ntmps68 h6 h3 h4 h5 (Eq.mp e h)

/-- (*staith/store.Store).files$1 -/
noncomputable def C70 : Code := (Try.f70.body).getD .skip
def pl70 : Nat → Plan
  | 1 => (.quiet 0 (.quiet 1 (.quiet 2 (.quiet 3 (.quiet 4 (.quiet 5 (.quiet 6 (.quiet 7 (.quiet 8 (.quiet 9 .done))))))))))
  | _ => .done
def ls70 : Nat → List (Nat × LT)
  | 2 => [(18, (.one (.int .i64)))]
  | 8 => []
  | _ => []
def W70 (yield : Value) (c0 : Option Addr) (w : World) (R : Value → World → Prop) : Prop :=
  (atW (World.alloc w (Obj.map #[] 0)) (fun w0 =>
    (atW (World.drew w0) (fun w1 =>
      (onP (c0) (fun a2 =>
        (∃ p3 : Option Addr, ((World.cell? w1 a2 = some (Value.pointer p3)) ∧ (onP (p3) (fun a4 =>
          (∃ p5 : Option Nat, ((World.cell? w1 (Addr.add a4 1) = some (Value.map p5)) ∧ (onP (c0) (fun a6 =>
            (∃ p7 : Option Addr, ((World.cell? w1 a6 = some (Value.pointer p7)) ∧ (onP (p7) (fun a8 =>
              (∃ p9 : Option Nat, ((World.cell? w1 (Addr.add a8 2) = some (Value.map p9)) ∧ (∃ z10 : Int → World → Prop, (∃ z11 : Int → World → Nat, ((z10 (0) (w1)) ∧ (∀ (_ : Nat → Value), (∀ (x13 : Int), (∀ (w14 : World), ((z10 (x13) (w14)) → (ifK (decide (x13 < 2))
                (∃ v15 : Value, (∃ w16 : World, ((Sem.run Try.prog (Instr.index 99 (Value.agg (Array.mk [Value.map p5, Value.map p9])) (Value.int IntKind.i64 x13)) w14 = Result.ok v15 w16) ∧ (∃ p17 : Option Nat, ((v15 = Value.map p17) ∧ (rngM (p17) (w16) (fun v18 => (fun w19 =>
                  (∃ z20 : World → Prop, (∃ z21 : World → Nat, ((z20 (w19)) ∧ (∀ (_ : Nat → Value), (∀ (w23 : World), ((z20 (w23)) → (nxtM Try.prog (0) (v18) (w23) (fun _ => (fun _ => (fun w26 =>
                    (∃ v27 : Value, (∃ v28 : Value, ((Sem.run Try.prog (Instr.entry v18) w26 = Result.ok (Value.tuple #[v27, v28]) w26) ∧ (onPt (v28) (fun p29 =>
                      (∃ v30 : Value, (∃ w31 : World, ((Sem.run Try.prog (Instr.lookup 98 (Value.map (some (Array.size (World.heap w)))) (Value.pointer p29) false) w26 = Result.ok v30 w31) ∧ (∃ b32 : Bool, ((v30 = Value.bool b32) ∧ (ifK (!b32)
                        (CaV Try.prog (yield) (Array.mk [Value.pointer p29]) (w31) (fun v33 => (fun w34 =>
                          (∃ b35 : Bool, ((v33 = Value.bool b35) ∧ (ifK (!b35)
                            (R (Value.tuple (Array.mk (List.reverse []))) (w34))
                            (∃ w36 : World, ((Sem.run Try.prog (Instr.mapUpdate 98 (Value.map (some (Array.size (World.heap w)))) (Value.pointer p29) (Value.bool true)) w34 = Result.ok () w36) ∧ ((z20 (w36)) ∧ (z21 w36 < z21 w23))))))))))
                        (∃ w37 : World, ((Sem.run Try.prog (Instr.mapUpdate 98 (Value.map (some (Array.size (World.heap w)))) (Value.pointer p29) (Value.bool true)) w31 = Result.ok () w37) ∧ ((z20 (w37)) ∧ (z21 w37 < z21 w23)))))))))))))))))) (fun w38 =>
                    ((z10 (IntKind.wrap IntKind.i64 (x13 + 1)) (w38)) ∧ (z11 (IntKind.wrap IntKind.i64 (x13 + 1)) w38 < z11 x13 w14))))))))))))))))))
                (R (Value.tuple (Array.mk (List.reverse []))) (w14))))))))))))))))))))))))))))))
theorem ca70 (yield : Value) (c0 : Option Addr) (w : World) (R : Value → World → Prop) (h : W70 yield c0 w R) : Ca Try.prog 70 ⟨[yield, (.pointer c0)]⟩ w R := by
  have h1 : Try.prog.follows .mixedOrders = true := by kernel_rfl
  have h2 : Try.f70.body = some C70 := by kernel_rfl
  have h3 : (Try.f70.name == "runtime.NumGoroutine") = false := by kernel_rfl
  have h6 : Try.f70.results.toList = [] := by kernel_rfl
  have h4 : Nat.ble 2 40 = true := by kernel_rfl
  have h5 : okCode 40 pl70 ls70 C70 0 = true := by kernel_rfl
  have e : W70 yield c0 w R = wpC none Try.prog 40 pl70 ls70 C70 0 (endP Try.prog [] R) (fr0 [yield, (.pointer c0)]) [] w := by kernel_rfl
  exact ca_of' (P := Try.prog) (g := 70) (fn := Try.f70) (c := C70) (m := 40) (rs := []) (args := [yield, (.pointer c0)]) (pl := pl70) (ls := ls70) (w := w) (R := R) h1 Try.func70 h2 Try.ntmps70 h6 h3 h4 h5 (Eq.mp e h)

/-- slices.Collect[string] -/
noncomputable def C71 : Code := (Try.f71.body).getD .skip
def pl71 : Nat → Plan := fun _ => .done
def ls71 : Nat → List (Nat × LT) := fun _ => []
def W71 (seq : Value) (w : World) (R : Value → World → Prop) : Prop :=
  (Ca Try.prog (79) (Array.mk [Value.slice none 0 0, seq]) (w) (fun v0 => (fun w1 =>
    (∃ p2 : Option Addr, (∃ n3 : Nat, (∃ n4 : Nat, ((v0 = Value.slice p2 n3 n4) ∧ (R (Value.slice p2 n3 n4) (w1)))))))))
theorem ca71 (seq : Value) (w : World) (R : Value → World → Prop) (h : W71 seq w R) : Ca Try.prog 71 ⟨[seq]⟩ w R := by
  have h1 : Try.prog.follows .mixedOrders = true := by kernel_rfl
  have h2 : Try.f71.body = some C71 := by kernel_rfl
  have h3 : (Try.f71.name == "runtime.NumGoroutine") = false := by kernel_rfl
  have h6 : Try.f71.results.toList = [.tmp 2] := by kernel_rfl
  have h4 : Nat.ble 1 5 = true := by kernel_rfl
  have h5 : okCode 5 pl71 ls71 C71 0 = true := by kernel_rfl
  have e : W71 seq w R = wpC none Try.prog 5 pl71 ls71 C71 0 (endP Try.prog [.tmp 2] R) (fr0 [seq]) [] w := by kernel_rfl
  exact ca_of' (P := Try.prog) (g := 71) (fn := Try.f71) (c := C71) (m := 5) (rs := [.tmp 2]) (args := [seq]) (pl := pl71) (ls := ls71) (w := w) (R := R) h1 Try.func71 h2 Try.ntmps71 h6 h3 h4 h5 (Eq.mp e h)

/-- maps.Keys[staith/store.directory,string,*staith/store.file]$1 -/
noncomputable def C73 : Code := (Try.f73.body).getD .skip
def pl73 : Nat → Plan := fun _ => .done
def ls73 : Nat → List (Nat × LT)
  | 1 => []
  | _ => []
def W73 (yield : Value) (c0 : Option Addr) (w : World) (R : Value → World → Prop) : Prop :=
  (onP (c0) (fun a0 =>
    (∃ p1 : Option Nat, ((World.cell? w a0 = some (Value.map p1)) ∧ (rngM (p1) (w) (fun v2 => (fun w3 =>
      (∃ z4 : World → Prop, (∃ z5 : World → Nat, ((z4 (w3)) ∧ (∀ (_ : Nat → Value), (∀ (w7 : World), ((z4 (w7)) → (nxtM Try.prog (0) (v2) (w7) (fun _ => (fun _ => (fun w10 =>
        (∃ v11 : Value, (∃ v12 : Value, ((Sem.run Try.prog (Instr.entry v2) w10 = Result.ok (Value.tuple #[v11, v12]) w10) ∧ (onS (v11) (fun s13 =>
          (CaV Try.prog (yield) (Array.mk [Value.string s13]) (w10) (fun v14 => (fun w15 =>
            (∃ b16 : Bool, ((v14 = Value.bool b16) ∧ (ifK (!b16)
              (R (Value.tuple (Array.mk (List.reverse []))) (w15))
              ((z4 (w15)) ∧ (z5 w15 < z5 w7)))))))))))))))) (fun w17 =>
        (R (Value.tuple (Array.mk (List.reverse []))) (w17)))))))))))))))))
theorem ca73 (yield : Value) (c0 : Option Addr) (w : World) (R : Value → World → Prop) (h : W73 yield c0 w R) : Ca Try.prog 73 ⟨[yield, (.pointer c0)]⟩ w R := by
  have h1 : Try.prog.follows .mixedOrders = true := by kernel_rfl
  have h2 : Try.f73.body = some C73 := by kernel_rfl
  have h3 : (Try.f73.name == "runtime.NumGoroutine") = false := by kernel_rfl
  have h6 : Try.f73.results.toList = [] := by kernel_rfl
  have h4 : Nat.ble 2 14 = true := by kernel_rfl
  have h5 : okCode 14 pl73 ls73 C73 0 = true := by kernel_rfl
  have e : W73 yield c0 w R = wpC none Try.prog 14 pl73 ls73 C73 0 (endP Try.prog [] R) (fr0 [yield, (.pointer c0)]) [] w := by kernel_rfl
  exact ca_of' (P := Try.prog) (g := 73) (fn := Try.f73) (c := C73) (m := 14) (rs := []) (args := [yield, (.pointer c0)]) (pl := pl73) (ls := ls73) (w := w) (R := R) h1 Try.func73 h2 Try.ntmps73 h6 h3 h4 h5 (Eq.mp e h)

/-- slices.AppendSeq[[]string,string] -/
noncomputable def C79 : Code := (Try.f79.body).getD .skip
def pl79 : Nat → Plan := fun _ => .done
def ls79 : Nat → List (Nat × LT) := fun _ => []
def W79 (sa : Option Addr) (sl : Nat) (sc : Nat) (seq : Value) (w : World) (R : Value → World → Prop) : Prop :=
  (atW (World.alloc w (Obj.cells (Array.mk [Value.slice sa sl sc]) 36 (0, 0))) (fun w0 =>
    (rfW Try.prog (seq) (w0) (fun v1 => (fun w2 => (fun z3 => (fun z4 =>
      (onS (v1) (fun s5 =>
        (z3 (fun w6 =>
          (∃ p7 : Option Addr, (∃ n8 : Nat, (∃ n9 : Nat, ((World.cell? w6 (Addr.mk (Array.size (World.heap w)) 0 none) = some (Value.slice p7 n8 n9)) ∧ (atW (World.alloc w6 (Obj.cells (Array.mk [Value.string s5]) 9 (0, 0))) (fun w10 =>
            (∃ v11 : Value, (∃ w12 : World, ((Sem.run Try.prog (Builtin.append_ (Array.mk [36, 36]) 36 (Array.mk [Value.slice p7 n8 n9, Value.slice (some (Addr.mk (Array.size (World.heap w6)) 0 none)) 1 1])) w10 = Result.ok v11 w12) ∧ (∃ p13 : Option Addr, (∃ n14 : Nat, (∃ n15 : Nat, ((v11 = Value.slice p13 n14 n15) ∧ ((∃ v16 : Value, (World.cell? w12 (Addr.add (Addr.mk (Array.size (World.heap w)) 0 none) 0) = some v16)) ∧ ((World.frozen? w12 (Addr.add (Addr.mk (Array.size (World.heap w)) 0 none) 0) = false) ∧ (atW (World.setCell w12 (Addr.add (Addr.mk (Array.size (World.heap w)) 0 none) 0) (Value.slice p13 n14 n15)) (fun w17 =>
              (z4 (w17)))))))))))))))))))) (w2)))))))) (fun w18 =>
      (∃ p19 : Option Addr, (∃ n20 : Nat, (∃ n21 : Nat, ((World.cell? w18 (Addr.mk (Array.size (World.heap w)) 0 none) = some (Value.slice p19 n20 n21)) ∧ (((World.heap w18)[Array.size (World.heap w0)]? = some (Obj.deferred (some []))) ∧ (atW (World.putObj w18 (Array.size (World.heap w0)) (Obj.deferred none)) (fun w22 =>
        (R (Value.slice p19 n20 n21) (w22)))))))))))))
theorem ca79 (sa : Option Addr) (sl : Nat) (sc : Nat) (seq : Value) (w : World) (R : Value → World → Prop) (h : W79 sa sl sc seq w R) : Ca Try.prog 79 ⟨[(.slice sa sl sc), seq]⟩ w R := by
  have h1 : Try.prog.follows .mixedOrders = true := by kernel_rfl
  have h2 : Try.f79.body = some C79 := by kernel_rfl
  have h3 : (Try.f79.name == "runtime.NumGoroutine") = false := by kernel_rfl
  have h6 : Try.f79.results.toList = [.tmp 4] := by kernel_rfl
  have h4 : Nat.ble 2 13 = true := by kernel_rfl
  have h5 : okCode 13 pl79 ls79 C79 0 = true := by kernel_rfl
  have e : W79 sa sl sc seq w R = wpC none Try.prog 13 pl79 ls79 C79 0 (endP Try.prog [.tmp 4] R) (fr0 [(.slice sa sl sc), seq]) [] w := by kernel_rfl
  exact ca_of' (P := Try.prog) (g := 79) (fn := Try.f79) (c := C79) (m := 13) (rs := [.tmp 4]) (args := [(.slice sa sl sc), seq]) (pl := pl79) (ls := ls79) (w := w) (R := R) h1 Try.func79 h2 Try.ntmps79 h6 h3 h4 h5 (Eq.mp e h)

/-- staith/staithref01.Same -/
noncomputable def C21 : Code := (Try.f21.body).getD .skip
def pl21 : Nat → Plan := fun _ => .done
def ls21 : Nat → List (Nat × LT) := fun _ => []
def W21 (a_a : Option Addr) (a_l : Nat) (a_c : Nat) (ba : Option Addr) (bl : Nat) (bc : Nat) (w : World) (R : Value → World → Prop) : Prop :=
  (∃ v0 : Value, (∃ w1 : World, ((Sem.run Try.prog (convert 24 9 (Value.slice a_a a_l a_c)) w = Result.ok v0 w1) ∧ (∃ s2 : ByteArray, ((v0 = Value.string s2) ∧ (∃ v3 : Value, (∃ w4 : World, ((Sem.run Try.prog (convert 24 9 (Value.slice ba bl bc)) w1 = Result.ok v3 w4) ∧ (∃ s5 : ByteArray, ((v3 = Value.string s5) ∧ (R (Value.bool (ByteArray.toList s2 == ByteArray.toList s5)) (w4))))))))))))
theorem ca21 (a_a : Option Addr) (a_l : Nat) (a_c : Nat) (ba : Option Addr) (bl : Nat) (bc : Nat) (w : World) (R : Value → World → Prop) (h : W21 a_a a_l a_c ba bl bc w R) : Ca Try.prog 21 ⟨[(.slice a_a a_l a_c), (.slice ba bl bc)]⟩ w R := by
  have h1 : Try.prog.follows .mixedOrders = true := by kernel_rfl
  have h2 : Try.f21.body = some C21 := by kernel_rfl
  have h3 : (Try.f21.name == "runtime.NumGoroutine") = false := by kernel_rfl
  have h6 : Try.f21.results.toList = [.tmp 4] := by kernel_rfl
  have h4 : Nat.ble 2 10 = true := by kernel_rfl
  have h5 : okCode 10 pl21 ls21 C21 0 = true := by kernel_rfl
  have e : W21 a_a a_l a_c ba bl bc w R = wpC none Try.prog 10 pl21 ls21 C21 0 (endP Try.prog [.tmp 4] R) (fr0 [(.slice a_a a_l a_c), (.slice ba bl bc)]) [] w := by kernel_rfl
  exact ca_of' (P := Try.prog) (g := 21) (fn := Try.f21) (c := C21) (m := 10) (rs := [.tmp 4]) (args := [(.slice a_a a_l a_c), (.slice ba bl bc)]) (pl := pl21) (ls := ls21) (w := w) (R := R) h1 Try.func21 h2 Try.ntmps21 h6 h3 h4 h5 (Eq.mp e h)

/-- staith/staithref01.Texts -/
noncomputable def C22 : Code := (Try.f22.body).getD .skip
def pl22 : Nat → Plan
  | 6 => (.quiet 0 (.quiet 1 (.quiet 2 (.quiet 3 (.quiet 4 (.quiet 5 (.quiet 6 (.quiet 7 (.quiet 8 .done)))))))))
  | _ => .done
def ls22 : Nat → List (Nat × LT)
  | 6 => [(13, (.one (.int .i64)))]
  | _ => []
def W22 (a_a : Option Addr) (a_l : Nat) (_a_c : Nat) (ba : Option Addr) (bl : Nat) (_bc : Nat) (w : World) (R : Value → World → Prop) : Prop :=
  (ifK ((↑a_l : Int) != (↑bl : Int))
    (R (Value.bool false) (w))
    (∃ z0 : Int → World → Prop, (∃ z1 : Int → World → Nat, ((z0 (0) (w)) ∧ (∀ (_ : Nat → Value), (∀ (x3 : Int), (∀ (w4 : World), ((z0 (x3) (w4)) → (ifK (decide (x3 < (↑a_l : Int)))
      (atW (World.drew w4) (fun w5 =>
        (∃ a6 : Addr, ((a_a = some a6) ∧ (((0 : Int) ≤ x3) ∧ (((x3 : Int) < (↑a_l : Int)) ∧ (∃ s7 : ByteArray, ((World.cell? w5 (Addr.add a6 (Int.toNat x3 * 1)) = some (Value.string s7)) ∧ (∃ a8 : Addr, ((ba = some a8) ∧ (((0 : Int) ≤ x3) ∧ (((x3 : Int) < (↑bl : Int)) ∧ (∃ s9 : ByteArray, ((World.cell? w5 (Addr.add a8 (Int.toNat x3 * 1)) = some (Value.string s9)) ∧ (ifK (!ByteArray.toList s7 == ByteArray.toList s9)
          (R (Value.bool false) (w5))
          ((z0 (IntKind.wrap IntKind.i64 (x3 + 1)) (w5)) ∧ (z1 (IntKind.wrap IntKind.i64 (x3 + 1)) w5 < z1 x3 w4)))))))))))))))))
      (R (Value.bool true) (w4)))))))))))
theorem ca22 (a_a : Option Addr) (a_l : Nat) (a_c : Nat) (ba : Option Addr) (bl : Nat) (bc : Nat) (w : World) (R : Value → World → Prop) (h : W22 a_a a_l a_c ba bl bc w R) : Ca Try.prog 22 ⟨[(.slice a_a a_l a_c), (.slice ba bl bc)]⟩ w R := by
  have h1 : Try.prog.follows .mixedOrders = true := by kernel_rfl
  have h2 : Try.f22.body = some C22 := by kernel_rfl
  have h3 : (Try.f22.name == "runtime.NumGoroutine") = false := by kernel_rfl
  have h6 : Try.f22.results.toList = [.tmp 4] := by kernel_rfl
  have h4 : Nat.ble 2 26 = true := by kernel_rfl
  have h5 : okCode 26 pl22 ls22 C22 0 = true := by kernel_rfl
  have e : W22 a_a a_l a_c ba bl bc w R = wpC none Try.prog 26 pl22 ls22 C22 0 (endP Try.prog [.tmp 4] R) (fr0 [(.slice a_a a_l a_c), (.slice ba bl bc)]) [] w := by kernel_rfl
  exact ca_of' (P := Try.prog) (g := 22) (fn := Try.f22) (c := C22) (m := 26) (rs := [.tmp 4]) (args := [(.slice a_a a_l a_c), (.slice ba bl bc)]) (pl := pl22) (ls := ls22) (w := w) (R := R) h1 Try.func22 h2 Try.ntmps22 h6 h3 h4 h5 (Eq.mp e h)

/-- staith/staithref01.Lend -/
noncomputable def C55 : Code := (Try.f55.body).getD .skip
def pl55 : Nat → Plan
  | 2 => (.quiet 0 (.quiet 1 (.quiet 2 (.quiet 3 (.quiet 4 (.quiet 5 (.quiet 6 (.quiet 7 .done))))))))
  | _ => .done
def ls55 : Nat → List (Nat × LT) := fun _ => []
def W55 (ba : Option Addr) (bl : Nat) (bc : Nat) (w : World) (R : Value → World → Prop) : Prop :=
  (atW (World.alloc w (Obj.cells (Array.mk [Value.int IntKind.u8 167, Value.int IntKind.u8 59]) 5 (0, 0))) (fun w0 =>
    (∃ v1 : Value, (∃ w2 : World, ((Sem.run Try.prog (Builtin.append_ (Array.mk [24, 24]) 24 (Array.mk [Value.slice (some (Addr.mk (Array.size (World.heap w)) 0 none)) 2 2, Value.slice ba bl bc])) w0 = Result.ok v1 w2) ∧ (∃ p3 : Option Addr, (∃ n4 : Nat, (∃ n5 : Nat, ((v1 = Value.slice p3 n4 n5) ∧ (atW (World.alloc w2 (Obj.cells (Array.mk [Value.int IntKind.u8 94, Value.int IntKind.u8 193]) 5 (0, 0))) (fun w6 =>
      (∃ v7 : Value, (∃ w8 : World, ((Sem.run Try.prog (Builtin.append_ (Array.mk [24, 24]) 24 (Array.mk [Value.slice p3 n4 n5, Value.slice (some (Addr.mk (Array.size (World.heap w2)) 0 none)) 2 2])) w6 = Result.ok v7 w8) ∧ (∃ p9 : Option Addr, (∃ n10 : Nat, (∃ n11 : Nat, ((v7 = Value.slice p9 n10 n11) ∧ (atW (World.drew w8) (fun w12 =>
        (((0 : Int) ≤ 2) ∧ (((2 : Int) ≤ IntKind.wrap IntKind.i64 (2 + (↑bl : Int))) ∧ (((IntKind.wrap IntKind.i64 (2 + (↑bl : Int)) : Int) ≤ (↑n11 : Int)) ∧ (R (Value.tuple (Array.mk [Value.slice p9 n10 n11, Value.slice (if n11 = 2 then p9 else Option.map (fun x => Addr.add x 2) p9) (Int.toNat (IntKind.wrap IntKind.i64 (2 + (↑bl : Int))) - 2) (n11 - 2)])) (w12)))))))))))))))))))))))))
theorem ca55 (ba : Option Addr) (bl : Nat) (bc : Nat) (w : World) (R : Value → World → Prop) (h : W55 ba bl bc w R) : Ca Try.prog 55 ⟨[(.slice ba bl bc)]⟩ w R := by
  have h1 : Try.prog.follows .mixedOrders = true := by kernel_rfl
  have h2 : Try.f55.body = some C55 := by kernel_rfl
  have h3 : (Try.f55.name == "runtime.NumGoroutine") = false := by kernel_rfl
  have h6 : Try.f55.results.toList = [.tmp 2, .tmp 3] := by kernel_rfl
  have h4 : Nat.ble 1 16 = true := by kernel_rfl
  have h5 : okCode 16 pl55 ls55 C55 0 = true := by kernel_rfl
  have e : W55 ba bl bc w R = wpC none Try.prog 16 pl55 ls55 C55 0 (endP Try.prog [.tmp 2, .tmp 3] R) (fr0 [(.slice ba bl bc)]) [] w := by kernel_rfl
  exact ca_of' (P := Try.prog) (g := 55) (fn := Try.f55) (c := C55) (m := 16) (rs := [.tmp 2, .tmp 3]) (args := [(.slice ba bl bc)]) (pl := pl55) (ls := ls55) (w := w) (R := R) h1 Try.func55 h2 Try.ntmps55 h6 h3 h4 h5 (Eq.mp e h)

/-- staith/staithref01.Kept -/
noncomputable def C57 : Code := (Try.f57.body).getD .skip
def pl57 : Nat → Plan := fun _ => .done
def ls57 : Nat → List (Nat × LT) := fun _ => []
def W57 (w_a : Option Addr) (w_l : Nat) (w_c : Nat) (ba : Option Addr) (bl : Nat) (bc : Nat) (w : World) (R : Value → World → Prop) : Prop :=
  (Ca Try.prog (55) (Array.mk [Value.slice ba bl bc]) (w) (fun v0 => (fun w1 =>
    (∃ p2 : Option Addr, (∃ n3 : Nat, (∃ n4 : Nat, (∃ p5 : Option Addr, (∃ n6 : Nat, (∃ n7 : Nat, ((v0 = Value.tuple (Array.mk (List.reverse [Value.slice p5 n6 n7, Value.slice p2 n3 n4]))) ∧ (∃ v8 : Value, (∃ w9 : World, ((Sem.run Try.prog (convert 24 9 (Value.slice w_a w_l w_c)) w1 = Result.ok v8 w9) ∧ (∃ s10 : ByteArray, ((v8 = Value.string s10) ∧ (∃ v11 : Value, (∃ w12 : World, ((Sem.run Try.prog (convert 24 9 (Value.slice p2 n3 n4)) w9 = Result.ok v11 w12) ∧ (∃ s13 : ByteArray, ((v11 = Value.string s13) ∧ (R (Value.bool (ByteArray.toList s10 == ByteArray.toList s13)) (w12))))))))))))))))))))))
theorem ca57 (w_a : Option Addr) (w_l : Nat) (w_c : Nat) (ba : Option Addr) (bl : Nat) (bc : Nat) (w : World) (R : Value → World → Prop) (h : W57 w_a w_l w_c ba bl bc w R) : Ca Try.prog 57 ⟨[(.slice w_a w_l w_c), (.slice ba bl bc)]⟩ w R := by
  have h1 : Try.prog.follows .mixedOrders = true := by kernel_rfl
  have h2 : Try.f57.body = some C57 := by kernel_rfl
  have h3 : (Try.f57.name == "runtime.NumGoroutine") = false := by kernel_rfl
  have h6 : Try.f57.results.toList = [.tmp 4] := by kernel_rfl
  have h4 : Nat.ble 2 17 = true := by kernel_rfl
  have h5 : okCode 17 pl57 ls57 C57 0 = true := by kernel_rfl
  have e : W57 w_a w_l w_c ba bl bc w R = wpC none Try.prog 17 pl57 ls57 C57 0 (endP Try.prog [.tmp 4] R) (fr0 [(.slice w_a w_l w_c), (.slice ba bl bc)]) [] w := by kernel_rfl
  exact ca_of' (P := Try.prog) (g := 57) (fn := Try.f57) (c := C57) (m := 17) (rs := [.tmp 4]) (args := [(.slice w_a w_l w_c), (.slice ba bl bc)]) (pl := pl57) (ls := ls57) (w := w) (R := R) h1 Try.func57 h2 Try.ntmps57 h6 h3 h4 h5 (Eq.mp e h)
end Go.Proofs.Ytemklabamlifdaa

/- The library's maps.Clone of a directory. -/
namespace Go.Proofs.Ytemklabamlifdaa
open Go Go.RowKit Go.Proofs.Ytemklabamlifdaa.St

theorem run_eqlIn_map {P : Program} (w : World) (d : Nat) (t k e : TypeId) (p : Option Nat) (h : P.underlying t = some (.map k e)) : (Op.equalIn (d + 1) t (.map p) (.map none)).run P w = .ok p.isNone w := by
  cases p <;> simp [Op.equalIn, run_underlying h]
theorem run_eql_map {P : Program} (w : World) (t k e : TypeId) (p : Option Nat) (h : P.underlying t = some (.map k e)) : (binOp .eql t (.map p) (.map none)).run P w = .ok (.bool p.isNone) w := by
  simp only [binOp]
  simp [show Op.equal t (.map p) (.map none) = Op.equalIn (9999 + 1) t (.map p) (.map none) from rfl, run_eqlIn_map w 9999 t k e p h]
theorem run_assert_map {P : Program} (w : World) (t xT k e : TypeId) (v : Value) (h : P.underlying t = some (.map k e)) : (Instr.typeAssert (.iface t v) xT t false).run P w = .ok v w := by
  simp [Instr.typeAssert, run_underlying h, go_sem, Result.andThen]
theorem run_clone {P : Program} (w : World) {r : Nat} {es : Array MapEntry} {clock : Nat} (t : TypeId) (hb : w.heap[r]? = some (.map es clock)) :
    (Extern.MapsClone.clone #[.iface t (.map (some r))]).run P w = .ok (.iface t (.map (some w.heap.size))) (w.alloc (.map es clock)) := by
  have e : Extern.MapsClone.clone #[.iface t (.map (some r))] = (getObj r >>= fun o => match o with
      | .map entries clock => (newObj (.map entries clock) >>= fun n => pure (.iface t (.map (some n))))
      | _ => stuck "maps.clone: a map expected") := rfl
  rw [e]
  simp [MapKept.run_getObj_map hb, Result.andThen, go_sem]

set_option maxRecDepth 100000 in
set_option maxHeartbeats 2000000 in
theorem clone_calls (b : Nat) (es : Array MapEntry) (clock : Nat) (w : World) (hb : w.heap[b]? = some (.map es clock)) :
    Calls Try.prog 45 #[.map (some b)] w fun e w' => e = .returned (.map (some w.heap.size)) ∧ w' = w.alloc (.map es clock) := by
  have mixed : Try.prog.follows .mixedOrders = true := by kernel_rfl
  have t4 := Try.underlying4
  have t20 := Try.underlying20
  have t63 := Try.underlying63
  have hq := fun w => run_eql_map (P := Try.prog) w 63 _ _ (some b) Try.underlying63
  go_enter Try.func45, Try.ntmps45
  go_wp2
  rw [run_callFunc_extern Try.func69 (by kernel_rfl) (by kernel_rfl) (by kernel_rfl) (e := Extern.MapsClone.clone) (by kernel_rfl), run_clone w 63 hb]
  simp only [Result.andThen]
  rw [Oper.upon_value]
  go_wp2
  rw [run_assert_map _ 63 20 _ _ _ Try.underlying63]
  simp only [Result.andThen]
  rw [Oper.upon_value]
  go_wp2
  go_ret
  exact ⟨rfl, rfl⟩
/-- A new map of the same entries; of nil nil. -/
theorem clone_ok (m : Option Nat) (w : World) (R : Value → World → Prop) (h0 : m = none → R (.map none) w)
    (h : ∀ b kvs w', m = some b → MapAt w b kvs → MapAt w' w.heap.size kvs → Mod no w w' → R (.map (some w.heap.size)) w') (hm : ∀ b, m = some b → ∃ kvs, MapAt w b kvs) :
    Ca Try.prog 45 #[.map m] w R := by
  cases m with
  | none => exact ca45 none w R (ifK_of (fun _ => h0 rfl) (fun h => by cases h))
  | some b =>
    obtain ⟨kvs, hkv⟩ := hm b rfl
    have hkv0 := hkv
    obtain ⟨es, clock, hb, he, hn, hc⟩ := hkv
    refine ⟨fun w => callFunc_run (c := C45) Try.func45 (by kernel_rfl) (by kernel_rfl) _ w, (clone_calls b es clock w hb).mono fun e w' ⟨h1, h2⟩ => ?_⟩
    subst h2
    exact ⟨_, h1, h b kvs _ rfl hkv0 ⟨es, clock, new_at _ _, he, hn, hc⟩ (Mod.alloc _ _)⟩
end Go.Proofs.Ytemklabamlifdaa

/- The store as it lies; contracts of the functions that look first. -/
namespace Go.Proofs.Ytemklabamlifdaa
open Go Go.Proofs.Ytemklabamlifdaa.St

/-- A directory's entries: names, and the blocks of their files. -/
def dirL (D : List (ByteArray × Nat)) : List (ByteArray × Value) := D.map fun p => (p.1, .pointer (some ⟨p.2, 0, none⟩))
def dget (D : List (ByteArray × Nat)) (k : ByteArray) : Option Nat := (D.find? fun p => k == p.1).map (·.2)
theorem getG_dirL (D : List (ByteArray × Nat)) (k : ByteArray) : getG k (dirL D) = (dget D k).map fun f => .pointer (some ⟨f, 0, none⟩) := by
  rw [getG, dget, dirL, List.find?_map]
  show Option.map _ (Option.map _ (D.find? fun p => k == p.1)) = _
  cases D.find? fun p => k == p.1 <;> rfl

/-- What a store says of itself; nb and sb are its maps' blocks. -/
structure Sto where
  room : Int
  nb : Nat
  sb : Nat
  now : List (ByteArray × Nat)
  sure : List (ByteArray × Nat)
  dark : Bool
  count : Int
  left : Int
  keep : Int

structure StAt (w : World) (s : Nat) (x : Sto) : Prop where
  cell : w.heap[s]? = some (.cells #[.int .i64 x.room, .map (some x.nb), .map (some x.sb), .bool x.dark, .int .i64 x.count, .int .i64 x.left, .int .i64 x.keep] 65 (0, 0))
  now : MapAt w x.nb (kvL Value.string (dirL x.now))
  sure : MapAt w x.sb (kvL Value.string (dirL x.sure))
theorem StAt.no {w w' : World} {s : Nat} {x : Sto} (h : StAt w s x) (hm : Mod no w w') : StAt w' s x := ⟨hm.at' h.cell, h.now.mod hm id, h.sure.mod hm id⟩

theorem power_ok (s : Nat) (x : Sto) (w : World) (hs : StAt w s x) (R : Value → World → Prop) (h : R (.int .i64 (if x.dark then 9 else 0)) w) : Ca Try.prog 43 #[.pointer (some ⟨s, 0, none⟩)] w R := by
  refine ca43 _ w R ?_
  refine (ifK_of (fun h => by cases h) (fun _ => ?_) : ifK false _ _)
  refine ⟨some x.nb, by rw [cl1 hs.cell]; rfl, (ifK_of (fun h => by cases h) (fun _ => ?_) : ifK false _ _)⟩
  refine ⟨x.dark, by rw [cl1 hs.cell]; rfl, ifK_of (fun hd => ?_) (fun hd => ?_)⟩
  · rw [hd] at h; exact h
  · rw [hd] at h; exact h
theorem on_ok (s : Nat) (x : Sto) (w : World) (hs : StAt w s x) (R : Value → World → Prop) (h : R (.bool (!x.dark)) w) : Ca Try.prog 26 #[.pointer (some ⟨s, 0, none⟩)] w R := by
  refine ca26 _ w R ?_
  refine (ifK_of (fun _ => ?_) (fun h => by cases h) : ifK true _ _)
  refine ⟨some x.nb, by rw [cl1 hs.cell]; rfl, (ifK_of (fun _ => ?_) (fun h => by cases h) : ifK true _ _)⟩
  exact ⟨x.dark, by rw [cl1 hs.cell]; rfl, h⟩

theorem keysDir : Keys Try.prog 9 (κ := ByteArray) Value.string fun _ _ => True := keys_string Try.underlying9
theorem zeroFile (w : World) : (zeroValue 68).run Try.prog w = .ok (.pointer none) w := by
  have hi : (Try.prog.info? 68).bind (·.zero) = some (.pointer none) := by kernel_rfl
  cases hh : Try.prog.info? 68 with
  | none => rw [hh] at hi; cases hi
  | some i =>
    rw [hh] at hi
    have hi : i.zero = some (.pointer none) := hi
    simp [zeroValue, typeInfo, hh, hi]

theorem known_ok (s : Nat) (x : Sto) (name : ByteArray) (w : World) (hs : StAt w s x) (hn : name.size < 4611686018427387904) (R : Value → World → Prop)
    (h1 : x.dark = true → ∀ w', Mod no w w' → R (.tuple #[.pointer none, .int .i64 9]) w')
    (h2 : x.dark = false → goodB name = false → ∀ w', Mod no w w' → R (.tuple #[.pointer none, .int .i64 2]) w')
    (h3 : x.dark = false → goodB name = true → dget x.now name = none → ∀ w', Mod no w w' → R (.tuple #[.pointer none, .int .i64 3]) w')
    (h4 : ∀ f, x.dark = false → goodB name = true → dget x.now name = some f → ∀ w', Mod no w w' → R (.tuple #[.pointer (some ⟨f, 0, none⟩), .int .i64 0]) w') :
    Ca Try.prog 36 #[.pointer (some ⟨s, 0, none⟩), .string name] w R := by
  refine ca36 _ name w R ?_
  refine power_ok s x w hs _ ⟨_, rfl, ?_⟩
  cases hd : x.dark with
  | true => exact (ifK_of (fun _ => h1 hd w (Mod.refl _ _)) (fun h => by cases h) : ifK true _ _)
  | false =>
    refine (ifK_of (fun h => by cases h) (fun _ => ?_) : ifK false _ _)
    refine good_ok name w hn _ fun w2 m2 => ⟨_, rfl, ifK_not (fun hg => h2 hd hg w2 m2) (fun hg => ?_)⟩
    have hs2 := hs.no m2
    have hl := lookup_k keysDir Try.underlying63 zeroFile hs2.now name trivial (fun _ _ => trivial) false
    rw [getG_dirL] at hl
    cases hf : dget x.now name with
    | none =>
      rw [hf] at hl
      exact ⟨some x.nb, by rw [cl1 hs2.cell]; rfl, _, w2, hl, none, rfl, (ifK_of (fun _ => h3 hd hg hf w2 m2) (fun h => by cases h) : ifK true _ _)⟩
    | some f =>
      rw [hf] at hl
      exact ⟨some x.nb, by rw [cl1 hs2.cell]; rfl, _, w2, hl, some ⟨f, 0, none⟩, rfl, (ifK_of (fun h => by cases h) (fun _ => h4 f hd hg hf w2 m2) : ifK false _ _)⟩
end Go.Proofs.Ytemklabamlifdaa

/- Iterators as they are ranged over. It names no program. -/
namespace Go.Proofs.Ytemklabamlifdaa.St
open Go

def isIt : Obj → Bool
  | .mapIter _ _ _ _ => true
  | .stringIter _ _ => true
  | _ => false

/-- What was older than B stands, and so do iterators. -/
structure Kp (B : Nat) (w w' : World) : Prop where
  os : w'.os = w.os
  tape : w'.tape = w.tape
  output : w'.output = w.output
  size : w.heap.size ≤ w'.heap.size
  old : ∀ k o, w.heap[k]? = some o → (k < B ∨ isIt o = true) → w'.heap[k]? = some o

theorem Kp.refl (B : Nat) (w : World) : Kp B w w := ⟨rfl, rfl, rfl, Nat.le_refl _, fun _ _ h _ => h⟩
theorem Kp.trans {B : Nat} {w w' w'' : World} (h : Kp B w w') (h' : Kp B w' w'') : Kp B w w'' :=
  ⟨h'.os.trans h.os, h'.tape.trans h.tape, h'.output.trans h.output, Nat.le_trans h.size h'.size, fun k o ho hk => h'.old k o (h.old k o ho hk) hk⟩
theorem Kp.of_mod {B : Nat} {S : Nat → Prop} {w w' : World} (h : Mod S w w') (hs : ∀ k o, w.heap[k]? = some o → (k < B ∨ isIt o = true) → ¬ S k) : Kp B w w' :=
  ⟨h.os, h.tape, h.output, h.size, fun k o ho hk => h.at ho (hs k o ho hk)⟩
theorem Kp.of_no {B : Nat} {w w' : World} (h : Mod no w w') : Kp B w w' := Kp.of_mod h fun _ _ _ _ => id
theorem Kp.mod {w w' : World} (h : Kp w.heap.size w w') : Mod no w w' :=
  ⟨h.os, h.tape, h.output, h.size, fun k hk _ => by rw [h.old k _ (Array.getElem?_eq_getElem hk) (.inl hk), Array.getElem?_eq_getElem hk]⟩

/-- What a yield gathers stands where nothing changes but an iterator. -/
def Stab (J : List Value → World → Prop) : Prop :=
  (∀ l w w', J l w → Mod no w w' → J l w') ∧ ∀ l w w' b o, J l w → w.heap[b]? = some o → isIt o = true → Mod (on b) w w' → J l w'

/-- The function value seq, called with a yield, hands it one of the lists of S, one by one: fewer than N, each a T. -/
def SeqOf (P : Program) (seq : Value) (B : Nat) (w0 : World) (N : Nat) (T : Value → Prop) (S : List Value → Prop) : Prop :=
  (∃ g first cap, seq = .func (.func g) first cap) ∧
  ∀ (J : List Value → World → Prop) (y : Value) (w : World) (R : Value → World → Prop), Kp B w0 w → Stab J → J [] w →
    (∀ pre x w', Kp B w0 w' → J pre w' → pre.length < N → T x → ∀ R' : Value → World → Prop, (∀ w'', Kp B w' w'' → J (pre ++ [x]) w'' → R' (.bool true) w'') → CaV P y #[x] w' R') →
    (∀ w' xs, S xs → J xs w' → Kp B w0 w' → R (.tuple #[]) w') → CaV P seq #[y] w R
end Go.Proofs.Ytemklabamlifdaa.St

/- A range over a map, wherever its iterator lies. It names no program. -/
namespace Go.Proofs.Ytemklabamlifdaa.St
open Go

section
variable {P : Program}
/-- 'next' over a map that stands as it was: nothing is left; or one that is left comes out. -/
theorem next_at {w : World} {ty : TypeId} {it bm since c0 : Nat} {seen : Array Nat} {es : Array MapEntry} {clock : Nat} (hit : w.heap[it]? = some (.mapIter (some bm) since seen c0)) (hb : w.heap[bm]? = some (.map es clock))
    (hold : ∀ x ∈ es.toList, x.born < since) (hsc : since ≤ c0) :
    ((leftOf es seen).size = 0 ∧ (Instr.next (.pointer (some ⟨it, 0, none⟩)) false ty).run P w = .ok (.tuple #[.bool false]) w) ∨
    ∃ e ∈ (leftOf es seen).toList, ∃ w' : World, (Instr.next (.pointer (some ⟨it, 0, none⟩)) false ty).run P w = .ok (.tuple #[.bool true, e.key, e.val]) w' ∧ Mod (on it) w w' ∧
      w'.heap[it]? = some (.mapIter (some bm) since (seen.push e.born) clock) := by
  simp only [Instr.next, getObj, Sem.run_bind, Sem.run, hit, hb, Result.andThen, next_test_false seen es since c0 hold hsc, Bool.false_eq_true, if_false]
  unfold leftOf
  have hmem : ∀ x ∈ (Array.filter (fun e => !seen.contains e.born) es).toList, x.born < since := fun x hx => hold x (by simp at hx ⊢; exact hx.1)
  generalize Array.filter (fun e => !seen.contains e.born) es = L at hmem ⊢
  have e1 : L.filter (fun x => decide (x.born < since)) = L := Array.filter_eq_self.2 (fun x hx => by simpa using hmem x (by simpa using hx))
  have e2 : L.filter (fun x => decide (x.born ≥ since)) = #[] := by
    rw [Array.filter_eq_empty_iff]
    intro x hx
    have := hmem x (by simpa using hx)
    simp
    omega
  simp only [e1, e2, Array.append_empty]
  by_cases h0 : L.size = 0
  · left
    have : L = #[] := Array.eq_empty_of_size_eq_zero h0
    subst this
    refine ⟨rfl, ?_⟩
    simp [choose, Sem.run, Question.forced]
  · right
    have hne : L.isEmpty = false := by simp [Array.isEmpty, h0]
    simp only [hne, Bool.false_eq_true, if_false, Array.empty_append, Array.size_map]
    have hch : ∃ (j : Nat) (w1 : World), j < L.size ∧ Mod no w w1 ∧ w1.heap = w.heap ∧ (choose (Question.mapNext L.size)).run P w = .ok j w1 := by
      by_cases hf : L.size ≤ 1
      · exact ⟨0, w, by omega, Mod.refl _ _, rfl, by simp [choose, Sem.run, Question.forced, hf]⟩
      · exact ⟨_, w.drew, Nat.mod_lt _ (by omega), Mod.drew w, rfl, by
          simp only [choose, Sem.run, Question.forced, decide_eq_true_eq, hf, if_false, Question.cut]
          rfl⟩
    obtain ⟨j, w1, hj, hm1, hheap, hrun⟩ := hch
    have hit1 : w1.heap[it]? = some (.mapIter (some bm) since seen c0) := by rw [hheap, hit]
    have hset : ∀ o' : Obj, (setObj it o').run P w1 = .ok () (w1.putObj it o') := fun o' => by
      simp [setObj, Sem.run, hit1, World.putObj]
    refine ⟨L[j], by simp, w1.putObj it (.mapIter (some bm) since (seen.push L[j].born) clock), ?_, hm1.no_trans (Mod.putObj w1 it _), put_at _ hit1⟩
    simp only [hrun, Array.getElem?_map, Array.getElem?_eq_getElem hj, Option.map_some, Sem.run_bind, hset, Result.andThen]
    rfl

theorem entry_at {w : World} {it bm since : Nat} {seen : Array Nat} {es : Array MapEntry} {clock : Nat} {e : MapEntry} (hit : w.heap[it]? = some (.mapIter (some bm) since (seen.push e.born) clock)) (hb : w.heap[bm]? = some (.map es clock))
    (he : e ∈ es.toList) (hn : (es.toList.map (·.born)).Nodup) : (Instr.entry (.pointer (some ⟨it, 0, none⟩))).run P w = .ok (.tuple #[e.key, e.val]) w := by
  have hf : es.find? (·.born == e.born) = some e := by rw [← Array.find?_toList]; exact find_born e es.toList hn he
  simp only [Instr.entry, getObj, Sem.run_bind, Sem.run, hit, hb, Result.andThen, Array.back?_push, bne_self_eq_false, Bool.false_eq_true, if_false, hf]
  rfl
end

theorem filter_perm {p q : MapEntry → Bool} {e : MapEntry} : ∀ {l : List MapEntry}, (l.map (·.born)).Nodup → e ∈ l → p e = true → (∀ x ∈ l, q x = (p x && !(x.born == e.born))) → (l.filter p).Perm (e :: l.filter q)
  | [], _, h, _, _ => by simp at h
  | x :: l, hn, he, hp, hq => by
    rw [List.map_cons, List.nodup_cons] at hn
    have hqx := hq x (by simp)
    rcases List.mem_cons.1 he with rfl | he'
    · have hqe : q e = false := by rw [hqx]; simp
      rw [List.filter_cons_of_pos hp, List.filter_cons_of_neg (by simp [hqe])]
      have : l.filter p = l.filter q := by
        apply List.filter_congr
        intro y hy
        rw [hq y (by simp [hy])]
        have : (y.born == e.born) = false := beq_false_of_ne fun h => hn.1 (by rw [← h]; exact List.mem_map_of_mem hy)
        simp [this]
      rw [this]
    · have hne : (x.born == e.born) = false := beq_false_of_ne fun h => hn.1 (by rw [h]; exact List.mem_map_of_mem he')
      have ih := filter_perm (l := l) hn.2 he' hp fun y hy => hq y (by simp [hy])
      have hqp : q x = p x := by rw [hqx, hne]; simp
      cases hpx : p x with
      | true =>
        rw [List.filter_cons_of_pos hpx, List.filter_cons_of_pos (by rw [hqp, hpx])]
        exact (List.Perm.cons x ih).trans (List.Perm.swap e x _)
      | false =>
        rw [List.filter_cons_of_neg (by simp [hpx]), List.filter_cons_of_neg (by simp [hqp, hpx])]
        exact ih

theorem left_perm {es : Array MapEntry} {seen : Array Nat} {e : MapEntry} (hn : (es.toList.map (·.born)).Nodup) (he : e ∈ (leftOf es seen).toList) :
    (leftOf es seen).toList.Perm (e :: (leftOf es (seen.push e.born)).toList) := by
  obtain ⟨h1, h2⟩ := mem_left he
  simp only [leftOf, Array.toList_filter]
  refine filter_perm hn h1 (by simpa using h2) fun x _ => ?_
  rw [contains_push, Bool.not_or]
end Go.Proofs.Ytemklabamlifdaa.St

/- Contracts of the store's functions: what room is free. -/
namespace Go.Proofs.Ytemklabamlifdaa
open Go Go.Proofs.Ytemklabamlifdaa.St

/-- What an entry's file needs, where fl tells a file's length. -/
def cost (fl : Nat → Nat) (v : Value) : Nat := match v with
  | .pointer (some a) => 16 + fl a.block
  | _ => 0
def needD (fl : Nat → Nat) (D : List (ByteArray × Nat)) : Nat := (D.map fun p => 16 + fl p.2).sum

theorem free_ok (s : Nat) (x : Sto) (fl : Nat → Nat) (w : World) (hs : StAt w s x) (hfl : ∀ p ∈ x.now, ∃ a c b m d, w.heap[p.2]? = some (.cells #[.slice a (fl p.2) c, .slice b m d] 73 (0, 0)))
    (h0 : needD fl x.now ≤ 1152921504606846976) (hr0 : 0 ≤ x.room) (hr : x.room ≤ 1073741824) (R : Value → World → Prop) (h : ∀ w', Mod no w w' → R (.int .i64 (x.room - needD fl x.now)) w') :
    Ca Try.prog 37 #[.pointer (some ⟨s, 0, none⟩)] w R := by
  refine ca37 _ w R ?_
  obtain ⟨es, clock, hes, hkv, hn, hc⟩ := hs.now
  refine ⟨x.room, by rw [cl1 hs.cell]; rfl, some x.nb, by rw [cl1 hs.cell]; rfl, es, clock, hes, ?_⟩
  intro w3 e3
  have m3 : Mod no w w3 := by subst e3; exact Mod.alloc _ _
  have b3 : w3.heap[w.heap.size]? = some (.mapIter (some x.nb) clock #[] clock) := by subst e3; exact new_at _ _
  clear e3
  have hall : ∀ e ∈ es.toList, ∃ p ∈ x.now, e.val = .pointer (some ⟨p.2, 0, none⟩) := by
    intro e he
    have : (e.key, e.val) ∈ kvL Value.string (dirL x.now) := by rw [← hkv]; exact List.mem_map.2 ⟨e, he, rfl⟩
    simp only [kvL, dirL, List.map_map, List.mem_map, Function.comp, Prod.mk.injEq] at this
    obtain ⟨p, hp, _, hv⟩ := this
    exact ⟨p, hp, hv.symm⟩
  have hsum : (es.toList.map fun e => cost fl e.val).sum = needD fl x.now := by
    have h1 : (es.toList.map fun e => cost fl e.val) = ((es.toList.map fun e => (e.key, e.val)).map fun p => cost fl p.2) := by rw [List.map_map]; rfl
    rw [h1, hkv, kvL, dirL, needD, List.map_map, List.map_map]
    rfl
  have psum : ∀ {a b : List MapEntry}, (a ++ b).Perm es.toList → (a.map fun e => cost fl e.val).sum + (b.map fun e => cost fl e.val).sum = needD fl x.now := fun hp => by
    rw [← hsum, ← List.sum_append, ← List.map_append]
    exact (hp.map _).sum_nat
  refine ⟨fun y w' => ∃ (seen : Array Nat) (c0 : Nat) (got : List MapEntry), w'.heap[w.heap.size]? = some (.mapIter (some x.nb) clock seen c0) ∧ clock ≤ c0 ∧ (got ++ (leftOf es seen).toList).Perm es.toList ∧ y = x.room - ((got.map fun e => cost fl e.val).sum : Nat) ∧ Mod no w w',
    fun _ w' => match w'.heap[w.heap.size]? with | some (.mapIter _ _ seen _) => (leftOf es seen).size | _ => 0, ⟨#[], clock, [], b3, Nat.le_refl _, by simp only [leftOf, Array.toList_filter, List.nil_append]; exact .of_eq (List.filter_eq_self.2 (by simp)), by simp, m3⟩, ?_⟩
  rintro _ _ w7 ⟨seen, c0, got, hit, hcc, hperm, rfl, m7⟩
  have hm7 := m7.at' hes
  rcases next_at (P := Try.prog) (ty := 0) hit hm7 hc hcc with ⟨hz, hrun⟩ | ⟨e, he, w8, hrun, m8, hit8⟩
  · refine ⟨_, w7, hrun, .inl ⟨rfl, ?_⟩⟩
    have hl : (leftOf es seen).toList = [] := List.eq_nil_of_length_eq_zero (by simpa using hz)
    have := psum hperm
    rw [hl] at this
    simp only [List.map_nil, List.sum_nil, Nat.add_zero] at this
    rw [this]
    exact h w7 m7
  · refine ⟨_, w8, hrun, .inr ⟨_, _, rfl, ?_⟩⟩
    have hmem := (mem_left he).1
    have m8' : Mod no w w8 := m7.new m8 fun k hk => by cases hk; exact Nat.le_refl _
    obtain ⟨p, hp, hv⟩ := hall e hmem
    obtain ⟨a, c, b, m, d, hf⟩ := hfl p hp
    have hperm' : ((got ++ [e]) ++ (leftOf es (seen.push e.born)).toList).Perm es.toList := by
      rw [List.append_assoc]
      exact ((List.Perm.append_left got (left_perm hn he)).symm).trans hperm
    have hps := psum hperm'
    have hcost : cost fl e.val = 16 + fl p.2 := by rw [hv]; rfl
    rw [List.map_append, List.sum_append, List.map_cons, List.map_nil, List.sum_cons, List.sum_nil, Nat.add_zero, hcost] at hps
    refine ⟨e.key, e.val, entry_at hit8 (m8'.at' hes) hmem hn, ?_⟩
    rw [hv]
    refine ⟨a, fl p.2, c, by rw [cl1 (m8'.at' hf)]; rfl, ⟨seen.push e.born, clock, got ++ [e], hit8, Nat.le_refl _, hperm', ?_, m8'⟩, ?_⟩
    · rw [List.map_append, List.sum_append, List.map_cons, List.map_nil, List.sum_cons, List.sum_nil, Nat.add_zero, hcost]
      rw [wrap64 (x := 16 + ((fl p.2 : Nat) : Int)) (by omega) (by omega), wrap64 (by omega) (by omega)]
      omega
    · simp only [hit8, hit]
      exact left_shrinks es seen e he
end Go.Proofs.Ytemklabamlifdaa

/- Bytes as they lie; the library's Clone, Grow, Concat, Equal of them; the reference's Same. -/
namespace Go.Proofs.Ytemklabamlifdaa
open Go Go.Proofs.Ytemklabamlifdaa.St

abbrev Bs := List UInt8
def u8v (b : UInt8) : Value := .int .u8 (b.toNat : Int)
theorem u8one : ∀ x, (u8v x).oneCell' = true := fun _ => rfl

theorem cell_lt' {w : World} {ad : Addr} {v : Value} (h : w.cell? ad = some v) : ad.block < w.heap.size := by
  unfold World.cell? at h
  cases hb : w.heap[ad.block]? with
  | none => rw [hb] at h; cases h
  | some o => exact lt_of_heap hb
theorem cell_mod {S : Nat → Prop} {w w' : World} (h : Mod S w w') {ad : Addr} {v : Value} (hc : w.cell? ad = some v) (hs : ¬ S ad.block) : w'.cell? ad = some v := by
  have := h.keep ad.block (cell_lt' hc) hs
  unfold World.cell? at hc ⊢
  rw [this]
  exact hc
theorem block_add (ad : Addr) (n : Nat) : (Addr.add ad n).block = ad.block := by unfold Addr.add; split <;> rfl
theorem sub0 (a : Option Addr) (c : Nat) : (if c = 0 then a else Option.map (fun x => Addr.add x 0) a) = a := by
  split
  · rfl
  · cases a <;> simp [Addr.add]

/-- Bytes that are read, wherever they lie. -/
structure Rd (w : World) (a : Option Addr) (l c : Nat) (bs : Bs) : Prop where
  len : bs.length = l
  le : l ≤ c
  cm : c ≤ 9223372036854775807
  all : ∀ ad, a = some ad → ∀ j v, (bs.map u8v)[j]? = some v → w.cell? (ad.add j) = some v
  nil : a = none → l = 0 ∧ c = 0

section
variable {w w' : World} {a : Option Addr} {l c : Nat} {bs : Bs} {e : TypeId}
theorem Rd.mod {S : Nat → Prop} (h : Rd w a l c bs) (hm : Mod S w w') (hs : ∀ k, rowB a k → ¬ S k) : Rd w' a l c bs :=
  ⟨h.len, h.le, h.cm, fun ad had j v hj => cell_mod hm (h.all ad had j v hj) (by rw [block_add]; exact hs _ (by rw [had]; rfl)), h.nil⟩
theorem Rd.mod' {S : Nat → Prop} (h : Rd w a l c bs) (hm : Mod S w w') (hs : 0 < l → ∀ k, rowB a k → ¬ S k) : Rd w' a l c bs := by
  by_cases h0 : 0 < l
  · exact h.mod hm (hs h0)
  · refine ⟨h.len, h.le, h.cm, fun ad _ j v hj => ?_, h.nil⟩
    have : bs = [] := List.eq_nil_of_length_eq_zero (by have := h.len; omega)
    subst this
    simp at hj
theorem Rd.lt (h : Rd w a l c bs) (h0 : 0 < l) : ∀ k, rowB a k → k < w.heap.size := by
  intro k hk
  cases a with
  | none => simp [rowB] at hk
  | some ad =>
    simp [rowB] at hk
    subst hk
    have hb : 0 < bs.length := by have := h.len; omega
    have := cell_lt' (h.all ad rfl 0 (u8v bs[0]) (by simp [hb]))
    rwa [block_add] at this
theorem Rd.no (h : Rd w a l c bs) (hm : Mod no w w') : Rd w' a l c bs := h.mod hm fun _ _ => id
theorem Rd.of_els (h : Els u8v e w a l c bs) : Rd w a l c bs := ⟨h.len.1, h.len.2.1, h.len.2.2, (h.all u8one).1, (h.all u8one).2⟩
theorem Rd.take (h : Rd w a l c bs) {k : Nat} (hk : k ≤ l) : Rd w a k c (bs.take k) := by
  refine ⟨by rw [List.length_take, h.len]; omega, by have := h.le; omega, h.cm, fun ad had j v hj => h.all ad had j v ?_, fun hn => ?_⟩
  · rw [List.map_take, List.getElem?_take] at hj
    split at hj
    · exact hj
    · cases hj
  · have := h.nil hn
    omega
theorem Rd.get (h : Rd w a l c bs) {i : Nat} (hi : i < bs.length) : ∃ ad, a = some ad ∧ w.cell? (Addr.add ad (i * 1)) = some (u8v bs[i]) := by
  cases a with
  | none => have := h.nil rfl; have := h.len; omega
  | some ad => exact ⟨ad, rfl, h.all ad rfl _ _ (by rw [Nat.mul_one]; simp [hi])⟩
theorem Els.take (h : Els u8v e w a l c bs) {k : Nat} (hk : k ≤ l) : Els u8v e w a k c (bs.take k) := by
  have hl := h.len.1
  refine ⟨by rw [List.length_map, List.length_take, hl]; omega, ?_⟩
  rcases h.2 with ⟨hv, h0⟩ | ⟨g, cap, cur, hv, hb, hg, h1, h2, h3, h4⟩
  · injection hv with e1 e2 e3
    subst e1; subst e3
    obtain rfl : k = 0 := by omega
    exact .inl ⟨rfl, rfl⟩
  · injection hv with e1 e2 e3
    subst e1; subst e3
    refine .inr ⟨g, c, cur, rfl, hb, hg, by omega, h2, h3, ?_⟩
    rw [List.map_take, ← h4, List.take_take, Nat.mul_one, Nat.mul_one, Nat.min_eq_left hk]

theorem str_ok (h : Rd w a l c bs) : (convert 24 9 (.slice a l c)).run Try.prog w = .ok (.string ⟨bs.toArray⟩) w := by
  cases a with
  | none =>
    obtain ⟨rfl, rfl⟩ := h.nil rfl
    have : bs = [] := List.eq_nil_of_length_eq_zero h.len
    subst this
    exact Lib.run_convert_nil_bytes w _ _ 5 0 Try.underlying24 Try.underlying5 Try.underlying9
  | some ad =>
    rw [← h.len]
    exact run_convert_bytes_back w _ _ 5 ad c bs Try.underlying24 Try.underlying5 Try.underlying9 fun j hj => h.all ad rfl j _ (by simp [hj]; rfl)
theorem str_eq (x y : Bs) : (ByteArray.toList ⟨x.toArray⟩ == ByteArray.toList ⟨y.toArray⟩) = decide (x = y) := by
  rw [byteArray_toList, byteArray_toList, Bool.eq_iff_iff]
  simp
end

theorem same_ok {w : World} {a b : Option Addr} {al ac bl bc : Nat} {xs ys : Bs} (hx : Rd w a al ac xs) (hy : Rd w b bl bc ys) (R : Value → World → Prop) (h : R (.bool (decide (xs = ys))) w) :
    Ca Try.prog 21 #[.slice a al ac, .slice b bl bc] w R := by
  refine ca21 a al ac b bl bc w R ?_
  refine ⟨_, w, str_ok hx, _, rfl, _, w, str_ok hy, _, rfl, ?_⟩
  rw [str_eq]
  exact h

theorem equal_ok {w : World} {a b : Option Addr} {al ac bl bc : Nat} {xs ys : Bs} (hx : Rd w a al ac xs) (hy : Rd w b bl bc ys) (hn : al < 4611686018427387904) (R : Value → World → Prop) (h : ∀ w', Mod no w w' → R (.bool (decide (xs = ys))) w') :
    Ca Try.prog 47 #[.slice a al ac, .slice b bl bc] w R := by
  have hxl := hx.len
  have hyl := hy.len
  refine ca47 a al ac b bl bc w R ?_
  refine ifK_of (fun hne => ?_) (fun he => ?_)
  · have : ¬ xs = ys := fun e => by
      subst e
      have hne : ((al : Int) != (bl : Int)) = true := hne
      simp at hne
      omega
    have h := h w (Mod.refl _ _)
    rwa [decide_eq_false this] at h
  · have hll : al = bl := by
      have he : ((al : Int) != (bl : Int)) = false := he
      simp at he
      omega
    refine ⟨fun x w' => ∃ i : Nat, x = i ∧ i ≤ al ∧ Mod no w w' ∧ xs.take i = ys.take i, fun x _ => ((al : Int) - x).toNat, ⟨0, rfl, Nat.zero_le _, Mod.refl _ _, rfl⟩, ?_⟩
    rintro _ _ w4 ⟨i, rfl, hi, m4, heq⟩
    have e1 : i < al → IntKind.i64.wrap ((i : Int) + 1) = ((i + 1 : Nat) : Int) := fun h => by rw [wrap64 (by omega) (by omega)]; rfl
    refine ifK_dec (fun hlt => ?_) (fun hge => ?_)
    · have hlt' : i < al := by omega
      intro w5 e5
      have m5 : Mod no w w5 := by subst e5; exact m4.trans (Mod.drew _)
      clear e5
      obtain ⟨ad, had, hc⟩ := (hx.no m5).get (i := i) (by omega)
      obtain ⟨bd, hbd, hd⟩ := (hy.no m5).get (i := i) (by omega)
      rw [e1 hlt']
      clear e1
      refine ⟨ad, had, by omega, hlt, _, by rw [Int.toNat_natCast]; exact hc, bd, hbd, by omega, by omega, _, by rw [Int.toNat_natCast]; exact hd, ifK_of (fun hne => ?_) (fun hee => ?_)⟩
      · have hne : ((xs[i].toNat : Int) != (ys[i].toNat : Int)) = true := hne
        have : ¬ xs = ys := fun e => by
          subst e
          simp at hne
        have h := h w5 m5
        rwa [decide_eq_false this] at h
      · have hee : ((xs[i].toNat : Int) != (ys[i].toNat : Int)) = false := hee
        have hb : xs[i] = ys[i] := by
          simp at hee
          exact UInt8.toNat_inj.1 (by omega)
        refine ⟨⟨i + 1, rfl, hlt', m5, ?_⟩, by simp only; omega⟩
        rw [List.take_add_one, List.take_add_one, heq, List.getElem?_eq_getElem (by omega), List.getElem?_eq_getElem (by omega), hb]
    · have h := h w4 m4
      have hi' : i = al := by omega
      rw [List.take_of_length_le (by omega), List.take_of_length_le (by omega)] at heq
      rwa [decide_eq_true heq] at h

theorem bytesLaid : laidOk Try.prog 24 5 1 = true := by kernel_rfl
theorem clone8_ok {w : World} {a : Option Addr} {l c : Nat} {bs : Bs} (hx : Rd w a l c bs) (hn : l ≤ 1099511627776) (R : Value → World → Prop)
    (h : ∀ w' a' c', Els u8v 5 w' a' l c' bs → Mod no w w' → (∀ k, rowB a' k → w.heap.size ≤ k) → R (.slice a' l c') w') : Ca Try.prog 48 #[.slice a l c] w R := by
  refine ca48 a l c w R ?_
  cases a with
  | none =>
    obtain ⟨rfl, rfl⟩ := hx.nil rfl
    have : bs = [] := List.eq_nil_of_length_eq_zero hx.len
    subst this
    exact (ifK_of (fun _ => h w none 0 (Els.nil _ _) (Mod.refl _ _) (fun k hk => by simp [rowB] at hk)) (fun h => by cases h) : ifK true _ _)
  | some ad =>
    refine (ifK_of (fun h => by cases h) (fun _ => ?_) : ifK false _ _)
    intro w0 e0
    have m0 : Mod no w w0 := by subst e0; exact Mod.alloc _ _
    have b0 : w0.heap[w.heap.size]? = some (.cells #[] 5 (0, 0)) := by subst e0; exact new_at _ _
    clear e0
    have r0 : Els u8v 5 w0 (some ⟨w.heap.size, 0, none⟩) 0 0 [] := Els.lit u8one b0 [] rfl (by decide)
    have hx0 := hx.no m0
    obtain ⟨a', c', w', hrun, h2, h3, h4⟩ := r0.push (P := Try.prog) (ty := 24) u8one bytesLaid (ys := bs) (m := l) (cc := c) hx.len hx0.all hx0.nil (by omega)
    rw [Nat.zero_add] at hrun h2
    refine ⟨_, w', hrun, _, _, _, rfl, h w' a' c' h2 (m0.new h3 fun k hk => by simp [rowB] at hk; omega) fun k hk => ?_⟩
    rcases h4 k hk with h | h
    · simp [rowB] at h; omega
    · exact Nat.le_trans m0.size h

theorem run_append_made {P : Program} (w : World) (t k ty e : TypeId) (i : TypeInfo) (z : Value) (ht : P.underlying t = some (.slice e)) (hk : P.underlying k = some (.int .i64)) (hi : P.info? e = some i) (hz : i.zero = some z) (hs : i.size = 1) (hb : i.bytes = 1)
    (n : Nat) (h0 : 0 < n) (hn : n ≤ 1099511627776) :
    (Builtin.append_ #[t, k] ty #[.slice none 0 0, .int .i64 n]).run P w =
      .ok (.slice (some ⟨w.heap.size, 0, none⟩) n (grownCap w n 0 e)) (w.drew.alloc (.cells (Builtin.zeroCells z.cells n ++ Builtin.zeroCells z.cells (grownCap w n 0 e - n)) e)) := by
  have hw : IntKind.i64.wrap (n : Int) = n := wrap64 (by omega) (by omega)
  have h1 : ¬ ((n : Int) < 0) := by omega
  have h2 : ¬ ((n : Int) > 281474976710656) := by omega
  have h3 : ¬ n = 0 := by omega
  have h63' : ¬ (9223372036854775807 < (n : Int)) := by omega
  have h48' : ¬ (281474976710656 < Builtin.nextslicecap n 0) := by rw [nextslicecap_zero h0]; omega
  simp [Builtin.append_, run_underlying ht, run_underlying hk, sizeOf, typeInfo, zeroValue, hi, hz, hs, hb, asInt, asIntOf, hw, h1, h2, h3, h63', h48', Question.forced, run_firstCells_none, newRow, grownCap]
theorem grow8_ok (w : World) (n : Nat) (hn : n ≤ 1099511627776) (R : Value → World → Prop)
    (h : ∀ w' a c, Els u8v 5 w' a 0 c [] → Mod no w w' → (∀ k, rowB a k → w.heap.size ≤ k) → R (.slice a 0 c) w') : Ca Try.prog 68 #[.slice none 0 0, .int .i64 n] w R := by
  refine ca68 none 0 0 n w R ?_
  have e0 : IntKind.i64.wrap (((0 : Nat) : Int) - ((0 : Nat) : Int)) = 0 := by decide
  have e1 : IntKind.i64.wrap ((n : Int) - 0) = n := by rw [Int.sub_zero]; exact wrap64 (by omega) (by omega)
  rw [W68, e0, e1]
  refine ifK_dec (fun h => by omega) (fun _ => ?_)
  refine ifK_dec (fun hpos => ?_) (fun hz => ?_)
  · refine ⟨by decide, by decide, by decide, ?_⟩
    obtain ⟨ht, i, z, hi, hz, hs, hby, hzs⟩ := laidOk_of bytesLaid
    have hb1 : i.bytes = 1 := by
      have : (Try.prog.info? 5).map (·.bytes) = some 1 := by kernel_rfl
      rw [hi] at this
      injection this
    have hrun := run_append_made (P := Try.prog) w 24 3 24 5 i z ht Try.underlying3 hi hz hs hb1 n (by omega) hn
    refine ⟨_, _, hrun, _, _, _, rfl, by decide, by decide, by simp, ?_⟩
    rw [sub0]
    refine h _ _ _ ?_ (Mod.no_trans (Mod.drew _) (Mod.alloc _ _)) (fun k hk => by simp [rowB] at hk; omega)
    have hge := grownCap_ge w n 0 5
    have hle := grownCap_le_maxLen w n 0 5 (by simp only [maxLen]; omega)
    refine ⟨rfl, .inr ⟨w.heap.size, grownCap w n 0 5, _, rfl, Nat.zero_le _, new_at w.drew _, Nat.zero_le _, hle, ?_, by simp⟩⟩
    simp only [Array.size_append, size_zeroCells, hzs, Nat.mul_one]
    omega
  · exact h w none 0 (Els.nil _ _) (Mod.refl _ _) (fun k hk => by simp [rowB] at hk)

theorem concat8_ok {w : World} {g : Nat} {t : TypeId} {a b : Option Addr} {al ac bl bc : Nat} {xs ys : Bs} (hg : w.heap[g]? = some (.cells #[.slice a al ac, .slice b bl bc] t (0, 0))) (hx : Rd w a al ac xs) (hy : Rd w b bl bc ys) (hn : al + bl ≤ 1099511627776) (R : Value → World → Prop)
    (h : ∀ w' a' c', Els u8v 5 w' a' (al + bl) c' (xs ++ ys) → Mod no w w' → (∀ k, rowB a' k → w.heap.size ≤ k) → R (.slice a' (al + bl) c') w') :
    Ca Try.prog 41 #[.slice (some ⟨g, 0, none⟩) 2 2] w R := by
  refine ca41 (some ⟨g, 0, none⟩) 2 2 w R ?_
  have hxl := hx.len
  have hyl := hy.len
  refine ⟨fun s x w' => w' = w ∧ ((x = 0 ∧ s = 0) ∨ (x = 1 ∧ s = al) ∨ (x = 2 ∧ s = (al + bl : Nat))), fun _ x _ => (2 - x).toNat, ⟨rfl, .inl ⟨rfl, rfl⟩⟩, ?_⟩
  rintro _ s x w1 ⟨rfl, hc⟩
  refine ifK_dec (fun hlt => ?_) (fun hge => ?_)
  · have w1e : IntKind.i64.wrap (0 + (al : Int)) = al := by rw [Int.zero_add]; exact wrap64 (by omega) (by omega)
    have w2e : IntKind.i64.wrap ((al : Int) + (bl : Int)) = (al + bl : Nat) := by rw [wrap64 (by omega) (by omega)]; omega
    rcases hc with ⟨rfl, rfl⟩ | ⟨rfl, rfl⟩ | ⟨rfl, rfl⟩
    · refine ⟨_, rfl, by decide, by decide, a, al, ac, by rw [cl1 hg]; rfl, ?_⟩
      rw [w1e]
      refine ifK_dec (fun h => by omega) (fun _ => ⟨⟨rfl, .inr (.inl ⟨by decide, rfl⟩)⟩, by simp only; decide⟩)
    · refine ⟨_, rfl, by decide, by decide, b, bl, bc, by rw [cl1 hg]; rfl, ?_⟩
      rw [w2e]
      refine ifK_dec (fun h => by omega) (fun _ => ⟨⟨rfl, .inr (.inr ⟨by decide, rfl⟩)⟩, by simp only; decide⟩)
    · exact absurd hlt (by decide)
  · have hs : s = (al + bl : Nat) := by
      rcases hc with ⟨rfl, rfl⟩ | ⟨rfl, rfl⟩ | ⟨rfl, rfl⟩
      · exact absurd (by decide) hge
      · exact absurd (by decide) hge
      · rfl
    rw [hs]
    clear hs hc hge
    refine grow8_ok w1 _ hn _ fun w2 p c r2 m2 n2 => ⟨p, 0, c, rfl, ?_⟩
    refine ⟨fun p l c x w' => ∃ i : Nat, x = i ∧ i ≤ 2 ∧ Mod no w1 w' ∧ (∀ k, rowB p k → w1.heap.size ≤ k) ∧ Els u8v 5 w' p l c ((if 0 < i then xs else []) ++ (if 1 < i then ys else [])), fun _ _ _ x _ => (2 - x).toNat, ⟨0, rfl, by decide, m2, n2, r2⟩, ?_⟩
    rintro _ p l c _ w3 ⟨i, rfl, hi, m3, n3, r3⟩
    have add : ∀ {d : Option Addr} {dl dc : Nat} {zs : Bs}, Rd w1 d dl dc zs → dl ≤ al + bl → xs.length + ys.length = al + bl → l + dl ≤ al + bl → ∃ a' c' w', (Builtin.append_ #[24, 24] 24 #[.slice p l c, .slice d dl dc]).run Try.prog w3 = .ok (.slice a' (l + dl) c') w' ∧
        Els u8v 5 w' a' (l + dl) c' (((if 0 < i then xs else []) ++ (if 1 < i then ys else [])) ++ zs) ∧ Mod no w1 w' ∧ (∀ k, rowB a' k → w1.heap.size ≤ k) := by
      intro d dl dc zs hd _ _ hl
      have hd3 := hd.no m3
      obtain ⟨a', c', w', q1, q2, q3, q4⟩ := r3.push (P := Try.prog) (ty := 24) u8one bytesLaid (ys := zs) hd3.len hd3.all hd3.nil (by omega)
      refine ⟨a', c', w', q1, q2, m3.new q3 n3, fun k hk => ?_⟩
      rcases q4 k hk with h | h
      · exact n3 k h
      · exact Nat.le_trans m3.size h
    have hlen := r3.len.1
    have hg3 := m3.at' hg
    match i, hi with
    | 0, _ =>
      refine (ifK_of (fun _ => ?_) (fun h => by cases h) : ifK true _ _)
      obtain ⟨a', c', w', q1, q2, q3, q4⟩ := add hx (by omega) (by omega) (by simp at hlen; omega)
      refine ⟨_, rfl, by decide, by decide, a, al, ac, by rw [cl1 hg3]; rfl, _, w', q1, _, _, _, rfl, ⟨1, by decide, by decide, q3, q4, by simpa using q2⟩, by simp only; decide⟩
    | 1, _ =>
      refine (ifK_of (fun _ => ?_) (fun h => by cases h) : ifK true _ _)
      obtain ⟨a', c', w', q1, q2, q3, q4⟩ := add hy (by omega) (by omega) (by simp at hlen; omega)
      refine ⟨_, rfl, by decide, by decide, b, bl, bc, by rw [cl1 hg3]; rfl, _, w', q1, _, _, _, rfl, ⟨2, by decide, by decide, q3, q4, by simpa using q2⟩, by simp only; decide⟩
    | 2, _ =>
      refine (ifK_of (fun h => by cases h) (fun _ => ?_) : ifK false _ _)
      have hll : l = al + bl := by simp at hlen; omega
      subst hll
      exact h w3 p c (by simpa using r3) m3 n3
end Go.Proofs.Ytemklabamlifdaa
