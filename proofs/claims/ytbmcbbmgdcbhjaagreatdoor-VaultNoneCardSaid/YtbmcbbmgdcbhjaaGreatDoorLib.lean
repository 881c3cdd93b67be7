/- The lemmas of my own walk about the heap: what stays, rows, maps, small words. It names no program. -/
import Derived.Test.YtbmcbbmgdcbhjaaGreatDoorCore9
import Derived.Laws.OwnMore
import Derived.Laws.CopyOwn
import Derived.Laws.IdiomRangeMap
import Derived.Laws.BitsLemmas
import Derived.LaidEqlPtr
namespace Go.Proofs.YtbmcbbmgdcbhjaaGreatDoor.St
open Go

def no : Nat → Prop := fun _ => False
def on (g : Nat) : Nat → Prop := fun k => k = g

section
variable {S T : Nat → Prop} {w w' w'' : World}
theorem Mod.refl (S : Nat → Prop) (w : World) : Mod S w w := ⟨rfl, rfl, rfl, Nat.le_refl _, fun _ _ _ => rfl⟩
theorem Mod.trans (h : Mod S w w') (h' : Mod S w' w'') : Mod S w w'' :=
  ⟨h'.os.trans h.os, h'.tape.trans h.tape, h'.output.trans h.output, Nat.le_trans h.size h'.size,
    fun k hk hs => (h'.keep k (Nat.lt_of_lt_of_le hk h.size) hs).trans (h.keep k hk hs)⟩
theorem Mod.mono (h : Mod S w w') (hst : ∀ k, k < w.heap.size → S k → T k) : Mod T w w' :=
  ⟨h.os, h.tape, h.output, h.size, fun k hk hs => h.keep k hk fun hs' => hs (hst k hk hs')⟩
/-- Behind h, what h' changed beyond S was new. -/
theorem Mod.trans' (h : Mod S w w') (h' : Mod T w' w'') (hst : ∀ k, k < w.heap.size → T k → S k) : Mod S w w'' :=
  ⟨h'.os.trans h.os, h'.tape.trans h.tape, h'.output.trans h.output, Nat.le_trans h.size h'.size,
    fun k hk hs => (h'.keep k (Nat.lt_of_lt_of_le hk h.size) fun ht => hs (hst k hk ht)).trans (h.keep k hk hs)⟩
theorem Mod.no_trans (h : Mod no w w') (h' : Mod S w' w'') : Mod S w w'' := (h.mono fun _ _ h => h.elim).trans h'
theorem Mod.trans_no (h : Mod S w w') (h' : Mod no w' w'') : Mod S w w'' := h.trans (h'.mono fun _ _ h => h.elim)
theorem Mod.of_no (h : Mod no w w') : Mod S w w' := h.mono fun _ _ h => h.elim
theorem lt_of_heap {k : Nat} {o : Obj} (h : w.heap[k]? = some o) : k < w.heap.size := (Array.getElem?_eq_some_iff.1 h).1
theorem Mod.at {k : Nat} {o : Obj} (h : Mod S w w') (hk : w.heap[k]? = some o) (hs : ¬ S k) : w'.heap[k]? = some o := by
  rw [h.keep k (lt_of_heap hk) hs, hk]
theorem Mod.at' {k : Nat} {o : Obj} (h : Mod no w w') (hk : w.heap[k]? = some o) : w'.heap[k]? = some o := h.at hk id
theorem Mod.drew (w : World) : Mod no w w.drew := ⟨rfl, rfl, rfl, Nat.le_refl _, fun _ _ _ => rfl⟩
theorem Mod.alloc (w : World) (o : Obj) : Mod no w (w.alloc o) := ⟨rfl, rfl, rfl, by simp, fun k hk _ => heap_alloc_old w o hk⟩
theorem new_at (w : World) (o : Obj) : (w.alloc o).heap[w.heap.size]? = some o := heap_alloc_new w o
theorem Mod.setCell (w : World) (a : Addr) (v : Value) : Mod (on a.block) w (w.setCell a v) :=
  ⟨rfl, rfl, rfl, by simp, fun k _ hk => heap_setCell_other w a k v hk⟩
theorem Mod.putObj (w : World) (r : Nat) (o : Obj) : Mod (on r) w (w.putObj r o) :=
  ⟨rfl, rfl, rfl, by simp [World.putObj], fun k _ hk => by simp only [World.putObj]; rw [Array.getElem?_setIfInBounds_ne]; exact fun e => hk e.symm⟩
theorem put_at {r : Nat} {o : Obj} (o' : Obj) (h : w.heap[r]? = some o) : (w.putObj r o').heap[r]? = some o' := by
  simp only [World.putObj]
  rw [Array.getElem?_setIfInBounds_self_of_lt (lt_of_heap h)]
theorem Mod.grown {row : Option Nat} (h : w.grownBy w' row) : Mod (fun k => some k = row) w w' := ⟨h.os, h.tape, h.output, h.size, fun k hk hs => h.block k hk hs⟩
/-- Only blocks that were new changed. -/
theorem Mod.new {w0 : World} (h : Mod no w0 w) (h' : Mod S w w') (hs : ∀ k, S k → w0.heap.size ≤ k) : Mod no w0 w' :=
  h.trans' h' fun k hk hS => absurd (hs k hS) (by omega)
end

/-! ### Cells -/
section
variable {w : World} {k : Nat} {cs : Array Value} {e : TypeId} {fz : Nat × Nat}
theorem add_lit (b o n : Nat) : Addr.add ⟨b, o, none⟩ n = ⟨b, o + n, none⟩ := Addr.add_lit b o n
theorem cl (h : w.heap[k]? = some (.cells cs e fz)) (i : Nat) : w.cell? ⟨k, i, none⟩ = cs[i]? := cell_of_row w k i cs e fz h
theorem cl1 (h : w.heap[k]? = some (.cells cs e fz)) (i : Nat) : w.cell? (Addr.add ⟨k, 0, none⟩ i) = cs[i]? := by rw [add_lit, cl h, Nat.zero_add]
theorem cl2 (h : w.heap[k]? = some (.cells cs e fz)) (i j : Nat) : w.cell? (Addr.add (Addr.add ⟨k, 0, none⟩ i) j) = cs[i + j]? := by rw [add_lit, add_lit, cl h, Nat.zero_add]
theorem fz0 (h : w.heap[k]? = some (.cells cs e (0, 0))) (i : Nat) : w.frozen? ⟨k, i, none⟩ = false := frozen_of_row w k i cs e h
theorem fz1 (h : w.heap[k]? = some (.cells cs e (0, 0))) (i : Nat) : w.frozen? (Addr.add ⟨k, 0, none⟩ i) = false := by rw [add_lit]; exact fz0 h _
theorem fz2 (h : w.heap[k]? = some (.cells cs e (0, 0))) (i j : Nat) : w.frozen? (Addr.add (Addr.add ⟨k, 0, none⟩ i) j) = false := by rw [add_lit, add_lit]; exact fz0 h _
theorem set0 (h : w.heap[k]? = some (.cells cs e (0, 0))) (i : Nat) (v : Value) : (w.setCell ⟨k, i, none⟩ v).heap[k]? = some (.cells (cs.setIfInBounds i v) e (0, 0)) :=
  _root_.Go.heap_setCell_same w k i cs e v h
theorem set1 (h : w.heap[k]? = some (.cells cs e (0, 0))) (i : Nat) (v : Value) : (w.setCell (Addr.add ⟨k, 0, none⟩ i) v).heap[k]? = some (.cells (cs.setIfInBounds i v) e (0, 0)) := by
  rw [add_lit, Nat.zero_add]; exact set0 h i v
theorem set2 (h : w.heap[k]? = some (.cells cs e (0, 0))) (i j : Nat) (v : Value) : (w.setCell (Addr.add (Addr.add ⟨k, 0, none⟩ i) j) v).heap[k]? = some (.cells (cs.setIfInBounds (i + j) v) e (0, 0)) := by
  rw [add_lit, add_lit, Nat.zero_add]; exact set0 h _ v
theorem Mod.set1 (w : World) (k i : Nat) (v : Value) : Mod (on k) w (w.setCell (Addr.add ⟨k, 0, none⟩ i) v) := by rw [add_lit]; exact Mod.setCell w ⟨k, 0 + i, none⟩ v
theorem Mod.set2 (w : World) (k i j : Nat) (v : Value) : Mod (on k) w (w.setCell (Addr.add (Addr.add ⟨k, 0, none⟩ i) j) v) := by rw [add_lit, add_lit]; exact Mod.setCell w ⟨k, 0 + i + j, none⟩ v
end

/-! ### Numbers -/
theorem wrap64 {x : Int} (h1 : -9223372036854775808 ≤ x) (h2 : x ≤ 9223372036854775807) : IntKind.i64.wrap x = x := by
  rw [IntKind.wrap_i64]; omega

theorem ifK_true {A B : Prop} : ifK true A B = A := rfl
theorem ifK_false {A B : Prop} : ifK false A B = B := rfl
theorem ifK_of {b : Bool} {A B : Prop} (h1 : b = true → A) (h2 : b = false → B) : ifK b A B := by
  cases b
  · exact h2 rfl
  · exact h1 rfl
theorem ifK_dec {p : Prop} [Decidable p] {A B : Prop} (h1 : p → A) (h2 : ¬ p → B) : ifK (decide p) A B := ifK_of (fun h => h1 (of_decide_eq_true h)) (fun h => h2 (of_decide_eq_false h))
theorem ifK_not {b : Bool} {A B : Prop} (h1 : b = false → A) (h2 : b = true → B) : ifK (!b) A B := by
  cases b
  · exact h1 rfl
  · exact h2 rfl
theorem ifK_eq {x y : Int} {A B : Prop} (h1 : x = y → A) (h2 : x ≠ y → B) : ifK (x == y) A B := ifK_of (fun h => h1 (by simpa using h)) (fun h => h2 (by simpa using h))

/-! ### Rows -/
section
variable {w : World} {e : TypeId} {a : Option Addr} {l c n : Nat} {xs : List Value}
theorem row_at (h : w.ownsRow 0 e 1 (.slice a l c) n xs) {i : Nat} {v : Value} (hi : xs[i]? = some v) :
    ∃ g, a = some ⟨g, 0, none⟩ ∧ w.cell? (Addr.add ⟨g, 0, none⟩ (i * 1)) = some v := by
  rcases h.2 with ⟨_, rfl⟩ | ⟨g, cap, cur, hv, _⟩
  · have := h.1; simp at this; subst this; simp at hi
  · injection hv with h1 h2 h3
    subst h1
    exact ⟨g, rfl, by rw [Nat.mul_one]; exact h.cells (g := g) rfl i v hi⟩
theorem row_len (h : w.ownsRow 0 e 1 (.slice a l c) n xs) : l = n ∧ xs.length = n ∧ n ≤ c ∧ c ≤ 9223372036854775807 := by
  have h1 : xs.length = n := by simpa using h.1
  rcases h.2 with ⟨hv, rfl⟩ | ⟨g, cap, cur, hv, _, _, hn, hm, _⟩
  · injection hv with _ h2 h3; subst h2; subst h3; exact ⟨rfl, h1, Nat.le_refl _, by decide⟩
  · injection hv with _ h2 h3; subst h2; subst h3; exact ⟨rfl, h1, hn, by simpa [maxLen] using hm⟩
def rowB (a : Option Addr) (k : Nat) : Prop := (a.map (·.block)) = some k
theorem row_mod {S : Nat → Prop} {w' : World} (h : w.ownsRow 0 e 1 (.slice a l c) n xs) (hm : Mod S w w') (hs : ∀ k, rowB a k → ¬ S k) : w'.ownsRow 0 e 1 (.slice a l c) n xs := by
  refine ⟨h.1, ?_⟩
  rcases h.2 with hn | ⟨g, cap, cur, hv, hb, hg, rest⟩
  · exact .inl hn
  · injection hv with h1 h2 h3
    subst h1; subst h2; subst h3
    exact .inr ⟨g, c, cur, rfl, hb, hm.at hg (hs g (by simp [rowB])), rest⟩
end

/-! ### Maps whose keys are whole numbers -/
def MapAt (w : World) (r : Nat) (kvs : List (Value × Value)) : Prop :=
  ∃ es clock, w.heap[r]? = some (.map es clock) ∧ es.toList.map (fun e => (e.key, e.val)) = kvs ∧ (es.toList.map (·.born)).Nodup ∧ ∀ e ∈ es.toList, e.born < clock

theorem MapAt.mod {S : Nat → Prop} {w w' : World} {r : Nat} {kvs : List (Value × Value)} (h : MapAt w r kvs) (hm : Mod S w w') (hs : ¬ S r) : MapAt w' r kvs :=
  let ⟨es, clock, hb, rest⟩ := h
  ⟨es, clock, hm.at hb hs, rest⟩
theorem MapAt.new (w : World) : MapAt (w.alloc (.map #[] 0)) w.heap.size [] := ⟨#[], 0, new_at w _, rfl, by simp, by simp⟩
theorem MapAt.lt {w : World} {r : Nat} {kvs : List (Value × Value)} (h : MapAt w r kvs) : r < w.heap.size := let ⟨_, _, hb, _⟩ := h; lt_of_heap hb
theorem MapAt.size {w : World} {r : Nat} {kvs : List (Value × Value)} (h : MapAt w r kvs) : ∃ es clock, w.heap[r]? = some (.map es clock) ∧ es.size = kvs.length :=
  let ⟨es, clock, hb, he, _⟩ := h
  ⟨es, clock, hb, by rw [← he]; simp⟩

def intKs (ik : IntKind) (L : List (Int × Value)) : List (Value × Value) := L.map fun p => (.int ik p.1, p.2)
def posK (k : Int) : List (Int × Value) → Nat → Option (Nat × Value)
  | [], _ => none
  | p :: r, i => if k == p.1 then some (i, p.2) else posK k r (i + 1)

theorem findNow_int {ik ik0 : IntKind} {k : Int} : ∀ (es : List MapEntry) (L : List (Int × Value)) (i : Nat), es.map (fun e => (e.key, e.val)) = intKs ik L →
    Instr.findNow (.int ik0) (.int ik k) es i = some (posK k L i)
  | [], [], _, _ => rfl
  | [], _ :: _, _, h => by simp [intKs] at h
  | _ :: _, [], _, h => by simp [intKs] at h
  | e :: es, p :: L, i, h => by
    simp only [intKs, List.map_cons, List.cons.injEq, Prod.mk.injEq] at h
    obtain ⟨⟨hk, hv⟩, ht⟩ := h
    simp only [Instr.findNow, hk, Instr.sameNow, if_true]
    cases hb : (k == p.1) with
    | true => simp [posK, hb, hv]
    | false =>
      simp only [posK, hb]
      exact findNow_int es L (i + 1) ht

section
variable {P : Program} {w : World}
theorem run_checkKey_int {t : TypeId} {ik ik' : IntKind} (hu : P.underlying t = some (.int ik')) (b : Bool) (k : Int) : (Instr.checkKey b 10000 t (.int ik k)).run P w = .ok () w := by
  have h : ∀ n, (Instr.checkKey b (n + 1) t (.int ik k)).run P w = .ok () w := by
    intro n
    simp [Instr.checkKey, run_underlying' hu, Result.andThen]
  exact h 9999
theorem run_findKey_int {t : TypeId} {ik ik' : IntKind} (hu : P.underlying t = some (.int ik')) (k : Int) {es : List MapEntry} {L : List (Int × Value)} (h : es.map (fun e => (e.key, e.val)) = intKs ik L) :
    (Instr.findKey t (.int ik k) es).run P w = .ok (posK k L 0) w := by
  simp [Instr.findKey, run_underlying' hu, Result.andThen, findNow_int es L 0 h]

theorem eraseIdx_map' {α β : Type} (f : α → β) : ∀ (l : List α) (i : Nat), (l.map f).eraseIdx i = (l.eraseIdx i).map f
  | [], _ => rfl
  | _ :: _, 0 => rfl
  | a :: l, i + 1 => by simp [eraseIdx_map' f l i]

theorem lookup_int {t kt et : TypeId} {ik ik' : IntKind} {r : Nat} {L : List (Int × Value)} {z : Value} (hu : P.underlying t = some (.map kt et)) (hk : P.underlying kt = some (.int ik'))
    (hz : ∀ w, (zeroValue et).run P w = .ok z w) (hm : MapAt w r (intKs ik L)) (k : Int) :
    (Instr.lookup t (.map (some r)) (.int ik k) false).run P w = .ok (match posK k L 0 with | some (_, v) => v | none => z) w := by
  obtain ⟨es, clock, hb, he, _⟩ := hm
  have hf := run_findKey_int (P := P) (w := w) hk k he
  cases hp : posK k L 0 with
  | none => rw [hp] at hf; simp [Instr.lookup, run_underlying' hu, Result.andThen, MapKept.run_getObj_map hb, run_checkKey_int hk, hf, hz]
  | some p => rw [hp] at hf; simp [Instr.lookup, run_underlying' hu, Result.andThen, MapKept.run_getObj_map hb, run_checkKey_int hk, hf]

theorem delete_int {t kt et u : TypeId} {ty : TypeId} {ik ik' : IntKind} {r : Nat} {L : List (Int × Value)} (hu : P.underlying t = some (.map kt et)) (hk : P.underlying kt = some (.int ik'))
    (hm : MapAt w r (intKs ik L)) (k : Int) :
    ∃ w', (Builtin.delete_ #[t, u] ty #[.map (some r), .int ik k]).run P w = .ok (.tuple #[]) w' ∧ Mod (on r) w w' ∧ MapAt w' r (intKs ik (match posK k L 0 with | some (i, _) => L.eraseIdx i | none => L)) := by
  obtain ⟨es, clock, hb, he, hn, hc⟩ := hm
  have hrun : ∀ es' : Array MapEntry, (setObj r (.map es' clock)).run P w = .ok () (w.putObj r (.map es' clock)) := by
    intro es'; simp [setObj, Sem.run, World.putObj, hb]
  cases hp : posK k L 0 with
  | none =>
    refine ⟨w.putObj r (.map es clock), ?_, Mod.putObj w r _, ⟨es, clock, put_at _ hb, he, hn, hc⟩⟩
    simp [Builtin.delete_, run_underlying' hu, Result.andThen, MapKept.run_getObj_map hb, run_checkKey_int hk, run_findKey_int hk k he, hp, hrun]
  | some p =>
    refine ⟨w.putObj r (.map (es.eraseIdxIfInBounds p.1) clock), ?_, Mod.putObj w r _, ⟨es.eraseIdxIfInBounds p.1, clock, put_at _ hb, ?_, ?_, ?_⟩⟩
    · simp [Builtin.delete_, run_underlying' hu, Result.andThen, MapKept.run_getObj_map hb, run_checkKey_int hk, run_findKey_int hk k he, hp, hrun]
    · simp only [Array.toList_eraseIdxIfInBounds, ← eraseIdx_map', he, intKs]
    · rw [Array.toList_eraseIdxIfInBounds, ← eraseIdx_map']; exact hn.eraseIdx _
    · intro e h
      rw [Array.toList_eraseIdxIfInBounds] at h
      exact hc e (List.mem_of_mem_eraseIdx h)

theorem update_int {t kt et : TypeId} {ik ik' : IntKind} {r : Nat} {L : List (Int × Value)} (hu : P.underlying t = some (.map kt et)) (hk : P.underlying kt = some (.int ik'))
    (hm : MapAt w r (intKs ik L)) (k : Int) (v : Value) (hp : posK k L 0 = none) :
    ∃ w', (Instr.mapUpdate t (.map (some r)) (.int ik k) v).run P w = .ok () w' ∧ Mod (on r) w w' ∧ MapAt w' r (intKs ik (L ++ [(k, v)])) := by
  obtain ⟨es, clock, hb, he, hn, hc⟩ := hm
  have hrun : ∀ es' : Array MapEntry, (setObj r (.map es' (clock + 1))).run P w = .ok () (w.putObj r (.map es' (clock + 1))) := by
    intro es'; simp [setObj, Sem.run, World.putObj, hb]
  refine ⟨w.putObj r (.map (es.push { key := .int ik k, val := v, born := clock }) (clock + 1)), ?_, Mod.putObj w r _, ⟨_, _, put_at _ hb, ?_, ?_, ?_⟩⟩
  · simp [Instr.mapUpdate, run_underlying' hu, Result.andThen, MapKept.run_getObj_map hb, run_checkKey_int hk, run_findKey_int hk k he, hp, hrun]
  · simp [he, intKs]
  · simp only [Array.toList_push, List.map_append, List.map_cons, List.map_nil]
    rw [List.nodup_append]
    refine ⟨hn, by simp, ?_⟩
    intro a ha b hb' hab
    simp only [List.mem_cons, List.not_mem_nil, or_false] at hb'
    obtain ⟨e, he', rfl⟩ := List.mem_map.1 ha
    have := hc e he'
    omega
  · intro e h
    simp only [Array.toList_push, List.mem_append, List.mem_cons, List.not_mem_nil, or_false] at h
    rcases h with h | rfl
    · have := hc e h; omega
    · simp
end

/-! ### Pointers held against each other; a place that is closed in a row; a row grown -/
section
variable {P : Program} {w : World}
theorem ptrEq_at {t te : TypeId} {i : TypeInfo} (hp : P.underlying t = some (.pointer te)) (hi : P.info? te = some i) (hsz : i.size ≠ 0) {a b : Nat} {ca cb : Array Value} {ta tb : TypeId}
    (ha : w.heap[a]? = some (.cells ca ta (0, 0))) (hb : w.heap[b]? = some (.cells cb tb (0, 0))) {K : Bool → World → Prop} (h : K (a == b) w) : ptrEq P t (some ⟨a, 0, none⟩) (some ⟨b, 0, none⟩) w K := by
  have hr : (Op.equal t (.pointer (some ⟨a, 0, none⟩)) (.pointer (some ⟨b, 0, none⟩))).run P w = .ok (a == b) w := by
    by_cases e : a = b
    · subst e
      have h : ∀ d : Nat, (Op.equalIn (d + 1) t (.pointer (some ⟨a, 0, none⟩)) (.pointer (some ⟨a, 0, none⟩))).run P w = .ok true w := fun d => by
        simp [Op.equalIn, run_underlying hp, sizeOf, typeInfo, hi, run_sameAddr_same]
      rw [beq_self_eq_true]
      exact h 9999
    · have hne : (⟨a, 0, none⟩ : Addr) ≠ ⟨b, 0, none⟩ := fun h => e (by injection h)
      have h : ∀ d : Nat, (Op.equalIn (d + 1) t (.pointer (some ⟨a, 0, none⟩)) (.pointer (some ⟨b, 0, none⟩))).run P w = .ok false w := fun d => by
        simp [Op.equalIn, run_underlying hp, sizeOf, typeInfo, hi, hsz, run_sameAddr_other w hne ha hb]
      rw [beq_false_of_ne e]
      exact h 9999
  refine ⟨_, w, ?_, h⟩
  rw [Sem.run_bind]
  rw [eqGuard_at_pointer]
  exact hr

theorem row_block {e : TypeId} {a : Option Addr} {l c n : Nat} {xs : List Value} (h : w.ownsRow 0 e 1 (.slice a l c) n xs) (hn : 0 < n) :
    ∃ g cur, a = some ⟨g, 0, none⟩ ∧ l = n ∧ w.heap[g]? = some (.cells cur e (0, 0)) ∧ n ≤ c ∧ c ≤ maxLen ∧ cur.size = c ∧ cur.toList.take n = xs := by
  rcases h.2 with ⟨_, rfl⟩ | ⟨g, cap, cur, hv, _, hg, h1, h2, h3, h4⟩
  · omega
  · injection hv with e1 e2 e3
    subst e1; subst e2; subst e3
    exact ⟨g, cur, rfl, rfl, hg, h1, h2, by simpa using h3, by simpa using h4⟩

theorem row_close {t ty e : TypeId} (hu : P.underlying t = some (.slice e)) (hs : (P.info? e).map (·.size) = some 1) {a : Option Addr} {l c n : Nat} {xs : List Value} (h : w.ownsRow 0 e 1 (.slice a l c) n xs)
    {i : Nat} (hi : i < n) (h1 : ∀ v ∈ xs, v.oneCell' = true) :
    ∃ w' v, (Builtin.copy_ #[t, t] ty #[.slice (if c = i then a else a.map fun x => x.add (i * 1)) (l - i) (c - i), .slice (if c = i + 1 then a else a.map fun x => x.add ((i + 1) * 1)) (l - (i + 1)) (c - (i + 1))]).run P w = .ok (.int .i64 v) w' ∧
      Mod (rowB a) w w' ∧ w'.ownsRow 0 e 1 (.slice a l c) n (xs.take i ++ (xs.drop (i + 1) ++ xs.drop (n - 1))) := by
  obtain ⟨g, cur, rfl, rfl, hg, hnc, hcm, hcs, htake⟩ := row_block h (by omega)
  have hxl : xs.length = l := by simpa using h.1
  have hlen : (xs.take i ++ (xs.drop (i + 1) ++ xs.drop (l - 1))).length = l := by simp [hxl]; omega
  have hci : ¬ c = i := by omega
  have hB : ∀ k, rowB (some ⟨g, 0, none⟩) k ↔ k = g := fun k => by simp [rowB]; exact eq_comm
  rw [if_neg hci]
  by_cases hlast : l = i + 1
  · have hrun := run_copy_none (P := P) w t t ty e ((some (⟨g, 0, none⟩ : Addr)).map fun x => x.add (i * 1)) (if c = i + 1 then some ⟨g, 0, none⟩ else (some (⟨g, 0, none⟩ : Addr)).map fun x => x.add ((i + 1) * 1)) (l - i) (c - i) (l - (i + 1)) (c - (i + 1)) hu hs (by simp [hlast])
    refine ⟨w, _, hrun, Mod.refl _ _, ?_⟩
    have : xs.take i ++ (xs.drop (i + 1) ++ xs.drop (l - 1)) = xs := by
      rw [List.drop_eq_nil_of_le (by omega), hlast]
      simp
    rw [this]
    exact h
  · rw [if_neg (by omega : ¬ c = i + 1)]
    simp only [Option.map_some, add_lit, Nat.zero_add, Nat.mul_one]
    have hcl : (xs.drop (i + 1)).length = l - (i + 1) := by simp [hxl]
    have hrun := run_copy_row (P := P) w t t ty e g i (l - i) (c - i) ⟨g, i + 1, none⟩ (l - (i + 1)) (c - (i + 1)) cur e (xs.drop (i + 1)) hu hs hg
      (by rw [hcl]; simp [Nat.min_def]; omega)
      (by
        intro j v hj
        rw [add_lit, cl hg]
        rw [List.getElem?_drop, ← htake, List.getElem?_take] at hj
        split at hj
        · simpa using hj
        · cases hj)
      (by rw [hcl, hcs]; omega) (fun v hv => h1 v (List.mem_of_mem_drop hv))
    refine ⟨_, _, hrun, ⟨rfl, rfl, rfl, by simp, fun k _ hk => setRow_other w g k _ fun e => hk ((hB k).2 e)⟩, by rw [hlen]; simp, .inr ⟨g, c, _, rfl, Nat.zero_le _, setRow_heap w g cur _ e _ hg, hnc, hcm, ?_, ?_⟩⟩
    · simp only [List.size_toArray, List.length_append, List.length_take, List.length_drop, Array.length_toList, hxl]
      omega
    · simp only [Nat.mul_one]
      have e1 : cur.toList.take i = xs.take i := by rw [← htake, List.take_take, Nat.min_eq_left (by omega)]
      have e2 : i + (xs.drop (i + 1)).length = l - 1 := by rw [hcl]; omega
      have e3 : (cur.toList.drop (l - 1)).take 1 = xs.drop (l - 1) := by
        rw [← htake, List.drop_take]; congr 1; omega
      have hA : (xs.take i ++ xs.drop (i + 1)).length = l - 1 := by rw [List.length_append, List.length_take, hcl, hxl, Nat.min_eq_left (by omega)]; omega
      rw [e1, e2]
      show (xs.take i ++ xs.drop (i + 1) ++ cur.toList.drop (l - 1)).take l = _
      rw [List.take_append, List.take_of_length_le (by rw [hA]; omega), hA, show l - (l - 1) = 1 by omega, e3, List.append_assoc]

theorem row_put {e : TypeId} {a : Option Addr} {l c n : Nat} {xs : List Value} (h : w.ownsRow 0 e 1 (.slice a l c) n xs) {i : Nat} (hi : i < n) (v : Value) :
    ∃ ad, a = some ad ∧ (∃ u, w.cell? (Addr.add (Addr.add ad (i * 1)) 0) = some u) ∧ w.frozen? (Addr.add (Addr.add ad (i * 1)) 0) = false ∧
      Mod (rowB a) w (w.setCell (Addr.add (Addr.add ad (i * 1)) 0) v) ∧ (w.setCell (Addr.add (Addr.add ad (i * 1)) 0) v).ownsRow 0 e 1 (.slice a l c) n (xs.set i v) := by
  obtain ⟨g, cur, rfl, rfl, hg, hnc, hcm, hcs, htake⟩ := row_block h (by omega)
  have hB : ∀ k, rowB (some ⟨g, 0, none⟩) k ↔ k = g := fun k => by simp [rowB]; exact eq_comm
  rw [Nat.mul_one]
  refine ⟨_, rfl, ?_, fz2 hg _ _, (Mod.set2 w g i 0 v).mono fun k _ hk => (hB k).2 hk, ?_⟩
  · exact ⟨_, by rw [cl2 hg]; exact Array.getElem?_eq_getElem (by omega)⟩
  · have := (h.stored i v).1
    rwa [add_lit, add_lit, Nat.zero_add, Nat.add_zero]
end

/-- t is a slice of e, and an e is one cell. -/
def rowOk (P : Program) (t e : TypeId) : Bool :=
  (match P.underlying t with | some (.slice e') => Nat.beq e' e | _ => false) &&
  (match P.info? e with
    | some i => Nat.beq i.size 1 && Nat.ble i.bytes 16 && (match i.zero with | some z => Nat.beq z.cells.size 1 | none => false)
    | none => false)
theorem rowOk_of {P : Program} {t e : TypeId} (h : rowOk P t e = true) :
    P.underlying t = some (.slice e) ∧ ∃ i z, P.info? e = some i ∧ i.zero = some z ∧ i.size = 1 ∧ i.bytes ≤ 16 ∧ z.cells.size = 1 := by
  simp only [rowOk, Bool.and_eq_true] at h
  obtain ⟨h1, h2⟩ := h
  constructor
  · split at h1
    · rename_i e' hu; rw [hu, Nat.eq_of_beq_eq_true h1]
    · cases h1
  · split at h2
    · rename_i i hi
      simp only [Bool.and_eq_true] at h2
      obtain ⟨⟨h2, h3⟩, h4⟩ := h2
      split at h4
      · rename_i z hz
        exact ⟨i, z, hi, hz, Nat.eq_of_beq_eq_true h2, Nat.le_of_ble_eq_true h3, Nat.eq_of_beq_eq_true h4⟩
      · cases h4
    · cases h2
theorem rowOk_size {P : Program} {t e : TypeId} (h : rowOk P t e = true) : (P.info? e).map (·.size) = some 1 := by
  obtain ⟨_, i, z, hi, _, hs, _⟩ := rowOk_of h
  rw [hi, ← hs]; rfl

theorem row_push {P : Program} {w : World} {t ty e : TypeId} (ho : rowOk P t e = true) {a : Option Addr} {l c n : Nat} {xs : List Value} (h : w.ownsRow 0 e 1 (.slice a l c) n xs)
    {b : Addr} {m cc : Nat} {news : List Value} (hl : news.length = m) (hm0 : 0 < m) (hb : ∀ j v, news[j]? = some v → w.cell? (b.add j) = some v) (h1 : ∀ v ∈ news, v.oneCell' = true) (hn : n + m ≤ 1099511627776) :
    ∃ a' c' w', (Builtin.append_ #[t, t] ty #[.slice a l c, .slice (some b) m cc]).run P w = .ok (.slice (some a') (n + m) c') w' ∧ w'.ownsRow 0 e 1 (.slice (some a') (n + m) c') (n + m) (xs ++ news) ∧
      Mod (rowB a) w w' ∧ (∀ k, rowB (some a') k → rowB a k ∨ w.heap.size ≤ k) := by
  obtain ⟨ht, i, z, hi, hz, hsize, hby, hzs⟩ := rowOk_of ho
  have hnl : news.length = m * i.size := by rw [hl, hsize, Nat.mul_one]
  have hxl : xs.length = n := by simpa using h.1
  have hbytes : (n + m) * i.bytes ≤ 140737488355328 := Nat.le_trans (Nat.mul_le_mul hn hby) (by decide)
  have hmx : n + m ≤ maxLen := Nat.le_trans hn (by decide)
  have grown : ∀ (old : Nat), old < n + m →
      (w.drew.alloc (.cells (xs.toArray ++ news.toArray ++ Builtin.zeroCells z.cells (grownCap w (n + m) old e - (n + m))) e)).ownsRow 0 e 1
        (.slice (some ⟨w.heap.size, 0, none⟩) (n + m) (grownCap w (n + m) old e)) (n + m) (xs ++ news) ∧
      Mod (rowB a) w (w.drew.alloc (.cells (xs.toArray ++ news.toArray ++ Builtin.zeroCells z.cells (grownCap w (n + m) old e - (n + m))) e)) := by
    intro old ho
    have hge := grownCap_ge w (n + m) old e
    have hcm : grownCap w (n + m) old e ≤ maxLen := grownCap_le_maxLen w (n + m) old e hmx
    refine ⟨⟨by simp [hxl, hl], .inr ⟨w.heap.size, _, _, rfl, Nat.zero_le _, heap_alloc_new w.drew _, hge, hcm, ?_, ?_⟩⟩, ⟨rfl, rfl, rfl, by simp, fun k hk _ => heap_alloc_old w.drew _ hk⟩⟩
    · simp only [Array.size_append, List.size_toArray, size_zeroCells, hzs, hxl, hl, Nat.mul_one]
      omega
    · simp only [Array.toList_append, List.append_assoc, Nat.mul_one]
      rw [← List.append_assoc]
      exact List.take_left' (by simp [hxl, hl])
  have hnew : ∀ k, rowB (some (⟨w.heap.size, 0, none⟩ : Addr)) k → rowB a k ∨ w.heap.size ≤ k := by
    intro k hk
    simp [rowB] at hk
    exact .inr (by omega)
  rcases h.2 with ⟨hv, rfl⟩ | ⟨g, cap, cur, hv, _, hg, hnc, hcm, hcs, htake⟩
  · injection hv with e1 e2 e3
    subst e1; subst e2; subst e3
    have hx : xs = [] := List.eq_nil_of_length_eq_zero hxl
    subst hx
    have e63 : (m : Int) ≤ 9223372036854775807 := by simp only [maxLen] at hmx; omega
    have e48 : m * i.bytes ≤ 281474976710656 := by rw [Nat.zero_add] at hbytes; omega
    have hr := run_append_nil (P := P) w t ty e i z ht hi hz b m cc news hnl hb hm0 e63 e48
    have hgr := grown 0 (by omega)
    simp only [Nat.zero_add, List.nil_append, Array.empty_append] at hgr hr ⊢
    exact ⟨_, _, _, hr, hgr.1, hgr.2, hnew⟩
  · injection hv with e1 e2 e3
    subst e1; subst e2; subst e3
    by_cases hroom : l + m ≤ c
    · have hown : w.ownsRow 0 e i.size (.slice (some ⟨g, 0, none⟩) l c) l xs := by rw [hsize]; exact h
      obtain ⟨w', hr, ho', hgr⟩ := run_append_fits (P := P) (ty := ty) w 0 t e i i.size ht hi rfl g l c xs hown b m cc news hnl hb h1 hroom
      rw [hsize] at ho'
      refine ⟨_, _, _, hr, ho', (Mod.grown hgr).mono fun k _ hk => ?_, fun k hk => .inl hk⟩
      simp [rowB]
      injection hk with hk
      exact hk.symm
    · have holds : ∀ j u, xs[j]? = some u → w.cell? ((⟨g, 0, none⟩ : Addr).add j) = some u := h.cells (g := g) rfl
      have hr := run_append_grow (P := P) w t ty e i z ht hi hz ⟨g, 0, none⟩ l c xs (by rw [hxl, hsize, Nat.mul_one]) holds b m cc news hnl hb (by omega) (by simp only [maxLen] at hmx; omega) (growslice_fits (by omega) hbytes)
      have hgr := grown c (by omega)
      exact ⟨_, _, _, hr, hgr.1, hgr.2, hnew⟩

/-- t is a pointer to what has cells. -/
def ptrOk (P : Program) (t : TypeId) : Bool :=
  match P.underlying t with
  | some (.pointer e) => (match P.info? e with | some i => !(Nat.beq i.size 0) | none => false)
  | _ => false
theorem ptrEq_ok {P : Program} {w : World} {t : TypeId} (ho : ptrOk P t = true) {a b : Nat} {ca cb : Array Value} {ta tb : TypeId}
    (ha : w.heap[a]? = some (.cells ca ta (0, 0))) (hb : w.heap[b]? = some (.cells cb tb (0, 0))) {K : Bool → World → Prop} (h : K (a == b) w) : ptrEq P t (some ⟨a, 0, none⟩) (some ⟨b, 0, none⟩) w K := by
  unfold ptrOk at ho
  split at ho
  · rename_i e hu
    split at ho
    · rename_i i hi
      refine ptrEq_at hu hi ?_ ha hb h
      intro e
      rw [e] at ho
      cases ho
    · cases ho
  · cases ho

/-! ### Sets of whole numbers -/
def setKs (ik : IntKind) (tags : List Int) : List (Value × Value) := intKs ik (tags.map fun t => (t, .bool true))
theorem posK_none {k : Int} {v : Value} : ∀ {tags : List Int} {i : Nat}, k ∉ tags → posK k (tags.map fun t => (t, v)) i = none
  | [], _, _ => rfl
  | t :: tags, i, h => by
    have h1 : (k == t) = false := beq_false_of_ne fun e => h (by simp [e])
    simp only [List.map_cons, posK, h1]
    exact posK_none fun h' => h (List.mem_cons_of_mem _ h')
theorem posK_some {k : Int} {v : Value} : ∀ {tags : List Int} {i : Nat}, k ∈ tags → ∃ j, posK k (tags.map fun t => (t, v)) i = some (i + j, v) ∧ tags.eraseIdx j = tags.erase k
  | [], _, h => by simp at h
  | t :: tags, i, h => by
    by_cases e : k = t
    · subst e
      exact ⟨0, by simp [posK], by simp⟩
    · have h1 : (k == t) = false := beq_false_of_ne e
      have h2 : (t == k) = false := beq_false_of_ne fun h => e h.symm
      obtain ⟨j, hj, he⟩ := posK_some (v := v) (i := i + 1) (List.mem_of_ne_of_mem e h)
      refine ⟨j + 1, ?_, ?_⟩
      · simp only [List.map_cons, posK, h1, Bool.false_eq_true, if_false]
        rw [hj, Nat.add_assoc, Nat.add_comm 1 j]
      · rw [List.eraseIdx_cons_succ, he, List.erase_cons, h2]; rfl

def setOk (P : Program) (t : TypeId) (ik : IntKind) : Bool :=
  match P.underlying t with
  | some (.map k e) => (match P.underlying k with | some (.int ik') => sameK ik ik' | _ => false) && (match (P.info? e).bind (·.zero) with | some (.bool false) => true | _ => false)
  | _ => false
theorem setOk_of {P : Program} {t : TypeId} {ik : IntKind} (h : setOk P t ik = true) :
    ∃ k e, P.underlying t = some (.map k e) ∧ P.underlying k = some (.int ik) ∧ ∀ w, (zeroValue e).run P w = .ok (.bool false) w := by
  unfold setOk at h
  split at h
  · rename_i k e hu
    rw [Bool.and_eq_true] at h
    obtain ⟨h1, h2⟩ := h
    split at h1
    · rename_i ik' hk
      refine ⟨k, e, hu, by rw [hk, sameK_eq h1], fun w => ?_⟩
      split at h2
      · rename_i hz
        cases hi : P.info? e with
        | none => rw [hi] at hz; cases hz
        | some i => rw [hi] at hz; exact run_zeroValue' hi hz
      · cases h2
    · cases h1
  · cases h

theorem set_has {P : Program} {w : World} {t : TypeId} {ik : IntKind} (ho : setOk P t ik = true) {r : Nat} {tags : List Int} (hm : MapAt w r (setKs ik tags)) (k : Int) :
    (Instr.lookup t (.map (some r)) (.int ik k) false).run P w = .ok (.bool (tags.contains k)) w := by
  obtain ⟨kt, e, hu, hk, hz⟩ := setOk_of ho
  rw [lookup_int hu hk hz hm k]
  by_cases h : k ∈ tags
  · obtain ⟨j, hj, _⟩ := posK_some (v := .bool true) (i := 0) h
    rw [hj]; simp [h]
  · rw [posK_none h]; simp [h]

theorem set_add {P : Program} {w : World} {t : TypeId} {ik : IntKind} (ho : setOk P t ik = true) {r : Nat} {tags : List Int} (hm : MapAt w r (setKs ik tags)) {k : Int} (hk : k ∉ tags) :
    ∃ w', (Instr.mapUpdate t (.map (some r)) (.int ik k) (.bool true)).run P w = .ok () w' ∧ Mod (on r) w w' ∧ MapAt w' r (setKs ik (tags ++ [k])) := by
  obtain ⟨kt, e, hu, hku, _⟩ := setOk_of ho
  obtain ⟨w', h1, h2, h3⟩ := update_int hu hku hm k (.bool true) (posK_none hk)
  exact ⟨w', h1, h2, by simpa [setKs] using h3⟩

theorem set_del {P : Program} {w : World} {t u ty : TypeId} {ik : IntKind} (ho : setOk P t ik = true) {r : Nat} {tags : List Int} (hm : MapAt w r (setKs ik tags)) (k : Int) :
    ∃ w', (Builtin.delete_ #[t, u] ty #[.map (some r), .int ik k]).run P w = .ok (.tuple #[]) w' ∧ Mod (on r) w w' ∧ MapAt w' r (setKs ik (tags.erase k)) := by
  obtain ⟨kt, e, hu, hku, _⟩ := setOk_of ho
  obtain ⟨w', h1, h2, h3⟩ := delete_int (u := u) (ty := ty) hu hku hm k
  refine ⟨w', h1, h2, ?_⟩
  by_cases h : k ∈ tags
  · obtain ⟨j, hj, he⟩ := posK_some (v := .bool true) (i := 0) h
    rw [hj] at h3
    simp only [Nat.zero_add, eraseIdx_map', he] at h3
    exact h3
  · rw [posK_none h] at h3
    rw [List.erase_of_not_mem h]
    exact h3
end Go.Proofs.YtbmcbbmgdcbhjaaGreatDoor.St
