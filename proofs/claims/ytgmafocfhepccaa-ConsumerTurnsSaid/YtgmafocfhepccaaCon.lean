/- Contracts of the program's consumer functions, proved over their formulas. -/
import Derived.Test.YtgmafocfhepccaaLib
import Derived.Test.YtgmafocfhepccaaFa
namespace Go.Proofs.Ytgmafocfhepccaa
open Go Go.Proofs.Ytgmafocfhepccaa.St

/-- One who wants messages: p: its block; m: its map's; tags: what it holds, in the map's order. -/
structure Wish where
  p : Nat
  m : Nat
  client : Int
  queue : ByteArray
  most : Int
  tags : List Int

abbrev setOf (tags : List Int) : List (Value × Value) := setKs .u64 tags
def Wish.ptr (x : Wish) : Value := .pointer (some ⟨x.p, 0, none⟩)

structure WishAt (w : World) (x : Wish) : Prop where
  cell : w.heap[x.p]? = some (.cells #[.int .i64 x.client, .string x.queue, .int .i64 x.most, .map (some x.m)] 72 (0, 0))
  tags : MapAt w x.m (setOf x.tags)

def fpW (ws : List Wish) : List Nat := ws.flatMap fun x => [x.p, x.m]

structure DeskAt (w : World) (d : Nat) (row : Option Addr) (ws : List Wish) : Prop where
  cell : ∃ l c, w.heap[d]? = some (.cells #[.slice row l c, .bool true] 59 (0, 0)) ∧ w.ownsRow 0 68 1 (.slice row l c) ws.length (ws.map Wish.ptr)
  wish : ∀ x ∈ ws, WishAt w x
  apart : (d :: ((row.map (·.block)).toList ++ fpW ws)).Nodup

/-- The blocks of a desk. -/
def fp (d : Nat) (row : Option Addr) (ws : List Wish) : Nat → Prop := fun k => k ∈ d :: ((row.map (·.block)).toList ++ fpW ws)

theorem WishAt.mod {S : Nat → Prop} {w w' : World} {x : Wish} (h : WishAt w x) (hm : Mod S w w') (h1 : ¬ S x.p) (h2 : ¬ S x.m) : WishAt w' x :=
  ⟨hm.at h.cell h1, h.tags.mod hm h2⟩

theorem DeskAt.mod {S : Nat → Prop} {w w' : World} {d : Nat} {row : Option Addr} {ws : List Wish} (h : DeskAt w d row ws) (hm : Mod S w w') (hs : ∀ k, fp d row ws k → ¬ S k) : DeskAt w' d row ws := by
  obtain ⟨l, c, hc, hr⟩ := h.cell
  refine ⟨⟨l, c, hm.at hc (hs d (by simp [fp])), row_mod hr hm fun k hk => hs k ?_⟩, fun x hx => (h.wish x hx).mod hm (hs _ ?_) (hs _ ?_), h.apart⟩
  · simp only [rowB] at hk
    simp [fp, hk]
  · simp only [fp, fpW, List.mem_cons, List.mem_append, List.mem_flatMap]
    exact .inr (.inr ⟨x, hx, by simp⟩)
  · simp only [fp, fpW, List.mem_cons, List.mem_append, List.mem_flatMap]
    exact .inr (.inr ⟨x, hx, by simp⟩)

theorem DeskAt.no {w w' : World} {d : Nat} {row : Option Addr} {ws : List Wish} (h : DeskAt w d row ws) (hm : Mod no w w') : DeskAt w' d row ws := h.mod hm fun _ _ => id

/-! ### New, made -/
theorem new_ok (w : World) (R : Value → World → Prop) (h : ∀ w', Mod no w w' → DeskAt w' w.heap.size none [] → R (.pointer (some ⟨w.heap.size, 0, none⟩)) w') : Ca Try.prog 8 #[] w R := by
  refine ca8 w R ?_
  intro w' e
  subst e
  exact h _ (Mod.alloc w _) ⟨⟨0, 0, new_at w _, World.ownsRow_nil _ _ _ _⟩, by simp, by simp [fpW]⟩

theorem made_nil (w : World) (R : Value → World → Prop) (h : R (.bool false) w) : Ca Try.prog 24 #[.pointer none] w R := ca24 none w R h
theorem made_of (d : Nat) (w : World) (R : Value → World → Prop) {cs : Array Value} {e : TypeId} {fz : Nat × Nat} (hd : w.heap[d]? = some (.cells cs e fz)) {b : Bool} (hb : cs[1]? = some (.bool b)) (h : R (.bool b) w) :
    Ca Try.prog 24 #[.pointer (some ⟨d, 0, none⟩)] w R :=
  ca24 _ w R ⟨b, by rw [cl1 hd, hb], h⟩

/-! ### Search -/
/-- A function value that asks of a wish, and changes nothing. -/
def Asks (so : Value) (w : World) (x : Wish) (b : Bool) : Prop :=
  ∀ w', Mod no w w' → ∀ R : Value → World → Prop, (∀ w'', Mod no w' w'' → R (.bool b) w'') → CaV Try.prog so #[x.ptr] w' R

theorem indexFunc (a : Option Addr) (l c : Nat) (so : Value) (w : World) (ws : List Wish) (φ : Wish → Bool) (hr : w.ownsRow 0 68 1 (.slice a l c) ws.length (ws.map Wish.ptr))
    (hso : ∀ x ∈ ws, Asks so w x (φ x)) (R : Value → World → Prop)
    (h : ∀ w', Mod no w w' → R (.int .i64 (match ws.findIdx? φ with | some i => (i : Int) | none => -1)) w') : Ca Try.prog 44 #[.slice a l c, so] w R := by
  obtain ⟨hl, _, hlc, hc⟩ := row_len hr
  refine ca44 a l c so w R ?_
  refine ⟨fun x w' => ∃ k : Nat, x = k ∧ k ≤ ws.length ∧ Mod no w w' ∧ ∀ y ∈ ws.take k, φ y = false, fun x _ => ((l : Int) - x).toNat, ⟨0, rfl, Nat.zero_le _, Mod.refl _ _, by simp⟩, ?_⟩
  rintro _ x w4 ⟨k, rfl, hk, hm, hno⟩
  refine ifK_of (fun hlt => ?_) (fun hge => ?_)
  · have hlt : k < ws.length := by have := of_decide_eq_true hlt; omega
    obtain ⟨g, rfl, hcell⟩ := row_at (row_mod hr hm fun _ _ => id) (i := k) (v := ws[k].ptr) (by simp [hlt])
    refine ⟨_, rfl, by omega, by omega, some ⟨ws[k].p, 0, none⟩, by simpa [Wish.ptr] using hcell, ?_⟩
    refine hso ws[k] (List.getElem_mem hlt) w4 hm _ fun w'' hm' => ⟨φ ws[k], rfl, ifK_of (fun hb => ?_) (fun hb => ?_)⟩
    · have : ws.findIdx? φ = some k := by
        rw [List.findIdx?_eq_some_iff_getElem]
        refine ⟨hlt, hb, fun j hj => ?_⟩
        have := hno (ws[j]) (by rw [List.mem_take_iff_getElem]; exact ⟨j, by omega, rfl⟩)
        simp [this]
      have h' := h w'' (hm.trans hm')
      rw [this] at h'
      exact h'
    · have e : IntKind.i64.wrap ((k : Int) + 1) = ((k + 1 : Nat) : Int) := by rw [wrap64 (by omega) (by omega)]; omega
      rw [e]
      refine ⟨⟨k + 1, rfl, hlt, hm.trans hm', fun y hy => ?_⟩, by simp only; omega⟩
      rw [List.take_succ_eq_append_getElem hlt, List.mem_append] at hy
      rcases hy with hy | hy
      · exact hno y hy
      · simp at hy; rw [hy]; exact hb
  · have hge : ¬ ((k : Int) < l) := of_decide_eq_false hge
    have hk' : k = ws.length := by omega
    subst hk'
    have : ws.findIdx? φ = none := by
      rw [List.findIdx?_eq_none_iff]
      intro x hx
      exact hno x (by simpa using hx)
    have h' := h w4 hm
    rw [this] at h'
    exact h'

theorem find_get {α : Type} (φ : α → Bool) (l : List α) : l.find? φ = match l.findIdx? φ with | some i => l[i]? | none => none := by
  induction l with
  | nil => rfl
  | cons a l ih =>
    simp only [List.find?_cons, List.findIdx?_cons]
    cases φ a with
    | true => rfl
    | false =>
      simp only [ih]
      cases l.findIdx? φ <;> rfl

def wptr (o : Option Wish) : Option Addr := o.map fun x => ⟨x.p, 0, none⟩

theorem find_ok (d : Nat) (row : Option Addr) (ws : List Wish) (so : Value) (w : World) (φ : Wish → Bool) (hd : DeskAt w d row ws)
    (hso : ∀ x ∈ ws, Asks so w x (φ x)) (R : Value → World → Prop)
    (h : ∀ w', Mod no w w' → R (.pointer (wptr (ws.find? φ))) w') : Ca Try.prog 27 #[.pointer (some ⟨d, 0, none⟩), so] w R := by
  obtain ⟨l, c, hc, hr⟩ := hd.cell
  refine ca27 _ so w R ?_
  refine made_of d w _ hc rfl ⟨true, rfl, ?_⟩
  refine ⟨row, l, c, by rw [cl1 hc]; rfl, ?_⟩
  refine indexFunc row l c so w ws φ hr hso _ fun w' hm => ⟨_, rfl, ?_⟩
  have hc' := hm.at' hc
  have hr' := row_mod hr hm fun _ _ => id
  have h' := h w' hm
  rw [find_get] at h'
  cases hi : ws.findIdx? φ with
  | none => rw [hi] at h'; exact h'
  | some i =>
    rw [hi] at h'
    have hlt : i < ws.length := (List.findIdx?_eq_some_iff_getElem.1 hi).1
    obtain ⟨hl, _⟩ := row_len hr
    have hge : decide ((i : Int) ≥ 0) = true := decide_eq_true (by omega)
    simp only [hge]
    obtain ⟨g, rfl, hcell⟩ := row_at hr' (i := i) (v := ws[i].ptr) (by simp [hlt])
    refine ⟨_, l, c, by rw [cl1 hc']; rfl, _, rfl, by omega, by omega, some ⟨ws[i].p, 0, none⟩, by simpa [Wish.ptr] using hcell, ?_⟩
    simpa [wptr, hlt] using h'

theorem find_nil (so : Value) (w : World) (R : Value → World → Prop) (h : R (.pointer none) w) : Ca Try.prog 27 #[.pointer none, so] w R := by
  refine ca27 _ so w R ?_
  exact made_nil w _ ⟨false, rfl, h⟩

/-- A desk that no call made. -/
theorem find_zero (d : Nat) (so : Value) (w : World) (R : Value → World → Prop) (hd : w.heap[d]? = some (.cells #[.slice none 0 0, .bool false] 59 (0, 0))) (h : R (.pointer none) w) : Ca Try.prog 27 #[.pointer (some ⟨d, 0, none⟩), so] w R := by
  refine ca27 _ so w R ?_
  exact made_of d w _ hd rfl ⟨false, rfl, h⟩

theorem asks_client (w : World) (client : Int) (k : Nat) (x : Wish) (hk : w.heap[k]? = some (.cells #[.int .i64 client] 3 (0, 0))) (hx : WishAt w x) :
    Asks (.func (.func 43) #[] #[.pointer (some ⟨k, 0, none⟩)]) w x (x.client == client) := by
  intro w' hm R hR
  refine ca43 _ _ w' R ?_
  intro w0 e
  subst e
  have hm' := Mod.drew w'
  refine ⟨x.client, by rw [cl1 (hm'.at' (hm.at' hx.cell))]; rfl, client, by rw [cl (hm'.at' (hm.at' hk))]; rfl, hR _ hm'⟩

theorem of_ok (d : Nat) (row : Option Addr) (ws : List Wish) (client : Int) (w : World) (hd : DeskAt w d row ws) (R : Value → World → Prop)
    (h : ∀ w', Mod no w w' → R (.pointer (wptr (ws.find? (·.client == client)))) w') : Ca Try.prog 26 #[.pointer (some ⟨d, 0, none⟩), .int .i64 client] w R := by
  refine ca26 _ client w R ?_
  intro w1 e
  subst e
  have hm := Mod.alloc w (.cells #[.int .i64 client] 3 (0, 0))
  have hd1 := hd.no hm
  refine find_ok d row ws _ _ (·.client == client) hd1 (fun x hx => asks_client _ client _ x (new_at w _) (hd1.wish x hx)) _ fun w' hm' => ⟨_, rfl, h w' (hm.trans hm')⟩

theorem of_nil (client : Int) (w : World) (R : Value → World → Prop) (h : ∀ w', Mod no w w' → R (.pointer none) w') : Ca Try.prog 26 #[.pointer none, .int .i64 client] w R := by
  refine ca26 _ client w R ?_
  intro w1 e
  subst e
  exact find_nil _ _ _ ⟨_, rfl, h _ (Mod.alloc w _)⟩

theorem of_zero (d : Nat) (client : Int) (w : World) (R : Value → World → Prop) (hd : w.heap[d]? = some (.cells #[.slice none 0 0, .bool false] 59 (0, 0))) (h : ∀ w', Mod no w w' → R (.pointer none) w') :
    Ca Try.prog 26 #[.pointer (some ⟨d, 0, none⟩), .int .i64 client] w R := by
  refine ca26 _ client w R ?_
  intro w1 e
  subst e
  exact find_zero d _ _ _ ((Mod.alloc w _).at' hd) ⟨_, rfl, h _ (Mod.alloc w _)⟩

/-! ### Next -/
def roomy (queue : ByteArray) (x : Wish) : Bool := (x.queue.toList == queue.toList) && decide ((x.tags.length : Int) < x.most)

theorem asks_room (w : World) (queue : ByteArray) (k : Nat) (x : Wish) (hk : w.heap[k]? = some (.cells #[.string queue] 9 (0, 0))) (hx : WishAt w x) :
    Asks (.func (.func 28) #[] #[.pointer (some ⟨k, 0, none⟩)]) w x (roomy queue x) := by
  intro w' hm R hR
  refine ca28 _ _ w' R ?_
  intro w0 e
  subst e
  have hm' := Mod.drew w'
  have hc := hm'.at' (hm.at' hx.cell)
  obtain ⟨es, clock, hes, hsz⟩ := (hx.tags.mod (hm.trans hm') id).size
  have hR' := hR _ hm'
  refine ⟨x.queue, by rw [cl1 hc]; rfl, queue, by rw [cl (hm'.at' (hm.at' hk))]; rfl, ifK_of (fun hb => ?_) (fun hb => ?_)⟩
  · rw [roomy, hb, Bool.true_and] at hR'
    refine ⟨some x.m, by rw [cl1 hc]; rfl, x.most, by rw [cl1 hc]; rfl, es, clock, hes, by rw [cl2 hc]; rfl, ?_⟩
    rw [hsz]
    simpa [setKs, intKs] using hR'
  · rw [roomy, hb, Bool.false_and] at hR'
    exact hR'

theorem next_ok (d : Nat) (row : Option Addr) (ws : List Wish) (queue : ByteArray) (w : World) (hd : DeskAt w d row ws) (R : Value → World → Prop)
    (h : ∀ w', Mod no w w' → R (.tuple #[.int .i64 (((ws.find? (roomy queue)).map (·.client)).getD 0), .bool (ws.find? (roomy queue)).isSome]) w') :
    Ca Try.prog 10 #[.pointer (some ⟨d, 0, none⟩), .string queue] w R := by
  refine ca10 _ queue w R ?_
  intro w1 e
  subst e
  have hm := Mod.alloc w (.cells #[.string queue] 9 (0, 0))
  have hd1 := hd.no hm
  refine find_ok d row ws _ _ (roomy queue) hd1 (fun x hx => asks_room _ queue _ x (new_at w _) (hd1.wish x hx)) _ fun w' hm' => ⟨_, rfl, ?_⟩
  have h' := h w' (hm.trans hm')
  cases hf : ws.find? (roomy queue) with
  | none => rw [hf] at h'; exact h'
  | some x =>
    rw [hf] at h'
    have hx : WishAt w' x := (hd1.no hm').wish x (List.mem_of_find?_eq_some hf)
    exact ⟨x.client, by rw [cl1 hx.cell]; rfl, h'⟩

theorem next_nil (queue : ByteArray) (w : World) (R : Value → World → Prop) (h : ∀ w', Mod no w w' → R (.tuple #[.int .i64 0, .bool false]) w') :
    Ca Try.prog 10 #[.pointer none, .string queue] w R := by
  refine ca10 _ queue w R ?_
  intro w1 e
  subst e
  exact find_nil _ _ _ ⟨_, rfl, h _ (Mod.alloc w _)⟩

theorem next_zero (d : Nat) (queue : ByteArray) (w : World) (R : Value → World → Prop) (hd : w.heap[d]? = some (.cells #[.slice none 0 0, .bool false] 59 (0, 0))) (h : ∀ w', Mod no w w' → R (.tuple #[.int .i64 0, .bool false]) w') :
    Ca Try.prog 10 #[.pointer (some ⟨d, 0, none⟩), .string queue] w R := by
  refine ca10 _ queue w R ?_
  intro w1 e
  subst e
  exact find_zero d _ _ _ ((Mod.alloc w _).at' hd) ⟨_, rfl, h _ (Mod.alloc w _)⟩
end Go.Proofs.Ytgmafocfhepccaa
