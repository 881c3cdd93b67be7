/- Contracts of the program's consumer functions that change a desk: Took, Settle. -/
import Derived.Test.YtgmafocfhepccaaCon3
namespace Go.Proofs.Ytgmafocfhepccaa
open Go Go.Proofs.Ytgmafocfhepccaa.St

theorem set70 : setOk Try.prog 70 .u64 = true := by kernel_rfl
theorem ptr68 : ptrOk Try.prog 68 = true := by kernel_rfl
theorem size57 : (Try.prog.info? 68).map (·.size) = some 1 := rowOk_size row57
theorem u57 : Try.prog.underlying 57 = some (.slice 68) := (rowOk_of row57).1

theorem index_ok (a : Option Addr) (l c : Nat) (w : World) (ws : List Wish) (hr : w.ownsRow 0 68 1 (.slice a l c) ws.length (ws.map Wish.ptr)) (hws : ∀ x ∈ ws, ∃ cs t, w.heap[x.p]? = some (.cells cs t (0, 0)))
    (hnd : (ws.map (·.p)).Nodup) (i : Nat) (hi : i < ws.length) (R : Value → World → Prop) (h : ∀ w', Mod no w w' → R (.int .i64 i) w') :
    Ca Try.prog 30 #[.slice a l c, .pointer (some ⟨ws[i].p, 0, none⟩)] w R := by
  obtain ⟨hl, _, hlc, hc⟩ := row_len hr
  refine ca30 a l c _ w R ?_
  refine ⟨fun x w' => ∃ k : Nat, x = k ∧ k ≤ i ∧ Mod no w w', fun x _ => ((l : Int) - x).toNat, ⟨0, rfl, Nat.zero_le _, Mod.refl _ _⟩, ?_⟩
  rintro _ x w4 ⟨k, rfl, hk, hm⟩
  have hlt : k < ws.length := by omega
  rw [show decide ((k : Int) < l) = true from decide_eq_true (by omega)]
  obtain ⟨g, rfl, hcell⟩ := row_at (row_mod hr hm fun _ _ => id) (i := k) (v := ws[k].ptr) (by simp [hlt])
  refine ⟨_, rfl, by omega, by omega, some ⟨ws[k].p, 0, none⟩, by simpa [Wish.ptr] using hcell, ?_⟩
  obtain ⟨_, _, hp1⟩ := hws _ (List.getElem_mem hi)
  obtain ⟨_, _, hp2⟩ := hws _ (List.getElem_mem hlt)
  refine ptrEq_ok ptr68 (hm.at' hp1) (hm.at' hp2) (ifK_of (fun hb => ?_) (fun hb => ?_))
  · have e : ws[i].p = ws[k].p := eq_of_beq hb
    have : i = k := by
      exact (List.getElem_inj (xs := ws.map (·.p)) (h₀ := by simpa using hi) (h₁ := by simpa using hlt) hnd).1 (by simpa using e)
    subst this
    exact h w4 hm
  · have hne : k ≠ i := fun e => by subst e; simp at hb
    have e : IntKind.i64.wrap ((k : Int) + 1) = ((k + 1 : Nat) : Int) := by rw [wrap64 (by omega) (by omega)]; omega
    rw [e]
    exact ⟨⟨k + 1, rfl, by omega, hm⟩, by simp only; omega⟩

def holdsB (q : ByteArray) (tag : Int) (x : One) : Bool := (x.queue.toList == q.toList) && x.tags.contains tag

theorem asks_holds (w : World) (q : ByteArray) (tag : Int) (b1 b2 : Nat) (y x : Wish) (h1 : w.heap[b1]? = some (.cells #[.pointer (some ⟨y.p, 0, none⟩)] 68 (0, 0))) (h2 : w.heap[b2]? = some (.cells #[.int .u64 tag] 27 (0, 0)))
    (hy : WishAt w y) (hq : y.queue = q) (hx : WishAt w x) :
    Asks (.func (.func 29) #[] #[.pointer (some ⟨b1, 0, none⟩), .pointer (some ⟨b2, 0, none⟩)]) w x (holdsB q tag x.one) := by
  intro w' hm R hR
  refine ca29 _ _ _ w' R ?_
  intro w0 e
  subst e
  have hm' := Mod.drew w'
  have hR' := hR _ hm'
  have hc := hm'.at' (hm.at' hx.cell)
  have hcy := hm'.at' (hm.at' hy.cell)
  refine ⟨x.queue, by rw [cl1 hc]; rfl, some ⟨y.p, 0, none⟩, by rw [cl (hm'.at' (hm.at' h1))]; rfl, y.queue, by rw [cl1 hcy]; rfl, ?_⟩
  rw [hq]
  refine ifK_of (fun hb => ?_) (fun hb => ?_)
  · refine ⟨some x.m, by rw [cl1 hc]; rfl, tag, by rw [cl (hm'.at' (hm.at' h2))]; rfl, _, _, set_has set70 (hx.tags.mod (hm.trans hm') id) tag, _, rfl, ?_⟩
    rw [holdsB, show (x.one.queue.toList == q.toList) = true from hb, Bool.true_and] at hR'
    exact hR'
  · rw [holdsB, show (x.one.queue.toList == q.toList) = false from hb, Bool.false_and] at hR'
    exact hR'

def tookE (l : List One) (client tag : Int) : Int :=
  match l.find? (·.client == client) with
  | none => 3
  | some x => if decide ((x.tags.length : Int) ≥ x.most) then 5 else if (l.find? (holdsB x.queue tag)).isSome then 4 else if tag == 0 then 2 else 0
/-- A thing goes to the line's end, changed. -/
def toEnd (l : List One) (φ : One → Bool) (f : One → One) : List One :=
  match l.findIdx? φ with
  | none => l
  | some i => l.take i ++ (l.drop (i + 1) ++ ((l.drop i).take 1).map f)
theorem drop_mid {α : Type} (a b : List α) (y : α) : (a ++ y :: b).drop (a.length + 1) = b := by
  rw [show a ++ y :: b = (a ++ [y]) ++ b by simp]
  exact List.drop_left' (by simp)
theorem toEnd_at {l a b : List One} {y : One} {φ : One → Bool} (f : One → One) (hl : l = a ++ y :: b) (hi : l.findIdx? φ = some a.length) : toEnd l φ f = a ++ (b ++ [f y]) := by
  rw [toEnd, hi, hl]
  simp only []
  rw [drop_mid]
  simp
def tookL (l : List One) (client tag : Int) : List One :=
  if tookE l client tag = 0 then toEnd l (·.client == client) fun x => { x with tags := x.tags ++ [tag] } else l

theorem fpW_append (a b : List Wish) : fpW (a ++ b) = fpW a ++ fpW b := by simp [fpW]

theorem mem_fp_row {d : Nat} {row : Option Addr} {ws : List Wish} {k : Nat} (h : rowB row k) : fp d row ws k := by simp [rowB] at h; simp [fp, h]
theorem mem_fp_p {d : Nat} {row : Option Addr} {ws : List Wish} {x : Wish} (h : x ∈ ws) : fp d row ws x.p := by
  simp only [fp, fpW, List.mem_cons, List.mem_append, List.mem_flatMap]; exact .inr (.inr ⟨x, h, by simp⟩)
theorem mem_fp_m {d : Nat} {row : Option Addr} {ws : List Wish} {x : Wish} (h : x ∈ ws) : fp d row ws x.m := by
  simp only [fp, fpW, List.mem_cons, List.mem_append, List.mem_flatMap]; exact .inr (.inr ⟨x, h, by simp⟩)

theorem nodup_p : ∀ {ws : List Wish}, (fpW ws).Nodup → (ws.map (·.p)).Nodup
  | [], _ => by simp
  | x :: ws, h => by
    simp only [fpW, List.flatMap_cons] at h
    rw [List.nodup_append] at h
    rw [List.map_cons, List.nodup_cons]
    refine ⟨fun hm => ?_, nodup_p h.2.1⟩
    obtain ⟨y, hy, e⟩ := List.mem_map.1 hm
    exact h.2.2 x.p (by simp) y.p (by simp only [List.mem_flatMap]; exact ⟨y, hy, by simp⟩) e.symm

theorem DeskAt.nd {w : World} {d : Nat} {row : Option Addr} {ws : List Wish} (h : DeskAt w d row ws) : (fpW ws).Nodup := by
  have := h.apart
  rw [List.nodup_cons, List.nodup_append] at this
  exact this.2.2.1

theorem DeskAt.ne_row {w : World} {d : Nat} {row : Option Addr} {ws : List Wish} (h : DeskAt w d row ws) : ¬ rowB row d ∧ (∀ x ∈ ws, x.p ≠ d ∧ x.m ≠ d ∧ ¬ rowB row x.p ∧ ¬ rowB row x.m) := by
  have hnd := h.apart
  rw [List.nodup_cons, List.nodup_append] at hnd
  have hr : ∀ k, rowB row k → k ∈ (row.map (·.block)).toList := fun k hk => by simp [rowB] at hk; simp [hk]
  refine ⟨fun hk => hnd.1 (by simp only [List.mem_append]; exact .inl (hr d hk)), fun x hx => ?_⟩
  have hp : x.p ∈ fpW ws := by simp only [fpW, List.mem_flatMap]; exact ⟨x, hx, by simp⟩
  have hm : x.m ∈ fpW ws := by simp only [fpW, List.mem_flatMap]; exact ⟨x, hx, by simp⟩
  exact ⟨fun e => hnd.1 (by rw [← e]; simp [hp]), fun e => hnd.1 (by rw [← e]; simp [hm]), fun hk => hnd.2.2.2 _ (hr _ hk) _ hp rfl, fun hk => hnd.2.2.2 _ (hr _ hk) _ hm rfl⟩

/-- In blocks that are no other's, each block belongs to one. -/
theorem fpW_apart {a b : List Wish} {x y : Wish} (h : (fpW (a ++ x :: b)).Nodup) (hy : y ∈ a ++ b) : x.m ≠ y.p ∧ x.m ≠ y.m ∧ x.p ≠ y.p ∧ x.p ≠ y.m ∧ x.p ≠ x.m := by
  have hp : (fpW ((a ++ b) ++ [x])).Nodup := by
    have e1 : fpW (a ++ x :: b) = fpW a ++ ([x.p, x.m] ++ fpW b) := by simp [fpW]
    have e2 : fpW (a ++ b ++ [x]) = fpW a ++ (fpW b ++ [x.p, x.m]) := by simp [fpW]
    rw [e1] at h
    rw [e2]
    exact (List.Perm.nodup_iff (List.Perm.append_left _ List.perm_append_comm)).1 h
  rw [fpW_append, List.nodup_append] at hp
  have h1 : y.p ∈ fpW (a ++ b) := by simp only [fpW, List.mem_flatMap]; exact ⟨y, hy, by simp⟩
  have h2 : y.m ∈ fpW (a ++ b) := by simp only [fpW, List.mem_flatMap]; exact ⟨y, hy, by simp⟩
  have h3 := hp.2.1
  simp [fpW] at h3
  exact ⟨fun e => hp.2.2 _ h1 x.m (by simp [fpW]) e.symm, fun e => hp.2.2 _ h2 x.m (by simp [fpW]) e.symm, fun e => hp.2.2 _ h1 x.p (by simp [fpW]) e.symm, fun e => hp.2.2 _ h2 x.p (by simp [fpW]) e.symm, h3⟩

theorem findIdx_one (ws : List Wish) (φ : One → Bool) : (ws.findIdx? fun x => φ x.one) = (ws.map Wish.one).findIdx? φ := by
  rw [List.findIdx?_map]; rfl

theorem find_split {α : Type} {φ : α → Bool} {ws : List α} {x : α} (h : ws.find? φ = some x) : ∃ a b, ws = a ++ x :: b ∧ ws.findIdx? φ = some a.length ∧ φ x = true := by
  rw [find_get] at h
  cases hi : ws.findIdx? φ with
  | none => rw [hi] at h; cases h
  | some i =>
    rw [hi] at h
    obtain ⟨hlt, hb, _⟩ := List.findIdx?_eq_some_iff_getElem.1 hi
    simp only at h
    rw [List.getElem?_eq_getElem hlt] at h
    injection h with h
    subst h
    refine ⟨ws.take i, ws.drop (i + 1), ?_, ?_, hb⟩
    · rw [← List.drop_eq_getElem_cons hlt, List.take_append_drop]
    · rw [List.length_take, Nat.min_eq_left (by omega)]

/-- A desk whose one goes to the line's end. -/
theorem desk_end {w w' : World} {d : Nat} {row : Option Addr} {ws : List Wish} {F : Nat → Prop} {a b : List Wish} {x x' : Wish} {sl sc : Nat} {l' : List One} (hda : DeskAt w d row ws) (hab : ws = a ++ x :: b) (hp : x'.p = x.p) (hm : x'.m = x.m)
    (hF : ∀ k, fp d row ws k → F k) (hc : w'.heap[d]? = some (.cells #[.slice row sl sc, .bool true] 59 (0, 0)))
    (hr : w'.ownsRow 0 68 1 (.slice row sl sc) ws.length (((ws.map Wish.ptr).take a.length ++ ((ws.map Wish.ptr).drop (a.length + 1) ++ (ws.map Wish.ptr).drop (ws.length - 1))).set (sl - 1) x.ptr))
    (hsl : sl = ws.length) (hw : ∀ y ∈ a ++ b, WishAt w' y) (hx' : WishAt w' x') (hl : (a ++ (b ++ [x'])).map Wish.one = l') : Dk w' d F l' := by
  have hlen : (a ++ (b ++ [x'])).length = ws.length := by rw [hab]; simp
  have hfp : fpW (a ++ (b ++ [x'])) = fpW a ++ (fpW b ++ [x.p, x.m]) := by rw [fpW_append, fpW_append]; simp [fpW, hp, hm]
  have hfp0 : fpW ws = fpW a ++ ([x.p, x.m] ++ fpW b) := by rw [hab, fpW_append]; simp [fpW]
  have hperm : (fpW ws).Perm (fpW (a ++ (b ++ [x']))) := by rw [hfp, hfp0]; exact List.Perm.append_left _ List.perm_append_comm
  refine ⟨row, a ++ (b ++ [x']), ⟨⟨sl, sc, hc, ?_⟩, ?_, ?_⟩, hl, ?_⟩
  · rw [hlen]
    have e : ((ws.map Wish.ptr).take a.length ++ ((ws.map Wish.ptr).drop (a.length + 1) ++ (ws.map Wish.ptr).drop (ws.length - 1))).set (sl - 1) x.ptr = (a ++ (b ++ [x'])).map Wish.ptr := by
      obtain ⟨z, hz⟩ : ∃ z, (ws.map Wish.ptr).drop (ws.length - 1) = [z] := List.length_eq_one_iff.1 (by rw [List.length_drop, List.length_map, hab]; simp; omega)
      rw [hz, hsl]
      subst hab
      have h1 : ((a ++ x :: b).map Wish.ptr).take a.length = a.map Wish.ptr := by simp
      have h2 : ((a ++ x :: b).map Wish.ptr).drop (a.length + 1) = b.map Wish.ptr := by
        rw [show a ++ x :: b = (a ++ [x]) ++ b by simp, List.map_append]
        exact List.drop_left' (by simp)
      rw [h1, h2]
      have h3 : (a ++ x :: b).length - 1 = (a.map Wish.ptr ++ b.map Wish.ptr).length := by simp
      rw [h3, ← List.append_assoc, List.set_append_right _ _ (Nat.le_refl _)]
      simp [Wish.ptr, hp]
    rw [← e]
    exact hr
  · intro y hy
    rw [← List.append_assoc, List.mem_append] at hy
    rcases hy with hy | hy
    · exact hw y hy
    · simp at hy; subst hy; exact hx'
  · have h := hda.apart
    rw [List.nodup_cons, List.nodup_append] at h ⊢
    refine ⟨fun hm => h.1 ?_, h.2.1, hperm.nodup_iff.1 h.2.2.1, fun p hp' q hq => h.2.2.2 p hp' q (hperm.mem_iff.2 hq)⟩
    rw [List.mem_append] at hm ⊢
    exact hm.imp id fun h => hperm.mem_iff.2 h
  · intro k hk
    refine hF k ?_
    simp only [fp, List.mem_cons, List.mem_append] at hk ⊢
    exact hk.imp id fun h => h.imp id fun h => hperm.mem_iff.2 h

theorem took_ok (d : Nat) (F : Nat → Prop) (l : List One) (client tag : Int) (w : World) (hd : Dk w d F l) (R : Value → World → Prop)
    (h : ∀ w', Dk w' d F (tookL l client tag) → Mod F w w' → R (.int .i64 (tookE l client tag)) w') :
    Ca Try.prog 11 #[.pointer (some ⟨d, 0, none⟩), .int .i64 client, .int .u64 tag] w R := by
  have same : ∀ w' e, Mod no w w' → tookE l client tag = e → e ≠ 0 → R (.int .i64 e) w' := by
    intro w' e hm he hne
    have h' := h w' (by rw [tookL, he, if_neg hne]; exact hd.no hm) hm.of_no
    rwa [he] at h'
  obtain ⟨row, ws, hda, hl, hF⟩ := hd
  obtain ⟨sl, sc, hc, hr⟩ := hda.cell
  obtain ⟨hsl, _, hlc, hcm⟩ := row_len hr
  refine ca11 _ client tag w R ?_
  intro w0 e0
  have m0 : Mod no w w0 := by subst e0; exact Mod.alloc _ _
  have b0 : w0.heap[w.heap.size]? = some (.cells #[.int .u64 tag] 27 (0, 0)) := by subst e0; exact new_at _ _
  clear e0
  refine made_of d w0 _ (m0.at' hc) rfl ⟨true, rfl, ?_⟩
  refine ifK_of (fun hb => by cases hb) (fun _ => ?_)
  refine of_ok d row ws client w0 (hda.no m0) _ fun w5 m5 => ⟨_, rfl, ?_⟩
  have m5' := m0.trans m5
  intro w7 e7
  have m7 : Mod no w5 w7 := by subst e7; exact Mod.alloc _ _
  have b7 : w7.heap[w5.heap.size]? = some (.cells #[.pointer none] 68 (0, 0)) := by subst e7; exact new_at _ _
  clear e7
  refine ⟨⟨_, by rw [cl1 b7]; rfl⟩, fz1 b7 _, ?_⟩
  intro w9 e9
  have m9 : Mod no w5 w9 := by subst e9; exact m7.new (Mod.set1 _ _ _ _) fun k hk => by cases hk; exact Nat.le_refl _
  have b9 : w9.heap[w5.heap.size]? = some (.cells #[.pointer (wptr (ws.find? (·.client == client)))] 68 (0, 0)) := by subst e9; rw [set1 b7]; rfl
  clear e9
  have m9' := m5'.trans m9
  refine ⟨_, by rw [cl b9]; rfl, ?_⟩
  have hfl : l.find? (·.client == client) = (ws.find? (·.client == client)).map Wish.one := by rw [← hl, ← find_one]; rfl
  cases hf : ws.find? (·.client == client) with
  | none =>
    rw [hf] at hfl
    exact same _ _ m9' (by simp only [tookE, hfl]; rfl) (by decide)
  | some x =>
  rw [hf] at b9 hfl
  have hx : x ∈ ws := List.mem_of_find?_eq_some hf
  show atW (World.drew w9) _
  intro w11 e11
  have m11 : Mod no w9 w11 := by subst e11; exact Mod.drew _
  clear e11
  have b11 := m11.at' b9
  have m11' := m9'.trans m11
  have hw11 := (hda.wish x hx).mod m11' id id
  obtain ⟨es, clock, hes, hsz⟩ := hw11.tags.size
  refine ⟨some ⟨x.p, 0, none⟩, by rw [cl b11]; rfl, some x.m, by rw [cl1 hw11.cell]; rfl, some ⟨x.p, 0, none⟩, by rw [cl b11]; rfl, x.most, by rw [cl1 hw11.cell]; rfl, es, clock, hes, by rw [cl1 b11]; rfl, by rw [cl2 hw11.cell]; rfl, ?_⟩
  have hsz' : es.size = x.tags.length := by rw [hsz]; simp [setKs, intKs]
  rw [hsz']
  refine ifK_of (fun h1 => same _ _ m11' (by simp only [tookE, hfl, Option.map_some]; exact if_pos h1) (by decide)) (fun h1 => ?_)
  have b0' := ((m5.trans m9).trans m11).at' b0
  refine find_ok d row ws _ w11 (fun y => holdsB x.queue tag y.one) (hda.no m11') (fun y hy => asks_holds w11 x.queue tag _ _ x y b11 b0' hw11 rfl ((hda.wish y hy).mod m11' id id)) _ fun w20 m20 => ⟨_, rfl, ?_⟩
  have m20' := m11'.trans m20
  have hf2 : (wptr (ws.find? fun y => holdsB x.queue tag y.one)).isNone = !(l.find? (holdsB x.queue tag)).isSome := by
    rw [← hl, ← find_one]
    cases ws.find? (fun y => holdsB x.queue tag y.one) <;> rfl
  rw [hf2, Bool.not_not]
  refine ifK_of (fun h2 => same _ _ m20' (by simp only [tookE, hfl, Option.map_some]; exact (if_neg (by rw [show decide ((x.one.tags.length : Int) ≥ x.one.most) = false from h1]; decide)).trans (if_pos h2)) (by decide)) (fun h2 => ?_)
  refine ⟨tag, by rw [cl (m20.at' b0')]; rfl, ?_⟩
  have hE : tookE l client tag = if tag == 0 then 2 else 0 := by
    simp only [tookE, hfl, Option.map_some]
    exact (if_neg (by rw [show decide ((x.one.tags.length : Int) ≥ x.one.most) = false from h1]; decide)).trans (if_neg (by rw [show (l.find? (holdsB x.one.queue tag)).isSome = false from h2]; decide))
  refine ifK_of (fun h3 => same _ _ m20' (by rw [hE, h3]; rfl) (by decide)) (fun h3 => ?_)
  rw [h3] at hE
  have hE : tookE l client tag = 0 := hE
  have hnot : tag ∉ x.tags := by
    intro hmem
    have : l.find? (holdsB x.queue tag) = none := by simpa using h2
    rw [List.find?_eq_none] at this
    have := this x.one (by rw [← hl]; exact List.mem_map_of_mem hx)
    simp [holdsB, Wish.one, hmem] at this
  intro w23 e23
  have m23 : Mod no w20 w23 := by subst e23; exact Mod.drew _
  clear e23
  have m23' := m20'.trans m23
  have b23 := (m20.trans m23).at' b11
  have hw23 := (hda.wish x hx).mod m23' id id
  obtain ⟨w28, hrun, m28, t28⟩ := set_add set70 hw23.tags hnot
  refine ⟨some ⟨x.p, 0, none⟩, by rw [cl b23]; rfl, some x.m, by rw [cl1 hw23.cell]; rfl, tag, by rw [cl ((m20.trans m23).at' b0')]; rfl, w28, hrun, ?_⟩
  intro w29 e29
  have m29 : Mod (on x.m) w23 w29 := by subst e29; exact m28.trans_no (Mod.drew _)
  have t29 : MapAt w29 x.m (setOf (x.tags ++ [tag])) := by subst e29; exact t28.mod (Mod.drew _) id
  clear e29
  obtain ⟨hdrow, hnr⟩ := hda.ne_row
  have hsx := hnr x hx
  have hc23 := m23'.at' hc
  have hr23 := row_mod hr m23' fun _ _ => id
  have hlt5 := m5'.size
  have hbox : w5.heap.size ≠ x.m := by have := hda.lt x.m (mem_fp_m hx); omega
  have hc29 := m29.at hc23 (fun e => hsx.2.1 e.symm)
  have hr29 := row_mod hr23 m29 fun k hk e => by cases e; exact hsx.2.2.2 hk
  have b29 := m29.at b23 hbox
  obtain ⟨a, b, hab, hidx, hcl⟩ := find_split hf
  have hap := fun y hy => fpW_apart (a := a) (b := b) (x := x) (y := y) (by rw [← hab]; exact hda.nd) hy
  have hi : a.length < ws.length := by rw [hab]; simp
  have hwi : ws[a.length] = x := by simp [hab]
  refine ⟨row, sl, sc, by rw [cl1 hc29]; rfl, some ⟨x.p, 0, none⟩, by rw [cl b29]; rfl, ?_⟩
  have hcells : ∀ y ∈ ws, ∃ cs t, w29.heap[y.p]? = some (.cells cs t (0, 0)) := by
    intro y hy
    refine ⟨_, _, m29.at (m23'.at' (hda.wish y hy).cell) fun e => ?_⟩
    rw [hab] at hy
    rcases List.mem_append.1 hy with h | h
    · exact (hap y (List.mem_append_left _ h)).1 e.symm
    · rcases List.mem_cons.1 h with rfl | h
      · have := fpW_apart (a := a) (b := b) (x := y) (y := y) (by rw [← hab]; exact hda.nd)
        have h5 : y.p ≠ y.m := by
          have hn := hda.nd
          rw [hab, fpW_append] at hn
          have := (List.nodup_append.1 hn).2.1
          simp only [fpW, List.flatMap_cons] at this
          have := (List.nodup_append.1 this).1
          simpa using this
        exact h5 e
      · exact (hap y (List.mem_append_right _ h)).1 e.symm
  have hix := index_ok row sl sc w29 ws hr29 hcells (nodup_p hda.nd) a.length hi
  rw [hwi] at hix
  refine hix _ fun w36 m36 => ⟨_, rfl, ?_⟩
  intro w38 e38
  have m38 : Mod no w36 w38 := by subst e38; exact Mod.drew _
  clear e38
  have m38' := m36.trans m38
  have hc38 := m38'.at' hc29
  have hr38 := row_mod hr29 m38' fun _ _ => id
  have b38 := m38'.at' b29
  have t38 := t29.mod m38' id
  refine ⟨row, sl, sc, by rw [cl1 hc38]; rfl, by omega, by omega, by omega, row, sl, sc, by rw [cl1 hc38]; rfl, ?_⟩
  have e1 : IntKind.i64.wrap ((a.length : Int) + 1) = ((a.length + 1 : Nat) : Int) := by rw [wrap64 (by omega) (by omega)]; omega
  rw [e1]
  refine ⟨by omega, by omega, by omega, ?_⟩
  have hone : ∀ v ∈ ws.map Wish.ptr, v.oneCell' = true := by
    intro v hv
    obtain ⟨y, _, rfl⟩ := List.mem_map.1 hv
    rfl
  obtain ⟨w48, v48, hcopy, m48, hr48⟩ := row_close (P := Try.prog) (t := 57) (ty := 3) u57 size57 hr38 hi hone
  refine ⟨_, w48, hcopy, _, rfl, ?_⟩
  intro w50 e50
  have m50 : Mod (rowB row) w38 w50 := by subst e50; exact m48.trans_no (Mod.drew _)
  have hr50 := row_mod hr48 (Mod.drew w48) fun _ _ => id
  rw [← e50] at hr50
  clear e50
  have hc50 := m50.at hc38 hdrow
  have hboxr : ¬ rowB row w5.heap.size := fun hk => by have := hda.lt _ (mem_fp_row hk); omega
  have b50 := m50.at b38 hboxr
  have t50 := t38.mod m50 hsx.2.2.2
  have e2 : IntKind.i64.wrap ((sl : Int) - 1) = ((sl - 1 : Nat) : Int) := by rw [wrap64 (by omega) (by omega)]; omega
  refine ⟨row, sl, sc, by rw [cl1 hc50]; rfl, row, sl, sc, by rw [cl1 hc50]; rfl, some ⟨x.p, 0, none⟩, by rw [cl b50]; rfl, ?_⟩
  rw [e2]
  obtain ⟨ad, had, hold, hfz, m62, hr62⟩ := row_put hr50 (i := sl - 1) (by omega) (x.ptr)
  refine ⟨ad, had, by omega, by omega, hold, hfz, ?_⟩
  intro w62 e62
  have e62 : w62 = w50.setCell ((ad.add ((sl - 1) * 1)).add 0) x.ptr := e62
  rw [← e62] at m62 hr62
  clear e62
  have mAll : Mod (fun k => k = x.m ∨ rowB row k) w w62 :=
    m23'.no_trans (((m29.mono fun k _ hk => .inl hk).trans_no m38').trans' (m50.trans m62) fun k _ hk => .inr hk)
  have h' := h w62 ?_ (mAll.mono fun k _ hk => hF k (by
    rcases hk with rfl | hk
    · exact mem_fp_m hx
    · exact mem_fp_row hk))
  · rw [hE] at h'; exact h'
  · have hx' : WishAt w62 { x with tags := x.tags ++ [tag] } := by
      have hpm : x.p ≠ x.m := by
        have hn := hda.nd
        rw [hab, fpW_append] at hn
        have := (List.nodup_append.1 hn).2.1
        simp only [fpW, List.flatMap_cons] at this
        have := (List.nodup_append.1 this).1
        simpa using this
      refine ⟨mAll.at (hda.wish x hx).cell ?_, t50.mod m62 hsx.2.2.2⟩
      rintro (e | e)
      · exact hpm e
      · exact hsx.2.2.1 e
    exact desk_end (x' := { x with tags := x.tags ++ [tag] }) hda hab rfl rfl hF (m62.at hc50 hdrow) hr62 (by omega) (fun y hy => (hda.wish y (by rw [hab]; rcases List.mem_append.1 hy with h | h <;> simp [h])).mod mAll
      (by have h1 := hap y hy; have h2 := hnr y (by rw [hab]; rcases List.mem_append.1 hy with h | h <;> simp [h])
          rintro (e | e)
          · exact h1.1 e.symm
          · exact h2.2.2.1 e)
      (by have h1 := hap y hy; have h2 := hnr y (by rw [hab]; rcases List.mem_append.1 hy with h | h <;> simp [h])
          rintro (e | e)
          · exact h1.2.1 e.symm
          · exact h2.2.2.2 e)) hx' (by
        have hi' : l.findIdx? (·.client == client) = some (a.map Wish.one).length := by rw [← hl, ← findIdx_one, List.length_map]; exact hidx
        rw [tookL, if_pos hE, toEnd_at _ (a := a.map Wish.one) (b := b.map Wish.one) (y := x.one) (by rw [← hl, hab]; simp) hi']
        simp [Wish.one])
end Go.Proofs.Ytgmafocfhepccaa
