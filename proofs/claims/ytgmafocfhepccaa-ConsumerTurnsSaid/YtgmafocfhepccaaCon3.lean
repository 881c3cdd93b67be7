/- Contracts of the program's consumer functions that change a desk: Add. -/
import Derived.Test.YtgmafocfhepccaaCon2
namespace Go.Proofs.Ytgmafocfhepccaa
open Go Go.Proofs.Ytgmafocfhepccaa.St

/-- One who wants messages, with no blocks in sight. -/
structure One where
  client : Int
  queue : ByteArray
  most : Int
  tags : List Int
def Wish.one (x : Wish) : One := ⟨x.client, x.queue, x.most, x.tags⟩

/-- At d lies a desk of these, in the blocks F. -/
def Dk (w : World) (d : Nat) (F : Nat → Prop) (l : List One) : Prop :=
  ∃ row ws, DeskAt w d row ws ∧ ws.map Wish.one = l ∧ ∀ k, fp d row ws k → F k

theorem Dk.mod {S F : Nat → Prop} {w w' : World} {d : Nat} {l : List One} (h : Dk w d F l) (hm : Mod S w w') (hs : ∀ k, F k → ¬ S k) : Dk w' d F l :=
  let ⟨row, ws, hd, hl, hF⟩ := h
  ⟨row, ws, hd.mod hm fun k hk => hs k (hF k hk), hl, hF⟩
theorem Dk.no {F : Nat → Prop} {w w' : World} {d : Nat} {l : List One} (h : Dk w d F l) (hm : Mod no w w') : Dk w' d F l := h.mod hm fun _ _ => id

theorem find_one (ws : List Wish) (φ : One → Bool) : (ws.find? fun x => φ x.one).map Wish.one = (ws.map Wish.one).find? φ := by
  rw [List.find?_map]; rfl

theorem DeskAt.lt {w : World} {d : Nat} {row : Option Addr} {ws : List Wish} (h : DeskAt w d row ws) : ∀ k, fp d row ws k → k < w.heap.size := by
  intro k hk
  obtain ⟨l, c, hc, hr⟩ := h.cell
  simp only [fp, fpW, List.mem_cons, List.mem_append, List.mem_flatMap] at hk
  rcases hk with rfl | hk | ⟨x, hx, hk⟩
  · exact lt_of_heap hc
  · rcases hr.2 with ⟨hv, _⟩ | ⟨g, cap, cur, hv, _, hg, _⟩
    · injection hv with h1; subst h1; simp at hk
    · injection hv with h1; subst h1; simp at hk; subst hk; exact lt_of_heap hg
  · simp at hk
    rcases hk with rfl | rfl
    · exact lt_of_heap (h.wish x hx).cell
    · exact (h.wish x hx).tags.lt

def addE (l : List One) (client : Int) (queue : ByteArray) (most : Int) : Int :=
  if decide (client < 1) then 2 else if decide (client > 1000) then 2 else if decide (most < 1) then 2 else if decide (most > 100) then 2 else
  if !nameB queue then 2 else if (l.find? (·.client == client)).isSome then 4 else if decide ((l.length : Int) ≥ 32) then 5 else 0
def addL (l : List One) (client : Int) (queue : ByteArray) (most : Int) : List One :=
  if addE l client queue most = 0 then l ++ [⟨client, queue, most, []⟩] else l

theorem row57 : rowOk Try.prog 57 68 = true := by kernel_rfl

theorem add_ok (d : Nat) (F : Nat → Prop) (l : List One) (client : Int) (queue : ByteArray) (most : Int) (w : World) (hd : Dk w d F l) (R : Value → World → Prop)
    (h : ∀ w' F', Dk w' d F' (addL l client queue most) → Mod F w w' → (∀ k, F' k → F k ∨ w.heap.size ≤ k) → R (.int .i64 (addE l client queue most)) w') :
    Ca Try.prog 9 #[.pointer (some ⟨d, 0, none⟩), .int .i64 client, .string queue, .int .i64 most] w R := by
  have same : ∀ w' e, Mod no w w' → addE l client queue most = e → e ≠ 0 → R (.int .i64 e) w' := by
    intro w' e hm he hne
    have h' := h w' F (by rw [addL, he, if_neg hne]; exact hd.no hm) hm.of_no fun k hk => .inl hk
    rwa [he] at h'
  obtain ⟨row, ws, hda, hl, hF⟩ := hd
  obtain ⟨sl, sc, hc, hr⟩ := hda.cell
  refine ca9 _ client queue most w R ?_
  refine made_of d w _ hc rfl ⟨true, rfl, ?_⟩
  refine ifK_of (fun hb => by cases hb) (fun _ => ?_)
  refine ifK_of (fun h1 => same _ _ (Mod.refl _ _) (by simp only [addE, h1, if_true]) (by decide)) (fun h1 => ?_)
  refine ifK_of (fun h2 => same _ _ (Mod.refl _ _) (by simp only [addE, h1, h2, if_true]; rfl) (by decide)) (fun h2 => ?_)
  refine ifK_of (fun h3 => same _ _ (Mod.refl _ _) (by simp only [addE, h1, h2, h3, if_true]; rfl) (by decide)) (fun h3 => ?_)
  refine ifK_of (fun h4 => same _ _ (Mod.refl _ _) (by simp only [addE, h1, h2, h3, h4, if_true]; rfl) (by decide)) (fun h4 => ?_)
  refine name_ok queue w _ fun w4 hm4 => ⟨_, rfl, ?_⟩
  refine ifK_of (fun h5 => same _ _ hm4 (by simp only [addE, h1, h2, h3, h4, h5, if_true]; rfl) (by decide)) (fun h5 => ?_)
  refine of_ok d row ws client w4 (hda.no hm4) _ fun w7 hm7 => ⟨_, rfl, ?_⟩
  have hm7 := hm4.trans hm7
  have hf : (wptr (ws.find? (·.client == client))).isNone = !(l.find? (·.client == client)).isSome := by
    rw [← hl, ← find_one]
    show (Option.map _ (ws.find? fun x => x.client == client)).isNone = !(Option.map _ (ws.find? fun x => x.client == client)).isSome
    cases ws.find? (fun x => x.client == client) <;> rfl
  rw [hf, Bool.not_not]
  refine ifK_of (fun h6 => same _ _ hm7 (by simp only [addE, h1, h2, h3, h4, h5, h6, if_true]; rfl) (by decide)) (fun h6 => ?_)
  have hlen : ws.length = l.length := by rw [← hl, List.length_map]
  obtain ⟨hsl, _⟩ := row_len hr
  have hd7 := hda.no hm7
  have hc7 := hm7.at' hc
  have hr7 := row_mod hr hm7 fun _ _ => id
  refine ⟨row, sl, sc, by rw [cl1 hc7]; rfl, ?_⟩
  refine ifK_of (fun h7 => same _ _ hm7 (by rw [hsl, hlen] at h7; simp only [addE, h1, h2, h3, h4, h5, h6, h7, if_true]; rfl) (by decide)) (fun h7 => ?_)
  have hE : addE l client queue most = 0 := by rw [hsl, hlen] at h7; simp only [addE, h1, h2, h3, h4, h5, h6, h7]; rfl
  have hlt : l.length < 32 := by rw [hsl, hlen] at h7; have := of_decide_eq_false h7; omega
  refine ⟨row, sl, sc, by rw [cl1 hc7]; rfl, ?_⟩
  intro w17 e17
  intro w18 e18
  intro w19 e19
  have m17 : Mod no w7 w17 := by subst e17; exact Mod.alloc _ _
  have m18 : Mod no w17 w18 := by subst e18; exact Mod.alloc _ _
  have m19 : Mod no w18 w19 := by subst e19; exact Mod.alloc _ _
  have s17 : w17.heap.size = w7.heap.size + 1 := by subst e17; simp
  have s18 : w18.heap.size = w7.heap.size + 2 := by subst e18; simp [s17]
  have s19 : w19.heap.size = w7.heap.size + 3 := by subst e19; simp [s18]
  have b17 : MapAt w17 w7.heap.size [] := by subst e17; exact MapAt.new _
  have b18 : w18.heap[w17.heap.size]? = some (.cells #[.int .i64 client, .string queue, .int .i64 most, .map (some w7.heap.size)] 72 (0, 0)) := by subst e18; exact new_at _ _
  have b19 : w19.heap[w18.heap.size]? = some (.cells #[.pointer (some ⟨w17.heap.size, 0, none⟩)] 68 (0, 0)) := by subst e19; exact new_at _ _
  have b17' := b17.mod (m18.trans m19) id
  have b18' := m19.at' b18
  have mm := (m17.trans m18).trans m19
  clear e17 e18 e19
  obtain ⟨a', c', w21, hrun, hown, m21, hnew⟩ := row_push (ty := 57) row57 (row_mod hr7 mm fun _ _ => id) (b := ⟨w18.heap.size, 0, none⟩) (m := 1) (cc := 1) (news := [.pointer (some ⟨w17.heap.size, 0, none⟩)]) rfl (by decide)
    (by intro j v hj; cases j with
        | zero => simp at hj; subst hj; rw [cl1 b19]; rfl
        | succ j => simp at hj) (by simp [Value.oneCell']) (by omega)
  refine ⟨_, w21, by rw [hsl]; rw [hsl] at hrun; exact hrun, _, _, _, rfl, ?_⟩
  have hnd := hda.apart
  have hdlt := hda.lt d (by simp [fp])
  have hrow : ∀ k, rowB row k → fp d row ws k := by intro k hk; simp [rowB] at hk; simp [fp, hk]
  have hrowd : ¬ rowB row d := by
    intro hk
    simp only [rowB] at hk
    rw [hk] at hnd
    simp at hnd
  have hda' : ¬ rowB (some a') d := by
    intro hk
    rcases hnew d hk with h | h
    · exact hrowd h
    · have := hm7.size; omega
  have hc21 := m21.at (mm.at' hc7) hrowd
  refine ⟨⟨_, by rw [cl2 hc21]; rfl⟩, fz2 hc21 _ _, ?_⟩
  intro w27 e27
  have m27 : Mod (on d) w21 w27 := by subst e27; exact Mod.set2 _ _ _ _ _
  have c27 : w27.heap[d]? = some (.cells #[.slice (some a') (ws.length + 1) c', .bool true] 59 (0, 0)) := by
    subst e27; rw [set2 hc21]; rfl
  clear e27
  have hwlt : ∀ x ∈ ws, fp d row ws x.p ∧ fp d row ws x.m := by
    intro x hx
    simp only [fp, fpW, List.mem_cons, List.mem_append, List.mem_flatMap]
    exact ⟨.inr (.inr ⟨x, hx, by simp⟩), .inr (.inr ⟨x, hx, by simp⟩)⟩
  have hsz := hm7.size
  have hwnd : ∀ k ∈ fpW ws, k ≠ d ∧ ¬ rowB row k := by
    intro k hk
    rw [List.nodup_cons, List.nodup_append] at hnd
    refine ⟨fun e => hnd.1 (by subst e; simp [hk]), fun hr => ?_⟩
    exact hnd.2.2.2 k (by simp [rowB] at hr; simp [hr]) k hk rfl
  have hmA : Mod (fun k => k = d ∨ rowB row k) w7 w27 :=
    (mm.no_trans (m21.mono fun k _ hk => .inr hk)).trans' m27 fun k _ hk => .inl hk
  have hE' := h w27 (fun k => F k ∨ w.heap.size ≤ k) ?_ ?_ fun k hk => hk
  · rw [hE] at hE'; exact hE'
  · refine ⟨some a', ws ++ [⟨w17.heap.size, w7.heap.size, client, queue, most, []⟩], ⟨⟨_, c', by simpa using c27, ?_⟩, ?_, ?_⟩, ?_, ?_⟩
    · have := row_mod hown m27 (fun k hk => fun e => hda' (by cases e; exact hk))
      simpa [Wish.ptr] using this
    · intro x hx
      rw [List.mem_append] at hx
      rcases hx with hx | hx
      · refine (hd7.wish x hx).mod hmA ?_ ?_
        · have := hwnd x.p (by simp only [fpW, List.mem_flatMap]; exact ⟨x, hx, by simp⟩)
          rintro (h | h)
          · exact this.1 h
          · exact this.2 h
        · have := hwnd x.m (by simp only [fpW, List.mem_flatMap]; exact ⟨x, hx, by simp⟩)
          rintro (h | h)
          · exact this.1 h
          · exact this.2 h
      · simp at hx
        subst hx
        have hb : ∀ k, w7.heap.size ≤ k → ¬ rowB row k := fun k hk hr => by have := hda.lt k (hrow k hr); omega
        exact ⟨m27.at (m21.at b18' (hb w17.heap.size (by omega))) (show ¬ w17.heap.size = d by omega), (b17'.mod m21 (hb w7.heap.size (by omega))).mod m27 (show ¬ w7.heap.size = d by omega)⟩
    · have e : fpW (ws ++ [⟨w17.heap.size, w7.heap.size, client, queue, most, []⟩]) = fpW ws ++ [w17.heap.size, w7.heap.size] := by simp [fpW]
      rw [e]
      have hwl : ∀ k ∈ fpW ws, k < w.heap.size := fun k hk => hda.lt k (by simp [fp, hk])
      have ha' : rowB row a'.block ∨ w19.heap.size ≤ a'.block := hnew _ (by simp [rowB])
      have ha'' : a'.block ≠ d := fun e => hda' (by simp [rowB, e])
      have ha3 : ∀ k ∈ fpW ws, a'.block ≠ k := by
        intro k hk e
        rcases ha' with h | h
        · rw [e] at h; exact (hwnd k hk).2 h
        · have := hwl k hk; omega
      have ha4 : a'.block < w7.heap.size ∨ w19.heap.size ≤ a'.block := ha'.imp (fun h => by have := hda.lt _ (hrow _ h); omega) id
      rw [List.nodup_cons, List.nodup_append] at hnd
      simp only [Option.map_some, Option.toList_some, List.cons_append, List.nil_append, List.nodup_cons, List.mem_cons, List.mem_append, List.not_mem_nil, or_false, not_or]
      refine ⟨⟨fun e => ha'' e.symm, fun hk => (hwnd d hk).1 rfl, by omega, by omega⟩, ⟨fun hk => ha3 _ hk rfl, by omega, by omega⟩, ?_⟩
      rw [List.nodup_append]
      refine ⟨hnd.2.2.1, by simp; omega, ?_⟩
      intro a ha b hb
      have := hwl a ha
      simp at hb
      omega
    · rw [List.map_append, hl, addL, if_pos hE]; rfl
    · intro k hk
      simp only [fp, fpW, List.flatMap_append, List.mem_cons, List.mem_append] at hk
      have hold : fp d row ws k → F k ∨ w.heap.size ≤ k := fun h => .inl (hF k h)
      rcases hk with rfl | hk | hk | hk
      · exact hold (by simp [fp])
      · have : rowB (some a') k := by simp at hk; simp [rowB, hk]
        rcases hnew k this with h | h
        · exact hold (hrow k h)
        · exact .inr (by omega)
      · exact hold (by simp only [fp, List.mem_cons, List.mem_append]; exact .inr (.inr hk))
      · simp at hk
        exact .inr (by omega)
  · exact hm7.no_trans (hmA.mono fun k hk hS => hF k (by
      rcases hS with rfl | h
      · simp [fp]
      · exact hrow k h))
end Go.Proofs.Ytgmafocfhepccaa
