/- Contracts of the program's consumer functions: Drop. -/
import Derived.Test.YtgmafocfhepccaaCon9
namespace Go.Proofs.Ytgmafocfhepccaa
open Go Go.Proofs.Ytgmafocfhepccaa.St

theorem drop_ok (d : Nat) (F : Nat → Prop) (l : List One) (client : Int) (w : World) (hd : Dk w d F l) (hs : ∀ x ∈ l, x.tags.length ≤ 12) (R : Value → World → Prop)
    (h0 : l.find? (·.client == client) = none → ∀ w', Mod no w w' → R (.tuple #[.agg #[.string (ByteArray.mk #[]), .slice none 0 0], .int .i64 3]) w')
    (h1 : ∀ a x b, l = a ++ x :: b → l.findIdx? (·.client == client) = some a.length → x.client = client → ∀ w' ra rl rc ys, Dk w' d F (a ++ b) → Mod F w w' → Ints .u64 27 w' ra rl rc ys → ys.Perm x.tags → Srt ys 0 rl →
      (∀ k, rowB ra k → w.heap.size ≤ k) → R (.tuple #[.agg #[.string x.queue, .slice ra rl rc], .int .i64 0]) w') :
    Ca Try.prog 12 #[.pointer (some ⟨d, 0, none⟩), .int .i64 client] w R := by
  obtain ⟨row, ws, hda, hl, hF⟩ := hd
  obtain ⟨sl, sc, hc, hr⟩ := hda.cell
  refine ca12 _ client w R ?_
  intro w0 e0
  have m0 : Mod no w w0 := by subst e0; exact Mod.alloc _ _
  have b0 : w0.heap[w.heap.size]? = some (.cells #[.string (ByteArray.mk #[]), .slice none 0 0] 33 (0, 0)) := by subst e0; exact new_at _ _
  have s0 : w0.heap.size = w.heap.size + 1 := by subst e0; simp
  clear e0
  refine made_of d w0 _ (m0.at' hc) rfl ⟨true, rfl, ?_⟩
  refine ifK_of (fun hb => by cases hb) (fun _ => ?_)
  refine of_ok d row ws client w0 (hda.no m0) _ fun w13 m13 => ⟨_, rfl, ?_⟩
  have m13' := m0.trans m13
  have b13 := m13.at' b0
  intro w15 e15
  have m15 : Mod no w13 w15 := by subst e15; exact Mod.alloc _ _
  have b15 : w15.heap[w13.heap.size]? = some (.cells #[.pointer none] 68 (0, 0)) := by subst e15; exact new_at _ _
  clear e15
  refine ⟨⟨_, by rw [cl1 b15]; rfl⟩, fz1 b15 _, ?_⟩
  intro w17 e17
  have m17 : Mod no w13 w17 := by subst e17; exact m15.new (Mod.set1 _ _ _ _) fun k hk => by cases hk; exact Nat.le_refl _
  have b17 : w17.heap[w13.heap.size]? = some (.cells #[.pointer (wptr (ws.find? (·.client == client)))] 68 (0, 0)) := by subst e17; rw [set1 b15]; rfl
  clear e17
  have m17' := m13'.trans m17
  have r17 := m17.at' b13
  refine ⟨_, by rw [cl b17]; rfl, ?_⟩
  have hfl : l.find? (·.client == client) = (ws.find? (·.client == client)).map Wish.one := by rw [← hl, ← find_one]; rfl
  cases hf : ws.find? (·.client == client) with
  | none =>
    rw [hf] at hfl
    refine two r17 fun w22 b22 m22 => ?_
    exact ⟨_, by rw [cl1 b22]; rfl, _, _, _, by rw [cl1 b22]; rfl, h0 hfl w22 (m17'.new m22 fun k hk => by cases hk; exact Nat.le_refl _)⟩
  | some x =>
  rw [hf] at b17 hfl
  have hx : x ∈ ws := List.mem_of_find?_eq_some hf
  obtain ⟨a, b, hab, hidx, hcl⟩ := find_split hf
  obtain ⟨hdrow, hnr⟩ := hda.ne_row
  have hsz := m13'.size
  have hc17 := m17'.at' hc
  have hr17 := row_mod hr m17' fun _ _ => id
  have hbr : ¬ rowB row w13.heap.size := fun hk => by have := hda.lt _ (mem_fp_row hk); omega
  have hbr' : ¬ rowB row w.heap.size := fun hk => by have := hda.lt _ (mem_fp_row hk); omega
  refine ⟨row, sl, sc, by rw [cl1 hc17]; rfl, ?_⟩
  refine deleteFunc_ok row sl sc _ w17 ws (fun y => y.p == x.p) hr17 (fun y hy w' hm R hR => ?_) _ fun w32 l' h32 m32 => ?_
  · refine (ca32 (some ⟨y.p, 0, none⟩) (some ⟨w13.heap.size, 0, none⟩) w' R ?_ : Ca _ _ _ _ _)
    refine ⟨some ⟨x.p, 0, none⟩, by rw [cl (hm.at b17 hbr)]; rfl, ?_⟩
    exact ptrEq_ok ptr68 (hm.at (m17'.at' (hda.wish y hy).cell) (hnr y hy).2.2.1) (hm.at (m17'.at' (hda.wish x hx).cell) (hnr x hx).2.2.1) (hR w' (Mod.refl _ _))
  have hap := fun y hy => fpW_apart (a := a) (b := b) (x := x) (y := y) (by rw [← hab]; exact hda.nd) hy
  have hfilter : (ws.filter fun y => !(y.p == x.p)) = a ++ b := by
    rw [hab, List.filter_append, List.filter_cons_of_neg (by simp)]
    congr 1
    · rw [List.filter_eq_self]; intro y hy
      have := (hap y (List.mem_append_left _ hy)).2.2.1
      simp; exact fun e => this e.symm
    · rw [List.filter_eq_self]; intro y hy
      have := (hap y (List.mem_append_right _ hy)).2.2.1
      simp; exact fun e => this e.symm
  rw [hfilter] at h32
  have hc32 := m32.at hc17 hdrow
  have b32 := m32.at b17 hbr
  have r32 := m32.at r17 hbr'
  refine ⟨row, l', sc, rfl, ⟨_, by rw [cl2 hc32]; rfl⟩, fz2 hc32 _ _, ?_⟩
  intro w38 e38
  have m38 : Mod (on d) w32 w38 := by subst e38; exact Mod.set2 _ _ _ _ _
  have c38 : w38.heap[d]? = some (.cells #[.slice row l' sc, .bool true] 59 (0, 0)) := by subst e38; rw [set2 hc32]; rfl
  clear e38
  have hdlt := hda.lt d (by simp [fp])
  have b38 := m38.at b32 (show ¬ w13.heap.size = d by omega)
  have r38 := m38.at r32 (show ¬ w.heap.size = d by omega)
  have h38 := row_mod h32 m38 fun k hk e => by cases e; exact hdrow hk
  have mA : Mod (fun k => k = d ∨ rowB row k) w w38 := m17'.no_trans ((m32.mono fun k _ hk => .inr hk).trans' m38 fun k _ hk => .inl hk)
  have hw38 : ∀ y ∈ ws, WishAt w38 y := fun y hy => (hda.wish y hy).mod mA (fun h => h.elim (hnr y hy).1 (hnr y hy).2.2.1) (fun h => h.elim (hnr y hy).2.1 (hnr y hy).2.2.2)
  have hd38 : DeskAt w38 d row (a ++ b) ∧ ∀ k, fp d row (a ++ b) k → fp d row ws k := by
    have hsub : ∀ k ∈ fpW (a ++ b), k ∈ fpW ws := by
      intro k hk
      rw [hab]
      simp only [fpW, List.flatMap_append, List.flatMap_cons, List.mem_append] at hk ⊢
      exact hk.elim .inl fun h => .inr (.inr h)
    refine ⟨⟨⟨l', sc, c38, h38⟩, fun y hy => hw38 y (by rw [hab]; rcases List.mem_append.1 hy with h | h <;> simp [h]), ?_⟩, ?_⟩
    · have hnd := hda.apart
      rw [List.nodup_cons, List.nodup_append] at hnd ⊢
      have hsubl : (fpW (a ++ b)).Sublist (fpW ws) := by
        rw [hab, fpW_append, fpW_append]
        refine List.Sublist.append (List.Sublist.refl _) ?_
        show (fpW b).Sublist ([x.p, x.m] ++ fpW b)
        exact List.sublist_append_right _ _
      refine ⟨fun hm => hnd.1 ?_, hnd.2.1, hnd.2.2.1.sublist hsubl, fun p hp q hq => hnd.2.2.2 p hp q (hsub q hq)⟩
      rw [List.mem_append] at hm ⊢
      exact hm.imp id (hsub d)
    · intro k hk
      simp only [fp, List.mem_cons, List.mem_append] at hk ⊢
      exact hk.imp id fun h => h.imp id (hsub k)
  refine ⟨some ⟨x.p, 0, none⟩, by rw [cl b38]; rfl, ?_⟩
  refine held_ok x w38 (hw38 x hx) (hs x.one (by rw [← hl]; exact List.mem_map_of_mem hx)) _ fun w41 ra rl rc ys hi hp hsrt m41 hnew => ⟨_, _, _, _, rfl, ?_⟩
  have r41 := m41.at' r38
  refine two r41 fun w49 b49 m49 => ?_
  refine ⟨_, by rw [cl1 b49]; rfl, _, _, _, by rw [cl1 b49]; rfl, ?_⟩
  have hs38 := mA.size
  have hlt38 := lt_of_heap r38
  have hFlt : ∀ k, fp d row ws k → k ≠ w.heap.size := fun k hk e => by have := hda.lt k hk; omega
  refine h1 (a.map Wish.one) x.one (b.map Wish.one) (by rw [← hl, hab]; simp) (by rw [← hl, ← findIdx_one, List.length_map]; exact hidx) (by simpa [Wish.one] using hcl) w49 ra rl rc ys ?_ ?_
    (hi.mod m49 fun k hk e => by cases e; have := hnew _ hk; omega) hp hsrt fun k hk => by have := hnew k hk; omega
  · exact ⟨row, a ++ b, (hd38.1.no m41).mod m49 fun k hk e => hFlt k (hd38.2 k hk) e, by simp, fun k hk => hF k (hd38.2 k hk)⟩
  · refine ((mA.trans_no m41).trans' m49 (T := on w.heap.size) (S := fun k => k = d ∨ rowB row k) fun k hk hT => ?_).mono fun k _ hk => hF k (by rcases hk with rfl | h; simp [fp]; exact mem_fp_row h)
    cases hT
    omega
end Go.Proofs.Ytgmafocfhepccaa
