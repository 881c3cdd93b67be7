/- The library's AppendSeq, Collect: of whole numbers of one type. -/
import Derived.Test.YtgmafocfhepccaaSeqL
import Derived.Test.YtgmafocfhepccaaFq
namespace Go.Proofs.Ytgmafocfhepccaa.Sequint64
open Go Go.Proofs.Ytgmafocfhepccaa Go.Proofs.Ytgmafocfhepccaa.St

theorem rowE : rowOk Try.prog 31 27 = true := by kernel_rfl

/-- What AppendSeq has gathered: in a box that is the block w.heap.size, in a row of its own. -/
def Got (w : World) (Rdy : World → Prop) (xs : List Value) (w' : World) : Prop :=
  Rdy w' ∧ ∃ a l c, w'.heap[w.heap.size]? = some (.cells #[.slice a l c] 31 (0, 0)) ∧ w'.ownsRow 0 27 1 (.slice a l c) xs.length xs ∧ ∀ k, rowB a k → w.heap.size < k

theorem appendSeq_ok (seq : Value) (N : Nat) (S : List Value → Prop) (w : World) (hN : N ≤ 1099511627775) (hseq : SeqOf Try.prog seq w.heap.size w N (fun v => ∃ k, v = .int .u64 k) S) (R : Value → World → Prop)
    (h : ∀ w' a l c xs, S xs → w'.ownsRow 0 27 1 (.slice a l c) l xs → Mod no w w' → (∀ k, rowB a k → w.heap.size < k) → R (.slice a l c) w') :
    Ca Try.prog 66 #[.slice none 0 0, seq] w R := by
  refine ca66 none 0 0 seq w R ?_
  intro w0 e0
  have m0 : Mod no w w0 := by subst e0; exact Mod.alloc _ _
  have b0 : w0.heap[w.heap.size]? = some (.cells #[.slice none 0 0] 31 (0, 0)) := by subst e0; exact new_at _ _
  have s0 : w0.heap.size = w.heap.size + 1 := by subst e0; simp
  clear e0
  refine ⟨hseq.1, ?_⟩
  intro Rdy Bsy hrs hbs hrb w1 m1 s1 hr1 hy
  have b1 := Mod.at' m1 b0
  -- how a record's blocks are apart from others
  have hrec : ∀ w', Rdy w' ∨ Bsy w' → ∀ k cs t fz, w'.heap[k]? = some (.cells cs t fz) → k ≠ w0.heap.size ∧ k ≠ w0.heap.size + 1 := by
    intro w' hw k cs t fz hk
    obtain ⟨h1, r, h2⟩ := hrb w' hw
    exact ⟨fun e => (by rw [e, h1] at hk; cases hk), fun e => (by rw [e, h2] at hk; cases hk)⟩
  have hstab : Stab (Got w Rdy) := by
    constructor
    · rintro l w1 w2 ⟨hr, a, ll, c, hb, ho, hn⟩ hm
      obtain ⟨h1, r, h2⟩ := hrb w1 (.inl hr)
      exact ⟨hrs w1 w2 hr (by rw [hm.at' h1, h1]) (by rw [hm.at' h2, h2]), a, ll, c, hm.at' hb, row_mod ho hm fun _ _ => id, hn⟩
    · rintro l w1 w2 b o ⟨hr, a, ll, c, hb, ho, hn⟩ hbo hit hm
      obtain ⟨h1, r, h2⟩ := hrb w1 (.inl hr)
      have hne : ∀ k o', w1.heap[k]? = some o' → isIt o' = false → ¬ on b k := by
        intro k o' hk hf e
        cases e
        rw [hbo] at hk
        cases hk
        rw [hit] at hf
        cases hf
      refine ⟨hrs w1 w2 hr (by rw [hm.at h1 (hne _ _ h1 rfl), h1]) (by rw [hm.at h2 (hne _ _ h2 rfl), h2]), a, ll, c, hm.at hb (hne _ _ hb rfl), row_mod ho hm ?_, hn⟩
      intro k hk2
      rcases ho.2 with ⟨hv, _⟩ | ⟨g, cap, cur, hv, _, hg, _⟩
      · injection hv with e1; subst e1; simp [rowB] at hk2
      · injection hv with e1; subst e1; simp [rowB] at hk2; subst hk2; exact hne _ _ hg rfl
  refine hseq.2 (Got w Rdy) _ w1 _ (Kp.of_no (m0.trans m1)) hstab ⟨hr1, none, 0, 0, b1, World.ownsRow_nil _ _ _ _, fun k hk => by simp [rowB] at hk⟩ ?_ ?_
  · rintro pre x w2 hk2 ⟨hr2, a, ll, c, hb2, ho2, hn2⟩ hlen ⟨k, rfl⟩ R' hR'
    refine (hy (.int .u64 k) w2 (fun w3 => R' (.bool true) w3) hr2 ?_).mono fun v w3 ⟨hv, hR⟩ => by rw [hv]; exact hR
    refine ⟨hr2, fun w6 hbz m6 s6 => ?_⟩
    obtain ⟨q1, q2⟩ := hrec w2 (.inl hr2) _ _ _ _ hb2
    have hrow2 : ∀ k, rowB a k → k ≠ w0.heap.size ∧ k ≠ w0.heap.size + 1 := by
      intro k hk
      rcases ho2.2 with ⟨hv, _⟩ | ⟨g, cap, cur, hv, _, hg, _⟩
      · injection hv with e1; subst e1; simp [rowB] at hk
      · injection hv with e1; subst e1; simp [rowB] at hk; subst hk; exact hrec w2 (.inl hr2) _ _ _ _ hg
    have b6 := m6.at hb2 q2
    have o6 := row_mod ho2 m6 fun k hk => (hrow2 k hk).2
    obtain ⟨hll, _, _, _⟩ := row_len o6
    subst hll
    refine ⟨a, pre.length, c, by rw [cl b6]; rfl, ?_⟩
    intro w10 e10
    have m10 : Mod no w6 w10 := by subst e10; exact Mod.alloc _ _
    have b10 : w10.heap[w6.heap.size]? = some (.cells #[.int .u64 k] 27 (0, 0)) := by subst e10; exact new_at _ _
    have s10 : w10.heap.size = w6.heap.size + 1 := by subst e10; simp
    clear e10
    obtain ⟨a', c', w12, hrun, o12, m12, hnew⟩ := row_push (ty := 31) rowE (row_mod o6 m10 fun _ _ => id) (b := ⟨w6.heap.size, 0, none⟩) (m := 1) (cc := 1) (news := [.int .u64 k]) rfl (by decide)
      (by intro j v hj; cases j with
          | zero => simp at hj; subst hj; rw [cl1 b10]; rfl
          | succ j => simp at hj) (by simp [Value.oneCell']) (by omega)
    have hbox : ¬ rowB a w.heap.size := fun hk => by have := hn2 _ hk; omega
    have b12 := m12.at (m10.at' b6) hbox
    refine ⟨_, w12, hrun, _, _, _, rfl, ⟨_, by rw [cl1 b12]; rfl⟩, fz1 b12 _, ?_⟩
    intro w17 e17
    have m17 : Mod (on w.heap.size) w12 w17 := by subst e17; exact Mod.set1 _ _ _ _
    have b17 : w17.heap[w.heap.size]? = some (.cells #[.slice (some a') (pre.length + 1) c'] 31 (0, 0)) := by subst e17; rw [set1 b12]; rfl
    clear e17
    have hlt2 := lt_of_heap hb2
    have hnew' : ∀ k, rowB (some a') k → w.heap.size < k ∧ (rowB a k ∨ w6.heap.size ≤ k) := by
      intro k hk
      rcases hnew k hk with h | h
      · exact ⟨hn2 k h, .inl h⟩
      · exact ⟨by omega, .inr (by omega)⟩
    have o17 := row_mod o12 m17 fun k hk e => by cases e; have := (hnew' _ hk).1; omega
    have mA : Mod (fun k => rowB a k ∨ k = w.heap.size) w6 w17 := (m10.no_trans (m12.mono fun k _ hk => .inl hk)).trans' m17 fun k _ hk => .inr hk
    obtain ⟨h1, r, h2⟩ := hrb w6 (.inr hbz)
    have n1 : ¬ (rowB a w0.heap.size ∨ w0.heap.size = w.heap.size) := fun h => h.elim (fun h => (hrow2 _ h).1 rfl) (by omega)
    have n2 : ¬ (rowB a (w0.heap.size + 1) ∨ w0.heap.size + 1 = w.heap.size) := fun h => h.elim (fun h => (hrow2 _ h).2 rfl) (by omega)
    refine ⟨hbs w6 w17 hbz (by rw [mA.at h1 n1, h1]) (by rw [mA.at h2 n2, h2]), fun w3 hr3 m3 s3 => hR' w3 ?_ ?_⟩
    · -- what was older stands, and iterators do
      have mB : Mod (fun k => k = w0.heap.size + 1 ∨ (rowB a k ∨ k = w.heap.size)) w2 w3 := ((m6.mono fun k _ hk => .inl hk).trans' mA fun k _ hk => .inr hk).trans' m3 fun k _ hk => .inl hk
      refine Kp.of_mod mB fun k o ho hk hS => ?_
      obtain ⟨g1, r, g2⟩ := hrb w2 (.inl hr2)
      rcases hS with rfl | hS | rfl
      · rw [g2] at ho
        cases ho
        rcases hk with hk | hk
        · omega
        · cases hk
      · rcases ho2.2 with ⟨hv, _⟩ | ⟨g, cap, cur, hv, _, hg, _⟩
        · injection hv with e1; subst e1; simp [rowB] at hS
        · injection hv with e1
          subst e1
          have := hn2 _ hS
          simp [rowB] at hS
          subst hS
          rw [hg] at ho
          cases ho
          rcases hk with hk | hk
          · omega
          · cases hk
      · rw [hb2] at ho
        cases ho
        rcases hk with hk | hk
        · omega
        · cases hk
    · refine ⟨hr3, some a', pre.length + 1, c', m3.at b17 (fun e => q2 e), ?_, fun k hk => (hnew' k hk).1⟩
      rw [List.length_append]
      refine row_mod o17 m3 fun k hk e => ?_
      cases e
      rcases (hnew' _ hk).2 with h | h
      · exact (hrow2 _ h).2 rfl
      · have := lt_of_heap h2
        omega
  · rintro w2 xs hS ⟨hr2, a, ll, c, hb2, ho2, hn2⟩ hk2
    refine ⟨hr2, fun w3 m3 s3 hd3 => ?_⟩
    obtain ⟨q1, q2⟩ := hrec w2 (.inl hr2) _ _ _ _ hb2
    have hrow2 : ∀ k, rowB a k → k ≠ w0.heap.size ∧ k ≠ w0.heap.size + 1 := by
      intro k hk
      rcases ho2.2 with ⟨hv, _⟩ | ⟨g, cap, cur, hv, _, hg, _⟩
      · injection hv with e1; subst e1; simp [rowB] at hk
      · injection hv with e1; subst e1; simp [rowB] at hk; subst hk; exact hrec w2 (.inl hr2) _ _ _ _ hg
    have b3 := m3.at hb2 (fun e => e.elim q1 q2)
    have o3 := row_mod ho2 m3 fun k hk e => e.elim (hrow2 k hk).1 (hrow2 k hk).2
    obtain ⟨hll, _, _, _⟩ := row_len o3
    subst hll
    refine ⟨a, _, c, by rw [cl b3]; rfl, hd3, ?_⟩
    intro w4 e4
    have m4 : Mod (on w0.heap.size) w3 w4 := by subst e4; exact Mod.putObj _ _ _
    have o4 := row_mod o3 m4 fun k hk e => by cases e; exact (hrow2 _ hk).1 rfl
    refine h w4 a xs.length c xs hS o4 ?_ hn2
    have mB : Mod (fun k => k = w0.heap.size ∨ k = w0.heap.size + 1) w2 w4 := m3.trans' m4 fun k _ hk => .inl hk
    exact hk2.mod.new mB fun k hk => by rcases hk with rfl | rfl <;> omega

end Go.Proofs.Ytgmafocfhepccaa.Sequint64
