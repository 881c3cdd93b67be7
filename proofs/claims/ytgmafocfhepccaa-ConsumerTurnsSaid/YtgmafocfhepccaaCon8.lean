/- Contracts of the program's consumer functions: what one holds. -/
import Derived.Test.YtgmafocfhepccaaCon7
import Derived.Test.YtgmafocfhepccaaKeysGuint64
namespace Go.Proofs.Ytgmafocfhepccaa
open Go Go.Proofs.Ytgmafocfhepccaa.St

theorem held_ok (x : Wish) (w : World) (hx : WishAt w x) (hs : x.tags.length ≤ 12) (R : Value → World → Prop)
    (h : ∀ w' a l c ys, Ints .u64 27 w' a l c ys → ys.Perm x.tags → Srt ys 0 l → Mod no w w' → (∀ k, rowB a k → w.heap.size ≤ k) → R (.agg #[.string x.queue, .slice a l c]) w') :
    Ca Try.prog 33 #[.pointer (some ⟨x.p, 0, none⟩)] w R := by
  refine ca33 _ w R ?_
  intro w0 e0
  have m0 : Mod no w w0 := by subst e0; exact Mod.alloc _ _
  have b0 : w0.heap[w.heap.size]? = some (.cells #[.string (ByteArray.mk #[]), .slice none 0 0] 33 (0, 0)) := by subst e0; exact new_at _ _
  have s0 : w0.heap.size = w.heap.size + 1 := by subst e0; simp
  clear e0
  intro w1 e1
  have m1 : Mod no w0 w1 := by subst e1; exact Mod.drew _
  have s1 : w1.heap.size = w0.heap.size := by subst e1; rfl
  clear e1
  have b1 := m1.at' b0
  have m1' := m0.trans m1
  have hx1 := hx.mod m1' id id
  refine ⟨x.queue, by rw [cl1 hx1.cell]; rfl, some x.m, by rw [cl1 hx1.cell]; rfl, ?_⟩
  refine (Sequint64.sortedKeys_ok x.m x.tags w1 hx1.tags hs).mono fun v6 w7 ⟨m7, hsorted⟩ => ⟨v6, rfl, ?_⟩
  have hx7 := hx1.mod m7 id id
  refine ⟨by rw [cl2 hx7.cell]; rfl, hsorted _ fun w10 a l c ys hi hp hsrt m10 hnew => ?_⟩
  have hx10 := hx7.mod m10 id id
  refine ⟨a, l, c, rfl, by rw [cl2 hx10.cell]; rfl, ?_⟩
  have b10 := m10.at' (m7.at' b1)
  refine two b10 fun w17 b17 m17 => ?_
  refine ⟨_, by rw [cl1 b17]; rfl, a, l, c, by rw [cl1 b17]; rfl, ?_⟩
  have hsz := m7.size
  have hlt := m10.size
  exact h w17 a l c ys (hi.mod m17 fun k hk e => by cases e; have := hnew _ hk; omega) hp hsrt (((m1'.trans m7).trans m10).new m17 fun k hk => by cases hk; exact Nat.le_refl _) fun k hk => by have := hnew k hk; omega
end Go.Proofs.Ytgmafocfhepccaa
