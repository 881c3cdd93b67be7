/- What a desk that no call made answers; the document's examples. -/
import Derived.Test.YtgmafocfhepccaaCon5
namespace Go.Proofs.Ytgmafocfhepccaa
open Go Go.Proofs.Ytgmafocfhepccaa.St

/-- No call made this desk. -/
def Um (w : World) (d : Option Addr) : Prop := d = none ∨ ∃ k, d = some ⟨k, 0, none⟩ ∧ w.heap[k]? = some (.cells #[.slice none 0 0, .bool false] 59 (0, 0))
theorem Um.no {w w' : World} {d : Option Addr} (h : Um w d) (hm : Mod no w w') : Um w' d := h.imp id fun ⟨k, e, hk⟩ => ⟨k, e, hm.at' hk⟩

section
variable {w : World} {d : Option Addr} {R : Value → World → Prop}
theorem made_um (h : Um w d) (hR : R (.bool false) w) : Ca Try.prog 24 #[.pointer d] w R := by
  rcases h with rfl | ⟨k, rfl, hk⟩
  · exact made_nil w R hR
  · exact made_of k w R hk rfl hR
theorem of_um (client : Int) (h : Um w d) (hR : ∀ w', Mod no w w' → R (.pointer none) w') : Ca Try.prog 26 #[.pointer d, .int .i64 client] w R := by
  rcases h with rfl | ⟨k, rfl, hk⟩
  · exact of_nil client w R hR
  · exact of_zero k client w R hk hR
theorem next_um (q : ByteArray) (h : Um w d) (hR : ∀ w', Mod no w w' → R (.tuple #[.int .i64 0, .bool false]) w') : Ca Try.prog 10 #[.pointer d, .string q] w R := by
  rcases h with rfl | ⟨k, rfl, hk⟩
  · exact next_nil q w R hR
  · exact next_zero k q w R hk hR
theorem add_um (client : Int) (q : ByteArray) (most : Int) (h : Um w d) (hR : R (.int .i64 1) w) : Ca Try.prog 9 #[.pointer d, .int .i64 client, .string q, .int .i64 most] w R := by
  refine ca9 d client q most w R ?_
  exact made_um h ⟨false, rfl, hR⟩
theorem took_um (client tag : Int) (h : Um w d) (hR : ∀ w', Mod no w w' → R (.int .i64 1) w') : Ca Try.prog 11 #[.pointer d, .int .i64 client, .int .u64 tag] w R := by
  refine ca11 d client tag w R ?_
  intro w0 e0
  have m0 : Mod no w w0 := by subst e0; exact Mod.alloc _ _
  exact made_um (h.no m0) ⟨false, rfl, hR _ m0⟩
theorem settle_um (client tag : Int) (h : Um w d) (hR : R (.tuple #[.string (ByteArray.mk #[]), .int .i64 1]) w) : Ca Try.prog 22 #[.pointer d, .int .i64 client, .int .u64 tag] w R := by
  refine ca22 d client tag w R ?_
  exact made_um h ⟨false, rfl, hR⟩
theorem clients_um (h : Um w d) (hR : R (.slice none 0 0) w) : Ca Try.prog 13 #[.pointer d] w R := by
  refine ca13 d w R ?_
  exact made_um h ⟨false, rfl, hR⟩
theorem forget_um (q : ByteArray) (h : Um w d) (hR : R (.slice none 0 0) w) : Ca Try.prog 23 #[.pointer d, .string q] w R := by
  refine ca23 d q w R ?_
  refine clients_um h ⟨none, 0, 0, rfl, ?_⟩
  refine ⟨fun a l c x w' => a = none ∧ l = 0 ∧ c = 0 ∧ x = 0 ∧ w' = w, fun _ _ _ _ _ => 0, ⟨rfl, rfl, rfl, rfl, rfl⟩, ?_⟩
  rintro _ a l c x w' ⟨rfl, rfl, rfl, rfl, rfl⟩
  exact hR

/-- Two cells of a new block are written. -/
theorem two {w2 : World} {k : Nat} {v0 v1 u0 u1 : Value} {t : TypeId} (hk : w2.heap[k]? = some (.cells #[v0, v1] t (0, 0))) {K : World → Prop}
    (h : ∀ w7, w7.heap[k]? = some (.cells #[u0, u1] t (0, 0)) → Mod (on k) w2 w7 → K w7) :
    (∃ v, w2.cell? (Addr.add ⟨k, 0, none⟩ 0) = some v) ∧ w2.frozen? (Addr.add ⟨k, 0, none⟩ 0) = false ∧ atW (w2.setCell (Addr.add ⟨k, 0, none⟩ 0) u0) fun w5 =>
    (∃ v, w5.cell? (Addr.add ⟨k, 0, none⟩ 1) = some v) ∧ w5.frozen? (Addr.add ⟨k, 0, none⟩ 1) = false ∧ atW (w5.setCell (Addr.add ⟨k, 0, none⟩ 1) u1) K := by
  refine ⟨⟨_, by rw [cl1 hk]; rfl⟩, fz1 hk _, ?_⟩
  intro w5 e5
  have m5 : Mod (on k) w2 w5 := by subst e5; exact Mod.set1 _ _ _ _
  have b5 : w5.heap[k]? = some (.cells #[u0, v1] t (0, 0)) := by subst e5; rw [set1 hk]; rfl
  refine ⟨⟨_, by rw [cl1 b5]; rfl⟩, fz1 b5 _, ?_⟩
  intro w7 e7
  have m7 : Mod (on k) w5 w7 := by subst e7; exact Mod.set1 _ _ _ _
  have b7 : w7.heap[k]? = some (.cells #[u0, u1] t (0, 0)) := by subst e7; rw [set1 b5]; rfl
  exact h w7 b7 (m5.trans m7)

/-- Two cells of a block that is new are set; what was old is as it was. -/
theorem fresh2 {w : World} {u0 u1 z0 z1 : Value} {t : TypeId} {K : World → Prop}
    (h : ∀ w7, w7.heap[w.heap.size]? = some (.cells #[u0, u1] t (0, 0)) → Mod no w w7 → K w7) : atW (w.alloc (.cells #[z0, z1] t (0, 0))) fun w0 =>
    (∃ v, w0.cell? (Addr.add ⟨w.heap.size, 0, none⟩ 0) = some v) ∧ w0.frozen? (Addr.add ⟨w.heap.size, 0, none⟩ 0) = false ∧ atW (w0.setCell (Addr.add ⟨w.heap.size, 0, none⟩ 0) u0) fun w5 =>
    (∃ v, w5.cell? (Addr.add ⟨w.heap.size, 0, none⟩ 1) = some v) ∧ w5.frozen? (Addr.add ⟨w.heap.size, 0, none⟩ 1) = false ∧ atW (w5.setCell (Addr.add ⟨w.heap.size, 0, none⟩ 1) u1) K := by
  intro w0 e0
  have m0 : Mod no w w0 := by subst e0; exact Mod.alloc _ _
  have b0 : w0.heap[w.heap.size]? = some (.cells #[z0, z1] t (0, 0)) := by subst e0; exact new_at _ _
  exact two b0 fun w7 b7 m7 => h w7 b7 (m0.new m7 fun k hk => by cases hk; exact Nat.le_refl _)

theorem drop_um (client : Int) (h : Um w d) (hR : ∀ w', Mod no w w' → R (.tuple #[.agg #[.string (ByteArray.mk #[]), .slice none 0 0], .int .i64 1]) w') : Ca Try.prog 12 #[.pointer d, .int .i64 client] w R := by
  refine ca12 d client w R ?_
  intro w0 e0
  have m0 : Mod no w w0 := by subst e0; exact Mod.alloc _ _
  have b0 : w0.heap[w.heap.size]? = some (.cells #[.string (ByteArray.mk #[]), .slice none 0 0] 33 (0, 0)) := by subst e0; exact new_at _ _
  refine made_um (h.no m0) ⟨false, rfl, ?_⟩
  refine two b0 fun w7 b7 m7 => ?_
  exact ⟨_, by rw [cl1 b7]; rfl, _, _, _, by rw [cl1 b7]; rfl, hR w7 (m0.new m7 fun k hk => by cases hk; exact Nat.le_refl _)⟩

theorem hold_um (client : Int) (h : Um w d) (hR : ∀ w', Mod no w w' → R (.tuple #[.agg #[.string (ByteArray.mk #[]), .slice none 0 0], .bool false]) w') : Ca Try.prog 19 #[.pointer d, .int .i64 client] w R := by
  refine ca19 d client w R ?_
  intro w0 e0
  have m0 : Mod no w w0 := by subst e0; exact Mod.alloc _ _
  have b0 : w0.heap[w.heap.size]? = some (.cells #[.string (ByteArray.mk #[]), .slice none 0 0] 33 (0, 0)) := by subst e0; exact new_at _ _
  refine of_um client (h.no m0) fun w2 m2 => ⟨none, rfl, ?_⟩
  refine two (m2.at' b0) fun w7 b7 m7 => ?_
  exact ⟨_, by rw [cl1 b7]; rfl, _, _, _, by rw [cl1 b7]; rfl, hR w7 ((m0.trans m2).new m7 fun k hk => by cases hk; exact Nat.le_refl _)⟩
end
end Go.Proofs.Ytgmafocfhepccaa
