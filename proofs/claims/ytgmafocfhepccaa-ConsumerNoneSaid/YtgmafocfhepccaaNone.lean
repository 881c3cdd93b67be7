/- The walk of the statement ConsumerNone: it returns true. -/
import Derived.Test.YtgmafocfhepccaaCon7
namespace Go.Proofs.Ytgmafocfhepccaa
open Go Go.Proofs.Ytgmafocfhepccaa.St

/-- Two cells of a block that is new are set; what was old is as it was. -/
theorem fresh2 {w : World} {u0 u1 z0 z1 : Value} {t : TypeId} {K : World → Prop}
    (h : ∀ w7, w7.heap[w.heap.size]? = some (.cells #[u0, u1] t (0, 0)) → Mod no w w7 → K w7) : atW (w.alloc (.cells #[z0, z1] t (0, 0))) fun w0 =>
    (∃ v, w0.cell? (Addr.add ⟨w.heap.size, 0, none⟩ 0) = some v) ∧ w0.frozen? (Addr.add ⟨w.heap.size, 0, none⟩ 0) = false ∧ atW (w0.setCell (Addr.add ⟨w.heap.size, 0, none⟩ 0) u0) fun w5 =>
    (∃ v, w5.cell? (Addr.add ⟨w.heap.size, 0, none⟩ 1) = some v) ∧ w5.frozen? (Addr.add ⟨w.heap.size, 0, none⟩ 1) = false ∧ atW (w5.setCell (Addr.add ⟨w.heap.size, 0, none⟩ 1) u1) K := by
  intro w0 e0
  have m0 : Mod no w w0 := by subst e0; exact Mod.alloc _ _
  have b0 : w0.heap[w.heap.size]? = some (.cells #[z0, z1] t (0, 0)) := by subst e0; exact new_at _ _
  exact two b0 fun w7 b7 m7 => h w7 b7 (m0.new m7 fun k hk => by cases hk; exact Nat.le_refl _)

theorem u60 : Try.prog.underlying 60 = some (.array 2 23) := by kernel_rfl
theorem s23 : (Try.prog.info? 23).map (·.size) = some 1 := by kernel_rfl
theorem u23 : ∃ e, Try.prog.underlying 23 = some (.pointer e) := ⟨59, by kernel_rfl⟩

theorem index2 (p q : Option Addr) (w : World) (k : Nat) (hk : k < 2) (v : Value) (hv : #[Value.pointer p, Value.pointer q][k]? = some v) :
    (Instr.index 60 (.agg #[.pointer p, .pointer q]) (.int .i64 k)).run Try.prog w = .ok v w := by
  obtain ⟨e, hu⟩ := u23
  cases hi : Try.prog.info? 23 with
  | none => have := s23; rw [hi] at this; cases this
  | some i =>
    have hs : i.size = 1 := by have := s23; rw [hi] at this; simpa using this
    match k, hk, hv with
    | 0, _, hv => simp at hv; subst hv; simp [Instr.index, asIntOf, run_underlying' u60, Result.andThen, sizeOf, run_typeInfo' hi, hs, part, run_underlying' hu]
    | 1, _, hv => simp at hv; subst hv; simp [Instr.index, asIntOf, run_underlying' u60, Result.andThen, sizeOf, run_typeInfo' hi, hs, part, run_underlying' hu]

theorem none_walk (a0 a1 : Int) (a2 : ByteArray) (a3 a4 : Int) (w : World) (R : Value → World → Prop) (hR : ∀ w', Mod no w w' → R (.bool true) w') :
    Ca Try.prog 6 #[.agg #[.int .i64 a0, .int .i64 a1, .string a2, .int .i64 a3, .int .u64 a4]] w R := by
  refine ca6 a0 a1 a2 a3 a4 w R ?_
  intro w0 e0
  intro w1 e1
  have m0 : Mod no w w0 := by subst e0; exact Mod.alloc _ _
  have b0 : w0.heap[w.heap.size]? = some (.cells #[.int .i64 a0, .int .i64 a1, .string a2, .int .i64 a3, .int .u64 a4] 47 (0, 0)) := by subst e0; exact new_at _ _
  have m1 : Mod no w0 w1 := by subst e1; exact Mod.alloc _ _
  have b1 : w1.heap[w0.heap.size]? = some (.cells #[.slice none 0 0, .bool false] 59 (0, 0)) := by subst e1; exact new_at _ _
  have b0 := m1.at' b0
  have m1 := m0.trans m1
  clear e0 e1 m0
  refine ⟨fun x w' => ∃ k : Nat, x = k ∧ k ≤ 2 ∧ Mod no w1 w', fun x _ => ((2 : Int) - x).toNat, ⟨0, rfl, by omega, Mod.refl _ _⟩, ?_⟩
  rintro _ x w6 ⟨k, rfl, hk, m6⟩
  refine ifK_of (fun hlt => ?_) (fun _ => lives_ok w6 _ fun w' m' => ⟨true, rfl, hR w' ((m1.trans m6).trans m')⟩)
  have hlt : k < 2 := by have := of_decide_eq_true hlt; omega
  obtain ⟨d, hd, hum⟩ : ∃ d, #[Value.pointer none, Value.pointer (some ⟨w0.heap.size, 0, none⟩)][k]? = some (.pointer d) ∧ Um w6 d := by
    match k, hlt with
    | 0, _ => exact ⟨none, rfl, .inl rfl⟩
    | 1, _ => exact ⟨_, rfl, .inr ⟨_, rfl, m6.at' b1⟩⟩
  refine ⟨_, w6, index2 _ _ w6 k hlt _ hd, d, rfl, ?_⟩
  have e1 : IntKind.i64.wrap ((k : Int) + 1) = ((k + 1 : Nat) : Int) := by rw [wrap64 (by omega) (by omega)]; omega
  rw [e1]
  clear e1 hd
  have A := m6.at' b0
  refine ⟨a1, by rw [cl1 A]; rfl, ?_⟩
  refine drop_um a1 hum fun w12 m12 => ⟨_, _, _, _, _, rfl, ?_⟩
  have hum := hum.no m12
  refine fresh2 fun w22 _ m22 => ?_
  have hum := hum.no m22
  have A := (m12.trans m22).at' A
  have M := (m6.trans m12).trans m22
  refine ⟨a2, by rw [cl1 A]; rfl, ?_⟩
  refine next_um a2 hum fun w25 m25 => ⟨_, _, rfl, ?_⟩
  have hum := hum.no m25
  have A := m25.at' A
  have M := M.trans m25
  refine ⟨a1, by rw [cl1 A]; rfl, a4, by rw [cl1 A]; rfl, ?_⟩
  refine settle_um a1 a4 hum ⟨_, _, rfl, a1, by rw [cl1 A]; rfl, ?_⟩
  refine hold_um a1 hum fun w36 m36 => ⟨_, _, _, _, _, rfl, ?_⟩
  have hum := hum.no m36
  have A := m36.at' A
  have M := M.trans m36
  refine fresh2 fun w46 _ m46 => ?_
  have hum := hum.no m46
  have A := m46.at' A
  have M := M.trans m46
  refine ⟨a1, by rw [cl1 A]; rfl, a2, by rw [cl1 A]; rfl, a3, by rw [cl1 A]; rfl, ?_⟩
  refine add_um a1 a2 a3 hum ⟨_, rfl, ?_⟩
  refine ⟨a1, by rw [cl1 A]; rfl, a4, by rw [cl1 A]; rfl, ?_⟩
  refine took_um a1 a4 hum fun w56 m56 => ⟨_, rfl, ?_⟩
  have hum := hum.no m56
  have A := m56.at' A
  have M := M.trans m56
  refine ⟨a2, by rw [cl1 A]; rfl, ?_⟩
  refine forget_um a2 hum ⟨_, _, _, rfl, ?_⟩
  refine clients_um hum ⟨_, _, _, rfl, ?_⟩
  exact ⟨⟨k + 1, rfl, hlt, M⟩, by simp only; omega⟩
end Go.Proofs.Ytgmafocfhepccaa
