/- A row's end is cleared. It names no program. -/
import Derived.Test.YtgmafocfhepccaaLib
namespace Go.Proofs.Ytgmafocfhepccaa.St
open Go

def zeroOk (P : Program) (e : TypeId) : Bool :=
  match (P.info? e).bind (·.zero) with
  | some z => z.cells.toList.all (·.oneCell')
  | none => false

theorem row_clear {P : Program} {w : World} {t ty e : TypeId} (ho : rowOk P t e = true) (hz : zeroOk P e = true) {a : Option Addr} {l c n : Nat} {xs : List Value} (h : w.ownsRow 0 e 1 (.slice a l c) n xs) {i : Nat} (hi : i ≤ n) :
    ∃ w', (Builtin.clear_ #[t] ty #[.slice (if c = i then a else a.map fun x => x.add (i * 1)) (l - i) (c - i)]).run P w = .ok (.tuple #[]) w' ∧ Mod (rowB a) w w' ∧ w'.ownsRow 0 e 1 (.slice a i c) i (xs.take i) := by
  obtain ⟨ht, inf, z, hinf, hzz, hsize, hby, hzs⟩ := rowOk_of ho
  have hz1 : ∀ v ∈ z.cells.toList, v.oneCell' = true := by
    simp only [zeroOk, hinf, Option.bind_some, hzz] at hz
    exact List.all_eq_true.1 hz
  have hxl : xs.length = n := by simpa using h.1
  by_cases hn : n - i = 0
  · have hin : i = n := by omega
    subst hin
    have hl : l = i := (row_len h).1
    subst hl
    refine ⟨w, ?_, Mod.refl _ _, by rw [← hxl, List.take_length]; rw [hxl]; exact h⟩
    cases hq : (if c = l then a else a.map fun x => x.add (l * 1)) with
    | none => simp [Builtin.clear_, run_underlying' ht, Result.andThen]
    | some b => simp [Builtin.clear_, run_underlying' ht, Result.andThen]
  · obtain ⟨g, cur, rfl, rfl, hg, hnc, hcm, hcs, htake⟩ := row_block h (by omega)
    rw [if_neg (by omega)]
    simp only [Option.map_some, add_lit, Nat.zero_add, Nat.mul_one]
    have hB : ∀ k, rowB (some ⟨g, 0, none⟩) k ↔ k = g := fun k => by simp [rowB]; exact eq_comm
    obtain ⟨m, hm⟩ : ∃ m, l - i = m + 1 := ⟨l - i - 1, by omega⟩
    have hzl : (Builtin.zeroCells z.cells (l - i)).toList.length = l - i := by rw [Array.length_toList, size_zeroCells, hzs, Nat.mul_one]
    have hst := run_storeCells_at P g i e (Builtin.zeroCells z.cells (l - i)).toList 0 cur w hg (by rw [hzl]; omega) (by
      intro v hv
      have hv : v ∈ Builtin.zeroCells z.cells (l - i) := by simpa using hv
      simp only [Builtin.zeroCells, Array.mem_map, Array.mem_range] at hv
      obtain ⟨j, _, rfl⟩ := hv
      refine hz1 _ ?_
      have : j % z.cells.size < z.cells.size := Nat.mod_lt _ (by omega)
      rw [getElem!_pos z.cells _ this]
      simp)
    simp only [Nat.add_zero] at hst
    obtain ⟨zs, hzs'⟩ : ∃ zs, (Builtin.zeroCells z.cells (l - i)).toList = zs := ⟨_, rfl⟩
    rw [hzs'] at hst hzl
    refine ⟨w.setRow g (cur.toList.take i ++ zs ++ cur.toList.drop (i + zs.length)).toArray, ?_, ⟨rfl, rfl, rfl, by simp, fun k _ hk => setRow_other w g k _ fun e => hk ((hB k).2 e)⟩, by simp [hxl]; omega,
      .inr ⟨g, c, _, rfl, Nat.zero_le _, setRow_heap w g cur _ e _ hg, by omega, hcm, ?_, ?_⟩⟩
    · rw [← hzs'] at hst ⊢
      rw [hm] at hst ⊢
      simp [Builtin.clear_, run_underlying' ht, Result.andThen, run_zeroValue' hinf hzz, hst]
    · simp only [List.size_toArray, List.length_append, List.length_take, List.length_drop, Array.length_toList, hzl]
      omega
    · rw [Nat.mul_one, List.append_assoc, List.take_left' (by simp; omega), ← htake, List.take_take, Nat.min_eq_left (by omega)]
end Go.Proofs.Ytgmafocfhepccaa.St
