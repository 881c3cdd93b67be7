/- Contracts of the program's consumer functions: Clients. -/
import Derived.Test.YtgmafocfhepccaaCon10
import Derived.Test.YtgmafocfhepccaaSortPint
namespace Go.Proofs.Ytgmafocfhepccaa
open Go Go.Proofs.Ytgmafocfhepccaa.St

theorem row36 : rowOk Try.prog 36 3 = true := by kernel_rfl

theorem clients_ok (d : Nat) (F : Nat → Prop) (l : List One) (w : World) (hd : Dk w d F l) (hs : l.length ≤ 12) (R : Value → World → Prop)
    (h : ∀ w' a n c ys, Ints .i64 3 w' a n c ys → ys.Perm (l.map (·.client)) → Srt ys 0 n → Mod no w w' → (∀ k, rowB a k → w.heap.size ≤ k) → R (.slice a n c) w') :
    Ca Try.prog 13 #[.pointer (some ⟨d, 0, none⟩)] w R := by
  obtain ⟨row, ws, hda, hl, hF⟩ := hd
  obtain ⟨sl, sc, hc, hr⟩ := hda.cell
  obtain ⟨hsl, _, hlc, hcm⟩ := row_len hr
  have hlen : ws.length = l.length := by rw [← hl, List.length_map]
  refine ca13 _ w R ?_
  refine made_of d w _ hc rfl ⟨true, rfl, ?_⟩
  refine ifK_of (fun hb => by cases hb) (fun _ => ?_)
  refine ⟨row, sl, sc, by rw [cl1 hc]; rfl, ?_⟩
  refine ⟨fun a n c x w' => ∃ k : Nat, x = k ∧ k ≤ ws.length ∧ n = k ∧ Ints .i64 3 w' a k c ((ws.take k).map (·.client)) ∧ Mod no w w' ∧ ∀ k, rowB a k → w.heap.size ≤ k, fun _ _ _ x _ => ((sl : Int) - x).toNat,
    ⟨0, rfl, Nat.zero_le _, rfl, World.ownsRow_nil _ _ _ _, Mod.refl _ _, fun k hk => by simp [rowB] at hk⟩, ?_⟩
  rintro _ a n c x w14 ⟨k, rfl, hk, rfl, hi, hm, hnew⟩
  refine ifK_of (fun hlt => ?_) (fun hge => ?_)
  · have hlt : n < ws.length := by have := of_decide_eq_true hlt; omega
    obtain ⟨g, rfl, hcell⟩ := row_at (row_mod hr hm fun _ _ => id) (i := n) (v := ws[n].ptr) (by simp [hlt])
    have hx := (hda.wish _ (List.getElem_mem hlt)).mod hm id id
    refine ⟨_, rfl, by omega, by omega, some ⟨ws[n].p, 0, none⟩, by simpa [Wish.ptr] using hcell, ?_⟩
    refine ⟨ws[n].client, by rw [cl1 hx.cell]; rfl, ?_⟩
    intro w19 e19
    have m19 : Mod no w14 w19 := by subst e19; exact Mod.alloc _ _
    have b19 : w19.heap[w14.heap.size]? = some (.cells #[.int .i64 ws[n].client] 3 (0, 0)) := by subst e19; exact new_at _ _
    have s19 : w19.heap.size = w14.heap.size + 1 := by subst e19; simp
    clear e19
    obtain ⟨a', c', w21, hrun, o21, m21, hn21⟩ := row_push (ty := 36) row36 (row_mod hi m19 fun _ _ => id) (b := ⟨w14.heap.size, 0, none⟩) (m := 1) (cc := 1) (news := [.int .i64 ws[n].client]) rfl (by decide)
      (by intro j v hj; cases j with
          | zero => simp at hj; subst hj; rw [cl1 b19]; rfl
          | succ j => simp at hj) (by simp [Value.oneCell']) (by omega)
    refine ⟨_, w21, hrun, _, _, _, rfl, ?_⟩
    have e2 : IntKind.i64.wrap ((n : Int) + 1) = ((n + 1 : Nat) : Int) := by rw [wrap64 (by omega) (by omega)]; omega
    rw [e2]
    have hsz := hm.size
    refine ⟨⟨n + 1, rfl, hlt, rfl, ?_, (hm.trans m19).new m21 hnew, fun k hk => ?_⟩, by simp only; omega⟩
    · rw [Ints, List.take_succ_eq_append_getElem hlt, List.map_append, List.map_append]
      exact o21
    · rcases hn21 k hk with h | h
      · exact hnew k h
      · omega
  · have hge : n = ws.length := by have := of_decide_eq_false hge; omega
    subst hge
    rw [List.take_length] at hi
    have hcl : ws.map (·.client) = l.map (·.client) := by rw [← hl, List.map_map]; rfl
    refine Sortint.sort_small 3 a ws.length c _ w14 hi (by omega) _ fun w26 ys hi' hp hsrt m26 => ⟨rfl, ?_⟩
    exact h w26 a ws.length c ys hi' (by rw [← hcl]; exact hp) hsrt (hm.new m26 hnew) hnew
end Go.Proofs.Ytgmafocfhepccaa
