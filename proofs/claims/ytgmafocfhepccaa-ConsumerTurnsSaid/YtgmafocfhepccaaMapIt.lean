/- A range over a map, wherever its iterator lies. It names no program. -/
import Derived.Test.YtgmafocfhepccaaSeqL
namespace Go.Proofs.Ytgmafocfhepccaa.St
open Go

section
variable {P : Program}
/-- 'next' over a map that stands as it was: nothing is left; or one that is left comes out. -/
theorem next_at {w : World} {ty : TypeId} {it bm since c0 : Nat} {seen : Array Nat} {es : Array MapEntry} {clock : Nat} (hit : w.heap[it]? = some (.mapIter (some bm) since seen c0)) (hb : w.heap[bm]? = some (.map es clock))
    (hold : ∀ x ∈ es.toList, x.born < since) (hsc : since ≤ c0) :
    ((leftOf es seen).size = 0 ∧ (Instr.next (.pointer (some ⟨it, 0, none⟩)) false ty).run P w = .ok (.tuple #[.bool false]) w) ∨
    ∃ e ∈ (leftOf es seen).toList, ∃ w' : World, (Instr.next (.pointer (some ⟨it, 0, none⟩)) false ty).run P w = .ok (.tuple #[.bool true, e.key, e.val]) w' ∧ Mod (on it) w w' ∧
      w'.heap[it]? = some (.mapIter (some bm) since (seen.push e.born) clock) := by
  simp only [Instr.next, getObj, Sem.run_bind, Sem.run, hit, hb, Result.andThen, next_test_false seen es since c0 hold hsc, Bool.false_eq_true, if_false]
  unfold leftOf
  have hmem : ∀ x ∈ (Array.filter (fun e => !seen.contains e.born) es).toList, x.born < since := fun x hx => hold x (by simp at hx ⊢; exact hx.1)
  generalize Array.filter (fun e => !seen.contains e.born) es = L at hmem ⊢
  have e1 : L.filter (fun x => decide (x.born < since)) = L := Array.filter_eq_self.2 (fun x hx => by simpa using hmem x (by simpa using hx))
  have e2 : L.filter (fun x => decide (x.born ≥ since)) = #[] := by
    rw [Array.filter_eq_empty_iff]
    intro x hx
    have := hmem x (by simpa using hx)
    simp
    omega
  simp only [e1, e2, Array.append_empty]
  by_cases h0 : L.size = 0
  · left
    have : L = #[] := Array.eq_empty_of_size_eq_zero h0
    subst this
    refine ⟨rfl, ?_⟩
    simp [choose, Sem.run, Question.forced]
  · right
    have hne : L.isEmpty = false := by simp [Array.isEmpty, h0]
    simp only [hne, Bool.false_eq_true, if_false, Array.empty_append, Array.size_map]
    have hch : ∃ (j : Nat) (w1 : World), j < L.size ∧ Mod no w w1 ∧ w1.heap = w.heap ∧ (choose (Question.mapNext L.size)).run P w = .ok j w1 := by
      by_cases hf : L.size ≤ 1
      · exact ⟨0, w, by omega, Mod.refl _ _, rfl, by simp [choose, Sem.run, Question.forced, hf]⟩
      · exact ⟨_, w.drew, Nat.mod_lt _ (by omega), Mod.drew w, rfl, by
          simp only [choose, Sem.run, Question.forced, decide_eq_true_eq, hf, if_false, Question.cut]
          rfl⟩
    obtain ⟨j, w1, hj, hm1, hheap, hrun⟩ := hch
    have hit1 : w1.heap[it]? = some (.mapIter (some bm) since seen c0) := by rw [hheap, hit]
    have hset : ∀ o' : Obj, (setObj it o').run P w1 = .ok () (w1.putObj it o') := fun o' => by
      simp [setObj, Sem.run, hit1, World.putObj]
    refine ⟨L[j], by simp, w1.putObj it (.mapIter (some bm) since (seen.push L[j].born) clock), ?_, hm1.no_trans (Mod.putObj w1 it _), put_at _ hit1⟩
    simp only [hrun, Array.getElem?_map, Array.getElem?_eq_getElem hj, Option.map_some, Sem.run_bind, hset, Result.andThen]
    rfl

theorem entry_at {w : World} {it bm since : Nat} {seen : Array Nat} {es : Array MapEntry} {clock : Nat} {e : MapEntry} (hit : w.heap[it]? = some (.mapIter (some bm) since (seen.push e.born) clock)) (hb : w.heap[bm]? = some (.map es clock))
    (he : e ∈ es.toList) (hn : (es.toList.map (·.born)).Nodup) : (Instr.entry (.pointer (some ⟨it, 0, none⟩))).run P w = .ok (.tuple #[e.key, e.val]) w := by
  have hf : es.find? (·.born == e.born) = some e := by rw [← Array.find?_toList]; exact find_born e es.toList hn he
  simp only [Instr.entry, getObj, Sem.run_bind, Sem.run, hit, hb, Result.andThen, Array.back?_push, bne_self_eq_false, Bool.false_eq_true, if_false, hf]
  rfl
end

theorem filter_perm {p q : MapEntry → Bool} {e : MapEntry} : ∀ {l : List MapEntry}, (l.map (·.born)).Nodup → e ∈ l → p e = true → (∀ x ∈ l, q x = (p x && !(x.born == e.born))) → (l.filter p).Perm (e :: l.filter q)
  | [], _, h, _, _ => by simp at h
  | x :: l, hn, he, hp, hq => by
    rw [List.map_cons, List.nodup_cons] at hn
    have hqx := hq x (by simp)
    rcases List.mem_cons.1 he with rfl | he'
    · have hqe : q e = false := by rw [hqx]; simp
      rw [List.filter_cons_of_pos hp, List.filter_cons_of_neg (by simp [hqe])]
      have : l.filter p = l.filter q := by
        apply List.filter_congr
        intro y hy
        rw [hq y (by simp [hy])]
        have : (y.born == e.born) = false := beq_false_of_ne fun h => hn.1 (by rw [← h]; exact List.mem_map_of_mem hy)
        simp [this]
      rw [this]
    · have hne : (x.born == e.born) = false := beq_false_of_ne fun h => hn.1 (by rw [h]; exact List.mem_map_of_mem he')
      have ih := filter_perm (l := l) hn.2 he' hp fun y hy => hq y (by simp [hy])
      have hqp : q x = p x := by rw [hqx, hne]; simp
      cases hpx : p x with
      | true =>
        rw [List.filter_cons_of_pos hpx, List.filter_cons_of_pos (by rw [hqp, hpx])]
        exact (List.Perm.cons x ih).trans (List.Perm.swap e x _)
      | false =>
        rw [List.filter_cons_of_neg (by simp [hpx]), List.filter_cons_of_neg (by simp [hqp, hpx])]
        exact ih

theorem left_perm {es : Array MapEntry} {seen : Array Nat} {e : MapEntry} (hn : (es.toList.map (·.born)).Nodup) (he : e ∈ (leftOf es seen).toList) :
    (leftOf es seen).toList.Perm (e :: (leftOf es (seen.push e.born)).toList) := by
  obtain ⟨h1, h2⟩ := mem_left he
  simp only [leftOf, Array.toList_filter]
  refine filter_perm hn h1 (by simpa using h2) fun x _ => ?_
  rw [contains_push, Bool.not_or]
end Go.Proofs.Ytgmafocfhepccaa.St
