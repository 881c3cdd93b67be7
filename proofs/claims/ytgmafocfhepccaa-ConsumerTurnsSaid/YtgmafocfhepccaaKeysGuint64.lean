/- The library's Keys of a set of whole numbers, Collect, Sorted. -/
import Derived.Test.YtgmafocfhepccaaSeqGuint64
import Derived.Test.YtgmafocfhepccaaMapIt
import Derived.Test.YtgmafocfhepccaaSortPuint64
namespace Go.Proofs.Ytgmafocfhepccaa.Sequint64
open Go Go.Proofs.Ytgmafocfhepccaa Go.Proofs.Ytgmafocfhepccaa.St

theorem keys_seq (B : Nat) (w0 : World) (bx m : Nat) (t : TypeId) (tags : List Int) (hbx : w0.heap[bx]? = some (.cells #[.map (some m)] t (0, 0))) (hB : bx < B) (hm : MapAt w0 m (setKs .u64 tags)) (hmB : m < B) (N : Nat) (hN : tags.length ≤ N) :
    SeqOf Try.prog (.func (.func 53) #[] #[.pointer (some ⟨bx, 0, none⟩)]) B w0 N (fun v => ∃ k, v = .int .u64 k) (fun xs => xs.Perm (tags.map fun k => .int .u64 k)) := by
  refine ⟨⟨_, _, _, rfl⟩, ?_⟩
  intro J y w R hk hst hJ hy hend
  refine (ca53 y (some ⟨bx, 0, none⟩) w R ?_ : Ca _ _ _ _ _)
  obtain ⟨es, clock, hes, hkv, hn, hc⟩ := hm
  have hes' := hk.old m _ hes (.inl hmB)
  refine ⟨some m, by rw [cl (hk.old bx _ hbx (.inl hB))]; rfl, es, clock, hes', ?_⟩
  intro w3 e3
  have m3 : Mod no w w3 := by subst e3; exact Mod.alloc _ _
  have b3 : w3.heap[w.heap.size]? = some (.mapIter (some m) clock #[] clock) := by subst e3; exact new_at _ _
  clear e3
  have hlen : tags.length = es.toList.length := by
    have := congrArg List.length hkv
    simpa [setKs, intKs] using this.symm
  have hkey : ∀ e ∈ es.toList, ∃ k, e.key = .int .u64 k := by
    intro e he
    have : (e.key, e.val) ∈ setKs .u64 tags := by rw [← hkv]; exact List.mem_map_of_mem he
    simp only [setKs, intKs, List.map_map, List.mem_map, Function.comp, Prod.mk.injEq] at this
    obtain ⟨k, _, hk, _⟩ := this
    exact ⟨k, hk.symm⟩
  have hkeys : es.toList.map (·.key) = tags.map fun k => .int .u64 k := by
    have := congrArg (List.map Prod.fst) hkv
    simpa [setKs, intKs, Function.comp_def] using this
  refine ⟨fun w' => ∃ (seen : Array Nat) (c0 : Nat) (got : List MapEntry), w'.heap[w.heap.size]? = some (.mapIter (some m) clock seen c0) ∧ clock ≤ c0 ∧ (got ++ (leftOf es seen).toList).Perm es.toList ∧ J (got.map (·.key)) w' ∧ Kp B w0 w',
    fun w' => match w'.heap[w.heap.size]? with | some (.mapIter _ _ seen _) => (leftOf es seen).size | _ => 0, ⟨#[], clock, [], b3, Nat.le_refl _, by simp only [leftOf, Array.toList_filter, List.nil_append]; exact .of_eq (List.filter_eq_self.2 (by simp)), hst.1 _ _ _ hJ m3, hk.trans (Kp.of_no m3)⟩, ?_⟩
  rintro _ w7 ⟨seen, c0, got, hit, hcc, hperm, hJ7, hk7⟩
  have hm7 := hk7.old m _ hes (.inl hmB)
  rcases next_at (P := Try.prog) (ty := 0) hit hm7 hc hcc with ⟨h0, hrun⟩ | ⟨e, he, w8, hrun, m8, hit8⟩
  · refine ⟨_, w7, hrun, .inl ⟨rfl, hend w7 _ ?_ hJ7 hk7⟩⟩
    have : (leftOf es seen).toList = [] := List.eq_nil_of_length_eq_zero (by simpa using h0)
    rw [this, List.append_nil] at hperm
    rw [← hkeys]
    exact hperm.map _
  · refine ⟨_, w8, hrun, .inr ⟨_, _, rfl, ?_⟩⟩
    have hmem := (mem_left he).1
    have hk8 : Kp B w0 w8 := by
      refine ⟨m8.os.trans hk7.os, m8.tape.trans hk7.tape, m8.output.trans hk7.output, Nat.le_trans hk7.size m8.size, fun k o ho hko => m8.at (hk7.old k o ho hko) fun hS => ?_⟩
      cases hS
      have := lt_of_heap ho
      have := hk.size
      omega
    have hm8 := hk8.old m _ hes (.inl hmB)
    refine ⟨e.key, e.val, entry_at hit8 hm8 hmem hn, ?_⟩
    obtain ⟨k, hkk⟩ := hkey e hmem
    rw [hkk]
    have hJ8 := hst.2 _ _ _ _ _ hJ7 hit rfl m8
    have hll : got.length < tags.length := by
      have h1 := hperm.length_eq
      have h2 : 0 < (leftOf es seen).toList.length := List.length_pos_of_mem he
      rw [List.length_append] at h1
      omega
    refine hy _ (.int .u64 k) w8 hk8 hJ8 (by simpa using (by omega : got.length < N)) ⟨k, rfl⟩ _ fun w15 hk15 hJ15 => ⟨true, rfl, ?_⟩
    have hit15 := hk15.old _ _ hit8 (.inr rfl)
    refine ⟨⟨seen.push e.born, clock, got ++ [e], hit15, Nat.le_refl _, ?_, by rw [List.map_append]; simpa [hkk] using hJ15, hk8.trans hk15⟩, ?_⟩
    · rw [List.append_assoc]
      exact ((List.Perm.append_left got (left_perm hn he)).symm).trans hperm
    · simp only [hit15, hit]
      exact left_shrinks es seen e he

/-- Sorted(Keys(m)): a new row of the set's numbers, rising. -/
theorem sortedKeys_ok (m : Nat) (tags : List Int) (w : World) (hm : MapAt w m (setKs .u64 tags)) (hs : tags.length ≤ 12) :
    Ca Try.prog 46 #[.map (some m)] w (fun sv w1 => Mod no w w1 ∧ ∀ R : Value → World → Prop,
      (∀ w' a l c ys, Ints .u64 27 w' a l c ys → ys.Perm tags → Srt ys 0 l → Mod no w1 w' → (∀ k, rowB a k → w1.heap.size ≤ k) → R (.slice a l c) w') → Ca Try.prog 45 #[sv] w1 R) := by
  refine ca46 (some m) w _ ?_
  intro w1 e1
  have m1 : Mod no w w1 := by subst e1; exact Mod.alloc _ _
  have b1 : w1.heap[w.heap.size]? = some (.cells #[.map (some m)] 70 (0, 0)) := by subst e1; exact new_at _ _
  have s1 : w1.heap.size = w.heap.size + 1 := by subst e1; simp
  clear e1
  have hm1 := hm.mod m1 id
  have hmlt := hm.lt
  refine ⟨m1, fun R h => ?_⟩
  refine ca45 _ w1 R ?_
  refine ca51 _ w1 _ ?_
  refine appendSeq_ok _ tags.length _ w1 (by omega) (keys_seq w1.heap.size w1 w.heap.size m 70 tags b1 (by omega) hm1 (by omega) tags.length (Nat.le_refl _)) _ ?_
  intro w2 a l c xs hperm ho m2 hnew
  refine ⟨a, l, c, rfl, a, l, c, rfl, ?_⟩
  obtain ⟨ys, hys, hyp⟩ : ∃ ys : List Int, xs = ys.map (.int .u64) ∧ ys.Perm tags := by
    have : ∀ (xs : List Value) (ts : List Int), xs.Perm (ts.map fun k => Value.int .u64 k) → ∃ ys : List Int, xs = ys.map (.int .u64) ∧ ys.Perm ts := by
      intro xs ts hp
      have hall : ∀ v ∈ xs, ∃ k, v = .int .u64 k := fun v hv => by
        obtain ⟨k, _, e⟩ := List.mem_map.1 (hp.mem_iff.1 hv)
        exact ⟨k, e.symm⟩
      let g : Value → Int := fun v => match v with | .int _ n => n | _ => 0
      refine ⟨xs.map g, ?_, ?_⟩
      · rw [List.map_map]
        conv => lhs; rw [← List.map_id xs]
        apply List.map_congr_left
        intro v hv
        obtain ⟨k, rfl⟩ := hall v hv
        rfl
      · have := hp.map g
        rw [List.map_map] at this
        simpa [g, Function.comp_def] using this
    exact this xs tags hperm
  subst hys
  have hl : l = tags.length := by
    have h1 := (row_len ho).2.1
    rw [← hyp.length_eq]
    simpa using h1.symm
  refine Sortuint64.sort_small 27 a l c ys w2 ho (by omega) _ fun w3 zs hz hzp hsrt m3 => ⟨rfl, ?_⟩
  refine h w3 a l c zs hz (hzp.trans hyp) hsrt ?_ fun k hk => by have := hnew k hk; omega
  exact m2.new m3 fun k hk => by have := hnew k hk; omega
end Go.Proofs.Ytgmafocfhepccaa.Sequint64
