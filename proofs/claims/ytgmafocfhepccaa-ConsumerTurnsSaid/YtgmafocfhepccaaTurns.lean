/- The walk of the statement ConsumerTurns: it returns true. -/
import Derived.Test.YtgmafocfhepccaaCon11
import Derived.Test.YtgmafocfhepccaaFt
import Derived.Laws.Bits64
namespace Go.Proofs.Ytgmafocfhepccaa
open Go Go.Proofs.Ytgmafocfhepccaa.St

/-- Behind j whole rounds and i turns of the next one, of k that want r each; no tag is above t. -/
def Turn (k r j i : Nat) (t : Int) (l : List One) : Prop :=
  ∃ A B, l = A ++ B ∧ A.map (·.client) = (List.range (k - i)).map (fun p => ((i + p + 1 : Nat) : Int)) ∧ B.map (·.client) = (List.range i).map (fun p => ((p + 1 : Nat) : Int)) ∧
    (∀ x ∈ A, x.queue = qq ∧ x.most = r ∧ x.tags.length = j) ∧ (∀ x ∈ B, x.queue = qq ∧ x.most = r ∧ x.tags.length = j + 1) ∧ ∀ x ∈ l, ∀ g ∈ x.tags, g ≤ t

theorem Turn.head {k r j i : Nat} {t : Int} {l : List One} (h : Turn k r j i t l) (hi : i < k) : ∃ x A B, l = x :: (A ++ B) ∧ x.client = ((i + 1 : Nat) : Int) ∧ x.queue = qq ∧ x.most = r ∧ x.tags.length = j ∧
    ∀ x', x'.client = x.client → x'.queue = x.queue → x'.most = x.most → (∃ g, x'.tags = x.tags ++ [g] ∧ t ≤ g) → ∀ t', (∀ g ∈ x'.tags, g ≤ t') → t ≤ t' → Turn k r j (i + 1) t' (A ++ B ++ [x']) := by
  obtain ⟨A, B, rfl, hA, hB, hA2, hB2, ht⟩ := h
  have hk : k - i = (k - (i + 1)) + 1 := by omega
  rw [hk, List.range_succ_eq_map, List.map_cons, List.map_map] at hA
  match A, hA with
  | x :: A, hA =>
    simp only [List.map_cons, List.cons.injEq] at hA
    obtain ⟨h1, h2⟩ := hA
    obtain ⟨q1, q2, q3⟩ := hA2 x (by simp)
    refine ⟨x, A, B, rfl, h1, q1, q2, q3, fun x' c1 c2 c3 ⟨g, c4, _⟩ t' hg htt => ⟨A, B ++ [x'], by simp, ?_, ?_, fun y hy => hA2 y (by simp [hy]), ?_, ?_⟩⟩
    · rw [h2]
      apply List.map_congr_left
      intro p _
      simp only [Function.comp]
      omega
    · rw [List.map_append, hB, List.range_succ, List.map_append, List.map_cons, List.map_nil, List.map_cons, List.map_nil, c1, h1]
    · intro y hy
      rcases List.mem_append.1 hy with h | h
      · exact hB2 y h
      · simp at h
        subst h
        exact ⟨c2.trans q1, c3.trans q2, by rw [c4, List.length_append, q3]; rfl⟩
    · intro y hy g' hg'
      rcases List.mem_append.1 hy with h | h
      · have := ht y (by simp only [List.mem_append, List.mem_cons] at h ⊢; rcases h with h | h <;> simp [h]) g' hg'
        omega
      · simp at h; subst h; exact hg g' hg'

theorem Turn.wrapR {k r j : Nat} {t : Int} {l : List One} (h : Turn k r j k t l) : Turn k r (j + 1) 0 t l := by
  obtain ⟨A, B, rfl, hA, hB, hA2, hB2, ht⟩ := h
  have hA0 : A = [] := by
    have : (A.map (·.client)).length = 0 := by rw [hA]; simp
    exact List.eq_nil_of_length_eq_zero (by simpa using this)
  subst hA0
  exact ⟨B, [], by simp, by rw [hB]; simp, by simp, hB2, by simp, by simpa using ht⟩

theorem Turn.all {k r j : Nat} {t : Int} {l : List One} (h : Turn k r j 0 t l) : l.map (·.client) = (List.range k).map (fun p => ((p + 1 : Nat) : Int)) ∧ ∀ x ∈ l, x.queue = qq ∧ x.most = r ∧ x.tags.length = j := by
  obtain ⟨A, B, rfl, hA, hB, hA2, hB2, ht⟩ := h
  have hB0 : B = [] := by simpa using hB
  subst hB0
  exact ⟨by simpa using hA, by simpa using hA2⟩

/-- The next turn: who is head is next, and takes. -/
theorem turn_next {k r j i : Nat} {t : Int} {l : List One} (h : Turn k r j i t l) (hi : i < k) (hj : j < r) (ht : 0 ≤ t) :
    nextC l qq = ((i + 1 : Nat) : Int) ∧ nextB l qq = true ∧ tookE l ((i + 1 : Nat) : Int) (t + 1) = 0 ∧ Turn k r j (i + 1) (t + 1) (tookL l ((i + 1 : Nat) : Int) (t + 1)) := by
  obtain ⟨x, A, B, hl, hc, hq, hm, hlen, hstep⟩ := h.head hi
  have hroom : roomO qq x = true := by rw [roomO, hq, hm, hlen]; simp; omega
  have hcl : (x.client == ((i + 1 : Nat) : Int)) = true := by rw [hc]; exact beq_self_eq_true _
  have hE : tookE l ((i + 1 : Nat) : Int) (t + 1) = 0 := by
    have hf : l.find? (·.client == ((i + 1 : Nat) : Int)) = some x := by rw [hl, List.find?_cons]; simp only [hcl]
    have hn : l.find? (holdsB x.queue (t + 1)) = none := by
      rw [List.find?_eq_none]
      intro y hy
      obtain ⟨_, _, _, _, _, _, _, htt⟩ := h
      have : (t + 1) ∉ y.tags := fun hmem => by have := htt y hy _ hmem; omega
      simp [holdsB, this]
    simp only [tookE, hf, hn]
    rw [if_neg (by simp; omega), if_neg (by simp), if_neg (by simp; omega)]
  refine ⟨?_, ?_, hE, ?_⟩
  · rw [nextC, hl, List.find?_cons]; simp only [hroom]; simp [hc]
  · rw [nextB, hl, List.find?_cons]; simp only [hroom]; rfl
  · have hi' : l.findIdx? (·.client == ((i + 1 : Nat) : Int)) = some ([] : List One).length := by rw [hl, List.findIdx?_cons]; simp only [hcl]; rfl
    rw [tookL, if_pos hE, toEnd_at _ (a := []) (b := A ++ B) (y := x) (by rw [hl]; rfl) hi']
    refine hstep { x with tags := x.tags ++ [t + 1] } rfl rfl rfl ⟨t + 1, rfl, by omega⟩ (t + 1) ?_ (by omega)
    intro g hg
    obtain ⟨_, _, _, _, _, _, _, htt⟩ := h
    rcases List.mem_append.1 hg with h | h
    · have := htt x (by rw [hl]; simp) g h; omega
    · simp at h; omega
end Go.Proofs.Ytgmafocfhepccaa
