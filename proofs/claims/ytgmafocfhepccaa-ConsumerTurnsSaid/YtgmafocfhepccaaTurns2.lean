/- The walk of the statement ConsumerTurns: it returns true. -/
import Derived.Test.YtgmafocfhepccaaTurns
namespace Go.Proofs.Ytgmafocfhepccaa
open Go Go.Proofs.Ytgmafocfhepccaa.St

theorem add_turns (r i : Nat) (hr1 : 1 ≤ r) (hr : r ≤ 8) (hi : i < 8) (l : List One) (hl : l = (List.range i).map fun p => ⟨((p + 1 : Nat) : Int), qq, (r : Int), []⟩) :
    addE l ((i + 1 : Nat) : Int) qq r = 0 ∧ addL l ((i + 1 : Nat) : Int) qq r = (List.range (i + 1)).map fun p => ⟨((p + 1 : Nat) : Int), qq, (r : Int), []⟩ := by
  have hf : l.find? (·.client == ((i + 1 : Nat) : Int)) = none := by
    rw [List.find?_eq_none, hl]
    intro x hx
    obtain ⟨p, hp, rfl⟩ := List.mem_map.1 hx
    have := List.mem_range.1 hp
    simp only [beq_iff_eq]
    omega
  have hlen : l.length = i := by rw [hl]; simp
  have hE : addE l ((i + 1 : Nat) : Int) qq r = 0 := by
    simp only [addE, name_q, hf, hlen]
    rw [if_neg (by simp; omega), if_neg (by simp; omega), if_neg (by simp; omega), if_neg (by simp; omega), if_neg (by simp), if_neg (by simp), if_neg (by simp; omega)]
  refine ⟨hE, ?_⟩
  rw [addL, if_pos hE, List.range_succ, List.map_append, hl]
  rfl

theorem turns_walk (n rounds : Int) (hn : 0 ≤ n) (hr : 0 ≤ rounds) (w : World) (R : Value → World → Prop) (hR : ∀ w', Mod no w w' → R (.bool true) w') :
    Ca Try.prog 3 #[.int .u64 n, .int .u64 rounds] w R := by
  obtain ⟨k, hk, hk1, hk8⟩ : ∃ k : Nat, IntKind.i64.wrap (1 + IntKind.i64.wrap (Int.tmod n 8)) = (k : Int) ∧ 1 ≤ k ∧ k ≤ 8 := by
    have h1 := Int.tmod_nonneg 8 hn
    have h2 := Int.tmod_lt_of_pos n (show (0 : Int) < 8 by decide)
    refine ⟨(1 + Int.tmod n 8).toNat, ?_, by omega, by omega⟩
    rw [wrap64 (x := Int.tmod n 8) (by omega) (by omega), wrap64 (by omega) (by omega)]
    omega
  obtain ⟨r, hrr, hr1, hr8⟩ : ∃ r : Nat, IntKind.i64.wrap (1 + IntKind.i64.wrap (Int.tmod rounds 8)) = (r : Int) ∧ 1 ≤ r ∧ r ≤ 8 := by
    have h1 := Int.tmod_nonneg 8 hr
    have h2 := Int.tmod_lt_of_pos rounds (show (0 : Int) < 8 by decide)
    refine ⟨(1 + Int.tmod rounds 8).toNat, ?_, by omega, by omega⟩
    rw [wrap64 (x := Int.tmod rounds 8) (by omega) (by omega), wrap64 (by omega) (by omega)]
    omega
  refine ca3 n rounds w R ?_
  rw [W3, hk, hrr]
  refine ⟨by decide, by decide, ?_⟩
  refine new_dk w _ fun w1 m1 d1 => ⟨_, rfl, ?_⟩
  refine ⟨fun x w' => ∃ i : Nat, x = ((i + 1 : Nat) : Int) ∧ i ≤ k ∧ Mod no w w' ∧ Dk w' w.heap.size (new w) ((List.range i).map fun p => ⟨((p + 1 : Nat) : Int), qq, (r : Int), []⟩), fun x _ => ((k : Int) + 1 - x).toNat,
    ⟨0, rfl, by omega, m1, d1⟩, ?_⟩
  rintro _ x w7 ⟨i, rfl, hik, m7, d7⟩
  refine ifK_of (fun hlt => ?_) (fun hge => ?_)
  · have hlt : i < k := by have := of_decide_eq_true hlt; omega
    obtain ⟨a1, a2⟩ := add_turns r i hr1 hr8 (by omega) _ rfl
    refine add_dk w _ _ ((i + 1 : Nat) : Int) qq r w7 m7 d7 _ fun w9 m9 d9 => ⟨_, rfl, ?_⟩
    rw [a1]
    rw [a2] at d9
    have e1 : IntKind.i64.wrap (((i + 1 : Nat) : Int) + 1) = ((i + 1 + 1 : Nat) : Int) := by rw [wrap64 (by omega) (by omega)]; omega
    rw [e1]
    exact ⟨⟨i + 1, rfl, hlt, m9, d9⟩, by simp only; omega⟩
  have hik : i = k := by have := of_decide_eq_false hge; omega
  subst hik
  have t0 : Turn i r 0 0 0 ((List.range i).map fun p => ⟨((p + 1 : Nat) : Int), qq, (r : Int), []⟩) := by
    refine ⟨_, [], (List.append_nil _).symm, ?_, by simp, ?_, by simp, ?_⟩
    · rw [List.map_map]
      apply List.map_congr_left
      intro p _
      simp only [Function.comp]
      omega
    · intro x hx
      obtain ⟨p, _, rfl⟩ := List.mem_map.1 hx
      exact ⟨rfl, rfl, rfl⟩
    · intro x hx
      obtain ⟨p, _, rfl⟩ := List.mem_map.1 hx
      simp
  refine ⟨fun t j w' => ∃ (jj : Nat) (tt : Nat) (l : List One), j = jj ∧ t = tt ∧ jj ≤ r ∧ tt ≤ jj * 8 ∧ Turn i r jj 0 tt l ∧ Mod no w w' ∧ Dk w' w.heap.size (new w) l, fun _ j _ => ((r : Int) - j).toNat,
    ⟨0, 0, _, rfl, rfl, by omega, by omega, t0, m7, d7⟩, ?_⟩
  rintro _ _ _ w16 ⟨jj, tt, l, rfl, rfl, hj, htt, hT, m16, d16⟩
  refine ifK_of (fun hlt => ?_) (fun hge => ?_)
  · have hlt : jj < r := by have := of_decide_eq_true hlt; omega
    refine ⟨fun t x w' => ∃ (ii tn : Nat) (l : List One), x = ((ii + 1 : Nat) : Int) ∧ t = tn ∧ ii ≤ i ∧ tn ≤ jj * 8 + ii ∧ Turn i r jj ii tn l ∧ Mod no w w' ∧ Dk w' w.heap.size (new w) l, fun _ x _ => ((i : Int) + 1 - x).toNat,
      ⟨0, tt, l, rfl, rfl, by omega, by omega, hT, m16, d16⟩, ?_⟩
    rintro _ _ _ w22 ⟨ii, tn, l2, rfl, rfl, hii, htn, hT2, m22, d22⟩
    refine ifK_of (fun hlt2 => ?_) (fun hge2 => ?_)
    · have hlt2 : ii < i := by have := of_decide_eq_true hlt2; omega
      obtain ⟨n1, n2, n3, n4⟩ := turn_next hT2 hlt2 hlt (by omega)
      refine next_dk _ _ _ qq w22 d22 _ fun w24 m24 => ⟨_, _, rfl, ?_⟩
      have d24 := d22.no m24
      have m24 := m22.trans m24
      rw [n1, n2]
      have hne : ((((ii + 1 : Nat) : Int)) != ((ii + 1 : Nat) : Int)) = false := by simp
      rw [hne]
      have e2 : IntKind.u64.wrap ((tn : Int) + 1) = (tn : Int) + 1 := by rw [IntKind.wrap_u64]; omega
      rw [e2]
      refine took_dk w _ _ ((ii + 1 : Nat) : Int) ((tn : Int) + 1) w24 m24 d24 _ fun w28 m28 d28 => ⟨_, rfl, ?_⟩
      rw [n3]
      have e3 : IntKind.i64.wrap (((ii + 1 : Nat) : Int) + 1) = ((ii + 1 + 1 : Nat) : Int) := by rw [wrap64 (by omega) (by omega)]; omega
      rw [e3]
      exact ⟨⟨ii + 1, tn + 1, _, rfl, by omega, hlt2, by omega, by simpa using n4, m28, d28⟩, by simp only; omega⟩
    · have hii : ii = i := by have := of_decide_eq_false hge2; omega
      subst hii
      have e3 : IntKind.i64.wrap ((jj : Int) + 1) = ((jj + 1 : Nat) : Int) := by rw [wrap64 (by omega) (by omega)]; omega
      rw [e3]
      exact ⟨⟨jj + 1, tn, l2, rfl, rfl, hlt, by omega, hT2.wrapR, m22, d22⟩, by simp only; omega⟩
  have hjr : jj = r := by have := of_decide_eq_false hge; omega
  subst hjr
  obtain ⟨hcl, hall⟩ := hT.all
  have hnone : l.find? (roomO qq) = none := by
    rw [List.find?_eq_none]
    intro x hx
    obtain ⟨_, h2, h3⟩ := hall x hx
    simp only [roomO, h2, h3]
    simp
  have hll : l.length = i := by have := congrArg List.length hcl; simpa using this
  refine next_dk _ _ _ qq w16 d16 _ fun w31 m31 => ⟨_, _, rfl, ?_⟩
  have d31 := d16.no m31
  have m31 := m16.trans m31
  have hb : nextB l qq = false := by rw [nextB, hnone]; rfl
  rw [hb]
  have htags : ∀ x ∈ l, x.tags.length ≤ 12 := fun x hx => by have := (hall x hx).2.2; omega
  refine drop_ok _ (new w) l 1 w31 d31 htags _ (fun hno => ?_) (fun a x b hab hidx hxc w35 ra rl rc ys d35 m35 hi hp hsrt hnew => ⟨_, _, _, _, _, rfl, ?_⟩)
  · exfalso
    rw [List.find?_eq_none] at hno
    have h1 : (1 : Int) ∈ l.map (·.client) := by rw [hcl]; exact List.mem_map.2 ⟨0, List.mem_range.2 (by omega), rfl⟩
    obtain ⟨y, hy, e⟩ := List.mem_map.1 h1
    exact hno y hy (by simp [e])
  have m35' := news m31 m35
  have hx : x ∈ l := by rw [hab]; simp
  have hrl : rl = jj := by
    have h1 := hi.len.1
    rw [← h1, hp.length_eq]
    exact (hall x hx).2.2
  -- the result is laid into two cells of a new block
  refine fresh2 fun w45 b45 m45 => ?_
  have d45 := d35.no m45
  refine ⟨_, _, _, by rw [cl1 b45]; rfl, ?_⟩
  rw [hrl]
  rw [show ((jj : Int) == (jj : Int)) = true from beq_self_eq_true _]
  refine clients_ok _ _ _ w45 d45 (by have := congrArg List.length hab; simp at this; simp; omega) _ fun w50 ca cn cc zs hz hzp _ m50 _ => ⟨_, _, _, rfl, ?_⟩
  have hcn : cn = i - 1 := by
    have h1 := hz.len.1
    have h2 := hzp.length_eq
    have h3 := congrArg List.length hab
    simp at h2 h3
    omega
  have e5 : IntKind.i64.wrap ((i : Int) - 1) = ((i - 1 : Nat) : Int) := by rw [wrap64 (by omega) (by omega)]; omega
  rw [e5, hcn, show ((((i - 1 : Nat) : Int)) == ((i - 1 : Nat) : Int)) = true from beq_self_eq_true _]
  exact lives_ok w50 _ fun w55 m55 => ⟨true, rfl, hR w55 (((m35'.trans m45).trans m50).trans m55)⟩
end Go.Proofs.Ytgmafocfhepccaa
