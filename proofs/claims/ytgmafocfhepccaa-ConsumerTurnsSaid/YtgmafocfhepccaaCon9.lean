/- Contracts: the library's DeleteFunc over a desk's line. -/
import Derived.Test.YtgmafocfhepccaaCon8
import Derived.Test.YtgmafocfhepccaaRowC
import Derived.Test.YtgmafocfhepccaaFb
namespace Go.Proofs.Ytgmafocfhepccaa
open Go Go.Proofs.Ytgmafocfhepccaa.St

theorem zero68 : zeroOk Try.prog 68 = true := by kernel_rfl

theorem deleteFunc_ok (a : Option Addr) (l c : Nat) (del : Value) (w : World) (ws : List Wish) (φ : Wish → Bool) (hr : w.ownsRow 0 68 1 (.slice a l c) ws.length (ws.map Wish.ptr))
    (hdel : ∀ x ∈ ws, ∀ w', Mod (rowB a) w w' → ∀ R : Value → World → Prop, (∀ w'', Mod no w' w'' → R (.bool (φ x)) w'') → CaV Try.prog del #[x.ptr] w' R) (R : Value → World → Prop)
    (h : ∀ w' l', w'.ownsRow 0 68 1 (.slice a l' c) (ws.filter fun x => !φ x).length ((ws.filter fun x => !φ x).map Wish.ptr) → Mod (rowB a) w w' → R (.slice a l' c) w') :
    Ca Try.prog 31 #[.slice a l c, del] w R := by
  obtain ⟨hl, _, hlc, hc⟩ := row_len hr
  refine ca31 a l c del w R ?_
  refine indexFunc a l c del w ws φ hr (fun x hx w' hm R hR => hdel x hx w' hm.of_no R hR) _ fun w1 m1 => ⟨_, rfl, ?_⟩
  have hr1 := row_mod hr m1 fun _ _ => id
  cases hi : ws.findIdx? φ with
  | none =>
    refine h w1 l ?_ m1.of_no
    have : (ws.filter fun x => !φ x) = ws := by
      rw [List.filter_eq_self]
      intro x hx
      rw [List.findIdx?_eq_none_iff] at hi
      simp [hi x hx]
    rw [this]
    exact hr1
  | some i0 =>
    obtain ⟨hlt, hb, hbefore⟩ := List.findIdx?_eq_some_iff_getElem.1 hi
    have hne : (((i0 : Int)) == -1) = false := beq_false_of_ne (by omega)
    simp only [hne]
    have e1 : IntKind.i64.wrap ((i0 : Int) + 1) = ((i0 + 1 : Nat) : Int) := by rw [wrap64 (by omega) (by omega)]; omega
    show ∃ z3 : Int → Int → World → Prop, _
    rw [e1]
    have hf0 : (ws.take (i0 + 1)).filter (fun x => !φ x) = ws.take i0 := by
      rw [List.take_succ_eq_append_getElem hlt, List.filter_append]
      have h1 : (ws.take i0).filter (fun x => !φ x) = ws.take i0 := by
        rw [List.filter_eq_self]
        intro x hx
        obtain ⟨j, hj, rfl⟩ := List.mem_take_iff_getElem.1 hx
        have := hbefore j (by omega)
        simpa using this
      rw [h1]
      simp [hb]
    refine ⟨fun x y w' => ∃ (i j : Nat) (xs : List Value), x = i ∧ y = j ∧ i < j ∧ j ≤ ws.length ∧ w'.ownsRow 0 68 1 (.slice a l c) ws.length xs ∧ xs.take i = ((ws.take j).filter fun x => !φ x).map Wish.ptr ∧ xs.drop j = (ws.drop j).map Wish.ptr ∧ Mod (rowB a) w w',
      fun _ y _ => ((l : Int) - y).toNat, ⟨i0, i0 + 1, ws.map Wish.ptr, rfl, rfl, by omega, by omega, hr1, by rw [hf0, List.map_take], by rw [List.map_drop], m1.of_no⟩, ?_⟩
    rintro _ x y w8 ⟨i, j, xs, rfl, rfl, hij, hj, h8, htake, hdrop, m8⟩
    have hxl : xs.length = ws.length := (row_len h8).2.1
    refine ifK_of (fun hjl => ?_) (fun hjl => ?_)
    · have hjl : j < ws.length := by have := of_decide_eq_true hjl; omega
      have hxj : xs[j]? = some (ws[j].ptr) := by
        have := congrArg (fun l => l[0]?) hdrop
        simpa [hjl] using this
      obtain ⟨g, rfl, hcell⟩ := row_at h8 hxj
      refine ⟨_, rfl, by omega, by omega, some ⟨ws[j].p, 0, none⟩, by simpa [Wish.ptr] using hcell, ?_⟩
      refine hdel ws[j] (List.getElem_mem hjl) w8 m8 _ fun w12 m12 => ⟨φ ws[j], rfl, ?_⟩
      have h12 := row_mod h8 m12 fun _ _ => id
      have m12' := m8.trans_no m12
      have e2 : IntKind.i64.wrap ((j : Int) + 1) = ((j + 1 : Nat) : Int) := by rw [wrap64 (by omega) (by omega)]; omega
      have hdrop' : xs.drop (j + 1) = (ws.drop (j + 1)).map Wish.ptr := by
        have := congrArg (List.drop 1) hdrop
        rw [List.drop_drop, ← List.map_drop, List.drop_drop] at this
        exact this
      rw [e2]
      refine ifK_of (fun hk => ?_) (fun hk => ?_)
      · have hk : φ ws[j] = false := by simpa using hk
        obtain ⟨ad, had, hold, hfz, m16, h16⟩ := row_put h12 (i := i) (by omega) ws[j].ptr
        cases had
        refine ⟨_, rfl, by omega, by omega, hold, hfz, ?_⟩
        intro w16 e16
        have e16 : w16 = w12.setCell (Addr.add (Addr.add ⟨g, 0, none⟩ (i * 1)) 0) ws[j].ptr := e16
        rw [← e16] at m16 h16
        clear e16
        have e3 : IntKind.i64.wrap ((i : Int) + 1) = ((i + 1 : Nat) : Int) := by rw [wrap64 (by omega) (by omega)]; omega
        rw [e3]
        refine ⟨⟨i + 1, j + 1, _, rfl, rfl, by omega, by omega, h16, ?_, ?_, m12'.trans m16⟩, by simp only; omega⟩
        · rw [List.take_succ_eq_append_getElem hjl, List.filter_append, List.map_append, ← htake]
          have : [ws[j]].filter (fun x => !φ x) = [ws[j]] := by simp [hk]
          rw [this, List.take_succ_eq_append_getElem (by simp; omega), List.take_set_of_le (Nat.le_refl _)]
          simp
        · rw [List.drop_set_of_lt (by omega)]
          exact hdrop'
      · have hk : φ ws[j] = true := by simpa using hk
        refine ⟨⟨i, j + 1, xs, rfl, rfl, by omega, by omega, h12, ?_, hdrop', m12'⟩, by simp only; omega⟩
        rw [List.take_succ_eq_append_getElem hjl, List.filter_append, htake]
        have : [ws[j]].filter (fun x => !φ x) = [] := by simp [hk]
        rw [this, List.append_nil]
    · have hjl : j = ws.length := by have := of_decide_eq_false hjl; omega
      subst hjl
      rw [List.take_length] at htake
      obtain ⟨w18, hrun, m18, h18⟩ := row_clear (ty := 0) row57 zero68 h8 (i := i) (by omega)
      refine ⟨by omega, by omega, by omega, _, w18, hrun, rfl, by decide, by omega, by omega, ?_⟩
      obtain ⟨g, cur, rfl, _⟩ := row_block h8 (by omega)
      have hil : i = (ws.filter fun x => !φ x).length := by
        have := congrArg List.length htake
        rw [List.length_take, List.length_map, Nat.min_eq_left (by omega)] at this
        exact this
      rw [if_neg (by omega)]
      refine h w18 i ?_ (m8.trans m18)
      rw [← htake, ← hil]
      exact h18
end Go.Proofs.Ytgmafocfhepccaa
