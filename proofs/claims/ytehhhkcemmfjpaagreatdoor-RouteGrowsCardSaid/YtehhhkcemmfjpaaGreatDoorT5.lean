/- Parts of the proof of RouteGrowsCard. -/
import Derived.Test.YtehhhkcemmfjpaaGreatDoorCore9
import Derived.Test.YtehhhkcemmfjpaaGreatDoorProg
import Derived.Test.YtehhhkcemmfjpaaGreatDoorT4
/- The reference's may, Good, ahead; its table, and Find, Has in it. -/
namespace Go.Proofs.YtehhhkcemmfjpaaGreatDoor
open Go Go.Proofs.YtehhhkcemmfjpaaGreatDoor Go.Proofs.YtehhhkcemmfjpaaGreatDoor.St

theorem mayR_ok (x : Exc) (hk : x.k = 1 ∨ x.k = 2 ∨ x.k = 3) (p : ByteArray) (w : World) (R : Value → World → Prop) (h : ∀ w', Mod no w w' → R (.bool (mayB x p)) w') : Ca Tryz.prog 72 #[.int .i64 x.k, .string p] w R := by
  refine ca72 x.k p w R (ifK_eq (fun h1 => ?_) (fun h1 => ifK_eq (fun h2 => ?_) (fun h2 => ?_)))
  · refine keyR_ok p w _ fun w1 m1 => ⟨_, rfl, ?_⟩
    have h' := h w1 m1
    rw [mayB, if_pos h1] at h'
    exact h'
  · have h' := h w (Mod.refl _ _)
    rw [mayB, if_neg h1, if_neg (by omega)] at h'
    rw [toList_beq]
    exact h'
  · refine patR_ok p w _ fun w1 m1 => ⟨_, rfl, ?_⟩
    have h' := h w1 m1
    rw [mayB, if_neg h1, if_pos (by omega)] at h'
    exact h'
theorem goodR_ok (x : Exc) (w : World) (R : Value → World → Prop) (h : ∀ w', Mod no w w' → R (.bool (goodX x)) w') : Ca Tryz.prog 37 #[.agg ⟨x.cs⟩] w R := by
  refine (ca37 x.n x.k x.f w R ?_ : Ca _ _ _ _ _)
  intro w0 e0
  have m0 : Mod no w w0 := by subst e0; exact Mod.alloc _ _
  have b0 : Xc w0 w.heap.size x := by subst e0; exact new_at _ _
  clear e0
  have h := h w0 m0
  refine ⟨_, by rw [cl1 b0]; rfl, nameR_ok _ _ _ ⟨_, rfl, ?_⟩⟩
  rw [goodX] at h
  refine ifK_of (fun hn => ?_) (fun hn => ?_)
  · rw [hn, Bool.true_and] at h
    refine ⟨x.k, by rw [cl1 b0]; rfl, ifK_dec (fun h1 => ⟨x.k, by rw [cl1 b0]; rfl, ?_⟩) (fun h1 => ?_)⟩
    · have : (x.k == 1 || x.k == 2 || x.k == 3) = decide (x.k ≤ 3) := by
        rw [Bool.eq_iff_iff]; simp; omega
      rw [this] at h
      exact h
    · have : (x.k == 1 || x.k == 2 || x.k == 3) = false := by
        rw [Bool.eq_false_iff]; simp; omega
      rw [this] at h
      exact h
  · rw [hn, Bool.false_and] at h; exact h
theorem lt_bool (x y : ByteArray) : Op.bytesLess x.toList y.toList = decide (x < y) := by
  rw [Bool.eq_iff_iff, decide_eq_true_iff]
  exact Iff.rfl
instance bndDec : DecidableLT Bnd := fun a b => inferInstanceAs (Decidable (a.x < b.x ∨ a.x = b.x ∧ (a.q < b.q ∨ a.q = b.q ∧ a.p < b.p)))
theorem ahead_ok (x y : Bnd) (w : World) (R : Value → World → Prop) (h : ∀ w', Mod no w w' → R (.bool (decide (x < y))) w') : Ca Tryz.prog 73 #[.agg ⟨x.cs⟩, .agg ⟨y.cs⟩] w R := by
  refine (ca73 x.x x.q x.p y.x y.q y.p w R ?_ : Ca _ _ _ _ _)
  intro w0 e0
  have m0 : Mod no w w0 := by subst e0; exact Mod.alloc _ _
  have b0 : Bc w0 w.heap.size x := by subst e0; exact new_at _ _
  clear e0
  intro w1 e1
  have m1 : Mod no w0 w1 := by subst e1; exact Mod.alloc _ _
  have b1 : Bc w1 w0.heap.size y := by subst e1; exact new_at _ _
  have b0 := m1.at' b0
  clear e1
  have h := h w1 (m0.trans m1)
  refine ⟨_, by rw [cl1 b0]; rfl, _, by rw [cl1 b1]; rfl, ?_⟩
  rw [toList_beq]
  refine ifK_not (fun hx => ?_) (fun hx => ?_)
  · have hx : ¬ x.x = y.x := of_decide_eq_false hx
    refine ⟨_, by rw [cl1 b0]; rfl, _, by rw [cl1 b1]; rfl, ?_⟩
    rw [lt_bool]
    have : decide (x < y) = decide (x.x < y.x) := decide_eq_decide.2 ⟨fun h => h.resolve_right fun h => hx h.1, .inl⟩
    rw [this] at h
    exact h
  · have hx : x.x = y.x := of_decide_eq_true hx
    refine ⟨_, by rw [cl1 b0]; rfl, _, by rw [cl1 b1]; rfl, ?_⟩
    rw [toList_beq]
    refine ifK_not (fun hq => ?_) (fun hq => ?_)
    · have hq : ¬ x.q = y.q := of_decide_eq_false hq
      refine ⟨_, by rw [cl1 b0]; rfl, _, by rw [cl1 b1]; rfl, ?_⟩
      rw [lt_bool]
      have : decide (x < y) = decide (x.q < y.q) := decide_eq_decide.2 ⟨fun h => by
        rcases h with h | ⟨_, h | h⟩
        · exact absurd h (by rw [hx]; exact str_irr _)
        · exact h
        · exact absurd h.1 hq, fun h => .inr ⟨hx, .inl h⟩⟩
      rw [this] at h
      exact h
    · have hq : x.q = y.q := of_decide_eq_true hq
      refine ⟨_, by rw [cl1 b0]; rfl, _, by rw [cl1 b1]; rfl, ?_⟩
      rw [lt_bool]
      have : decide (x < y) = decide (x.p < y.p) := decide_eq_decide.2 ⟨fun h => by
        rcases h with h | ⟨_, h | h⟩
        · exact absurd h (by rw [hx]; exact str_irr _)
        · exact absurd h (by rw [hq]; exact str_irr _)
        · exact h.2, fun h => .inr ⟨hx, .inr ⟨hq, h⟩⟩⟩
      rw [this] at h
      exact h
end Go.Proofs.YtehhhkcemmfjpaaGreatDoor

/- The reference's table; Find, Has in it. -/
namespace Go.Proofs.YtehhhkcemmfjpaaGreatDoor
open Go Go.Proofs.YtehhhkcemmfjpaaGreatDoor Go.Proofs.YtehhhkcemmfjpaaGreatDoor.St

/-- The reference's table at r: exchanges X, bindings B. -/
structure RTb (w : World) (r : Nat) (X : List Exc) (B : List Bnd) : Prop where
  ex : ∃ (a : Option Addr) (l c : Nat) (a' : Option Addr) (l' c' : Nat), w.heap[r]? = some (.cells #[.slice a l c, .slice a' l' c'] 29 (0, 0)) ∧ Rx excL 33 w a l c X ∧ Rx bndL 35 w a' l' c' B ∧ ¬ rowB a r ∧ ¬ rowB a' r
theorem RTb.no {w w' : World} {r : Nat} {X : List Exc} {B : List Bnd} (h : RTb w r X B) (hm : Mod no w w') : RTb w' r X B := by
  obtain ⟨a, l, c, a', l', c', h1, h2, h3, h4, h5⟩ := h.ex
  exact ⟨a, l, c, a', l', c', hm.at' h1, h2.no hm, h3.no hm, h4, h5⟩
section
variable {w : World} {r : Nat} {X : List Exc} {B : List Bnd} (hR : RTb w r X B)
include hR
theorem findR_ok (n : ByteArray) (hl : X.length < 1000000000) (R : Value → World → Prop) (h : ∀ w', Mod no w w' → R (.tuple #[.agg ⟨(fx n X).cs⟩, .bool (hx n X)]) w') :
    Ca Tryz.prog 43 #[.pointer (some ⟨r, 0, none⟩), .string n] w R := by
  refine ca43 (some ⟨r, 0, none⟩) n w R ?_
  obtain ⟨a, l, c, a', l', c', h1, h2, h3, h4, h5⟩ := hR.ex
  intro w0 e0
  have m0 : Mod no w w0 := by subst e0; exact Mod.alloc _ _
  have b0 : Xc w0 w.heap.size exc0 := by subst e0; exact new_at _ _
  clear e0
  have hxl := h2.len.1
  refine ⟨a, l, c, by rw [cl1 (m0.at' h1)]; rfl, ?_⟩
  refine ⟨fun x w' => ∃ i : Nat, x = i ∧ i ≤ l ∧ Mod no w w' ∧ Xc w' w.heap.size exc0 ∧ findX n X = findX n (X.drop i), fun x _ => ((l : Int) - x).toNat, ⟨0, rfl, by omega, m0, b0, rfl⟩, ?_⟩
  rintro _ _ w9 ⟨i, rfl, hi, m9, b9, he⟩
  refine ifK_dec (fun hlt => ?_) (fun hge => ?_)
  · have hil : i < X.length := by omega
    have hd : X.drop i = at0 X i :: X.drop (i + 1) := by rw [List.drop_eq_getElem_cons hil, at0_eq hil]
    have e1 : IntKind.i64.wrap ((i : Int) + 1) = ((i + 1 : Nat) : Int) := (by first | (simp only [IntKind.wrap_i64]; omega) | omega)
    rw [e1]
    clear e1
    refine (h2.no m9).cellX (by omega) ?_
    intro w14 e14
    have m14 : Mod no w9 w14 := by subst e14; exact Mod.alloc _ _
    have b14 : Xc w14 w9.heap.size exc0 := by subst e14; exact new_at _ _
    clear e14
    refine put3 b14 fun w20 m20 b20 => ⟨_, by rw [cl1 b20]; rfl, ?_⟩
    have m920 : Mod no w9 w20 := m14.new m20 fun k hk => by cases hk; exact Nat.le_refl _
    have hlt9 := lt_of_heap b9
    rw [toList_beq]
    refine ifK_dec (fun hn => ?_) (fun hn => ?_)
    · refine ⟨_, by rw [cl1 b20]; rfl, _, by rw [cl1 b20]; rfl, _, by rw [cl1 b20]; rfl, put3 (m920.at' b9) fun w30 m30 b30 => ?_⟩
      refine ⟨_, by rw [cl1 b30]; rfl, _, by rw [cl1 b30]; rfl, _, by rw [cl1 b30]; rfl, ?_⟩
      have hf : findX n X = some (at0 X i) := by
        rw [he, hd, findX, List.find?_cons]
        have : (n == (at0 X i).n) = true := by rw [hn]; exact beq_self_eq_true _
        rw [this]
      have h' := h w30 ((m9.trans m920).new m30 fun k hk => by cases hk; exact Nat.le_refl _)
      rw [fx, hx, hf] at h'
      exact h'
    · refine ⟨⟨i + 1, rfl, by omega, m9.trans m920, m920.at' b9, ?_⟩, by simp only; omega⟩
      rw [he, hd, findX, List.find?_cons]
      have : (n == (at0 X i).n) = false := beq_false_of_ne fun e => hn e.symm
      rw [this]
      rfl
  · refine put3 b9 fun w39 m39 b39 => ⟨_, by rw [cl1 b39]; rfl, _, by rw [cl1 b39]; rfl, _, by rw [cl1 b39]; rfl, ?_⟩
    have hf : findX n X = none := by rw [he, List.drop_eq_nil_of_le (by omega)]; rfl
    have h' := h w39 (m9.new m39 fun k hk => by cases hk; exact Nat.le_refl _)
    rw [fx, hx, hf] at h'
    exact h'
theorem hasR_ok (b : Bnd) (hl : B.length < 1000000000) (R : Value → World → Prop) (h : ∀ w', Mod no w w' → R (.bool (decide (b ∈ B))) w') :
    Ca Tryz.prog 20 #[.pointer (some ⟨r, 0, none⟩), .agg ⟨b.cs⟩] w R := by
  refine (ca20 (some ⟨r, 0, none⟩) b.x b.q b.p w R ?_ : Ca _ _ _ _ _)
  obtain ⟨a, l, c, a', l', c', h1, h2, h3, h4, h5⟩ := hR.ex
  intro w0 e0
  have m0 : Mod no w w0 := by subst e0; exact Mod.alloc _ _
  have b0 : Bc w0 w.heap.size b := by subst e0; exact new_at _ _
  clear e0
  have hxl := h3.len.1
  refine ⟨a', l', c', by rw [cl1 (m0.at' h1)]; rfl, ?_⟩
  refine ⟨fun x w' => ∃ i : Nat, x = i ∧ i ≤ l' ∧ Mod no w w' ∧ Bc w' w.heap.size b ∧ (b ∈ B ↔ b ∈ B.drop i), fun x _ => ((l' : Int) - x).toNat, ⟨0, rfl, by omega, m0, b0, Iff.rfl⟩, ?_⟩
  rintro _ _ w9 ⟨i, rfl, hi, m9, b9, he⟩
  refine ifK_dec (fun hlt => ?_) (fun hge => ?_)
  · have hil : i < B.length := by omega
    have hd : B.drop i = at0 B i :: B.drop (i + 1) := by rw [List.drop_eq_getElem_cons hil, at0_eq hil]
    have e1 : IntKind.i64.wrap ((i : Int) + 1) = ((i + 1 : Nat) : Int) := (by first | (simp only [IntKind.wrap_i64]; omega) | omega)
    rw [e1]
    clear e1
    refine (h3.no m9).cellB (by omega) ?_
    intro w14 e14
    have m14 : Mod no w9 w14 := by subst e14; exact Mod.alloc _ _
    have b14 : w14.heap[w9.heap.size]? = some (.cells #[.string (ByteArray.mk #[]), .string (ByteArray.mk #[]), .string (ByteArray.mk #[])] 35 (0, 0)) := by subst e14; exact new_at _ _
    clear e14
    refine put3 b14 fun w20 m20 b20 => ?_
    have m920 : Mod no w9 w20 := m14.new m20 fun k hk => by cases hk; exact Nat.le_refl _
    have b9' := m920.at' b9
    refine ⟨_, by rw [cl1 b20]; rfl, _, by rw [cl1 b20]; rfl, _, by rw [cl1 b20]; rfl, _, by rw [cl1 b9']; rfl, _, by rw [cl1 b9']; rfl, _, by rw [cl1 b9']; rfl, ?_⟩
    refine eqA_agg bnd_s.guard (bnd_s.eq (at0 B i) b) (ifK_dec (fun hn => ?_) (fun hn => ?_))
    · have h' := h w20 (m9.trans m920)
      rw [decide_eq_true (he.2 (by rw [hd, hn]; exact List.mem_cons_self ..))] at h'
      exact h'
    · refine ⟨⟨i + 1, rfl, by omega, m9.trans m920, b9', ?_⟩, by simp only; omega⟩
      rw [he, hd, List.mem_cons]
      exact ⟨fun h => h.resolve_left fun e => hn e.symm, .inr⟩
  · have h' := h w9 m9
    rw [decide_eq_false (fun hm => by have := he.1 hm; rw [List.drop_eq_nil_of_le (by omega)] at this; cases this)] at h'
    exact h'
end
end Go.Proofs.YtehhhkcemmfjpaaGreatDoor

/- The formulas of functions, printed by a program of mine (gen.py) out of the translation. -/
namespace Go.Proofs.YtehhhkcemmfjpaaGreatDoor
open Go Go.Proofs.YtehhhkcemmfjpaaGreatDoor.St
open _root_.Go.Value (string int bool slice pointer agg tuple map func nilFunc iface)
open _root_.Go.World (cell? frozen? setCell alloc drew)
open _root_.Go.Addr (add)
open _root_.Go.Obj (cells)
open _root_.Go.IntKind (wrap i64 u64 i32 u32 u8)
set_option maxRecDepth 100000

/-- staith/staithref05.fits -/
noncomputable def C95 : Code := (Tryz.f95.body).getD .skip
def pl95 : Nat → Plan
  | 7 => (.quiet 0 (.quiet 1 (.quiet 2 (.quiet 3 (.quiet 4 (.quiet 5 (.eff 6 [] .done)))))))
  | 12 => (.quiet 0 (.quiet 1 (.quiet 2 (.quiet 3 (.quiet 4 (.quiet 5 (.quiet 6 (.quiet 7 (.quiet 8 (.quiet 9 (.quiet 10 (.quiet 11 (.quiet 12 (.quiet 13 (.quiet 14 (.quiet 15 (.quiet 16 (.quiet 17 (.quiet 18 (.eff 19 [] (.quiet 20 (.quiet 21 .done))))))))))))))))))))))
  | _ => .done
def ls95 : Nat → List (Nat × LT)
  | 8 => [(7, (.one (.int .i64)))]
  | _ => []
def W95 (pa : Option Addr) (pl : Nat) (pc : Nat) (ka : Option Addr) (kl : Nat) (kc : Nat) (over : Bool) (w : World) (R : Value → World → Prop) : Prop :=
  (ifK ((↑pl : Int) == 0)
(R (bool ((↑kl : Int) == 0)) (w))
(∃ a0 : Addr, ((pa = some a0) ∧ (((0 : Int) ≤ 0) ∧ (((0 : Int) < (↑pl : Int)) ∧ (∃ s1 : ByteArray, ((cell? w (add a0 0) = some (string s1)) ∧ (ifK (ByteArray.toList s1 == ByteArray.toList (ByteArray.mk #[35]))
(∃ z2 : Int → World → Prop, (∃ z3 : Int → World → Nat, ((z2 (0) (w)) ∧ (∀ (_ : Nat → Value), (∀ (x5 : Int), (∀ (w6 : World), ((z2 (x5) (w6)) → (ifK (decide (x5 ≤ (↑kl : Int)))
(atW (drew w6) (fun w7 =>
(((0 : Int) ≤ 1) ∧ (((1 : Int) ≤ (↑pl : Int)) ∧ ((((↑pl : Int) : Int) ≤ (↑pc : Int)) ∧ (((0 : Int) ≤ x5) ∧ (((x5 : Int) ≤ (↑kl : Int)) ∧ ((((↑kl : Int) : Int) ≤ (↑kc : Int)) ∧ (Ca Tryz.prog (95) (Array.mk [slice (if pc = 1 then pa else Option.map (fun x => add x 1) pa) (Int.toNat (↑pl : Int) - 1) (pc - 1), slice (if kc = Int.toNat x5 then ka else Option.map (fun x => add x (Int.toNat x5 * 1)) ka) (Int.toNat (↑kl : Int) - Int.toNat x5) (kc - Int.toNat x5), bool over]) (w7) (fun v8 => (fun w9 =>
(∃ b10 : Bool, ((v8 = bool b10) ∧ (ifK (b10)
(R (bool true) (w9))
((z2 (wrap i64 (x5 + 1)) (w9)) ∧ (z3 (wrap i64 (x5 + 1)) w9 < z3 x5 w6))))))))))))))))
(R (bool false) (w6))))))))))
(ifK ((↑kl : Int) == 0)
(R (bool false) (w))
(ifK (over)
(∃ a11 : Addr, ((ka = some a11) ∧ (((0 : Int) ≤ 0) ∧ (((0 : Int) < (↑kl : Int)) ∧ (∃ s12 : ByteArray, ((cell? w (add a11 0) = some (string s12)) ∧ (ifK (ByteArray.toList s12 == ByteArray.toList (ByteArray.mk #[35]))
(R (bool false) (w))
(atW (drew w) (fun w13 =>
(∃ a14 : Addr, ((pa = some a14) ∧ (((0 : Int) ≤ 0) ∧ (((0 : Int) < (↑pl : Int)) ∧ (∃ s15 : ByteArray, ((cell? w13 (add a14 0) = some (string s15)) ∧ (ifK (ByteArray.toList s15 == ByteArray.toList (ByteArray.mk #[42]))
(((0 : Int) ≤ 1) ∧ (((1 : Int) ≤ (↑pl : Int)) ∧ ((((↑pl : Int) : Int) ≤ (↑pc : Int)) ∧ (((0 : Int) ≤ 1) ∧ (((1 : Int) ≤ (↑kl : Int)) ∧ ((((↑kl : Int) : Int) ≤ (↑kc : Int)) ∧ (Ca Tryz.prog (95) (Array.mk [slice (if pc = 1 then pa else Option.map (fun x => add x 1) pa) (Int.toNat (↑pl : Int) - 1) (pc - 1), slice (if kc = 1 then ka else Option.map (fun x => add x 1) ka) (Int.toNat (↑kl : Int) - 1) (kc - 1), bool over]) (w13) (fun v16 => (fun w17 =>
(∃ b18 : Bool, ((v16 = bool b18) ∧ (R (bool b18) (w17)))))))))))))
(∃ a19 : Addr, ((pa = some a19) ∧ (((0 : Int) ≤ 0) ∧ (((0 : Int) < (↑pl : Int)) ∧ (∃ s20 : ByteArray, ((cell? w13 (add a19 0) = some (string s20)) ∧ (∃ a21 : Addr, ((ka = some a21) ∧ (((0 : Int) ≤ 0) ∧ (((0 : Int) < (↑kl : Int)) ∧ (∃ s22 : ByteArray, ((cell? w13 (add a21 0) = some (string s22)) ∧ (ifK (ByteArray.toList s20 == ByteArray.toList s22)
(((0 : Int) ≤ 1) ∧ (((1 : Int) ≤ (↑pl : Int)) ∧ ((((↑pl : Int) : Int) ≤ (↑pc : Int)) ∧ (((0 : Int) ≤ 1) ∧ (((1 : Int) ≤ (↑kl : Int)) ∧ ((((↑kl : Int) : Int) ≤ (↑kc : Int)) ∧ (Ca Tryz.prog (95) (Array.mk [slice (if pc = 1 then pa else Option.map (fun x => add x 1) pa) (Int.toNat (↑pl : Int) - 1) (pc - 1), slice (if kc = 1 then ka else Option.map (fun x => add x 1) ka) (Int.toNat (↑kl : Int) - 1) (kc - 1), bool over]) (w13) (fun v23 => (fun w24 =>
(∃ b25 : Bool, ((v23 = bool b25) ∧ (R (bool b25) (w24)))))))))))))
(R (bool false) (w13)))))))))))))))))))))))))))))))
(atW (drew w) (fun w26 =>
(∃ a27 : Addr, ((pa = some a27) ∧ (((0 : Int) ≤ 0) ∧ (((0 : Int) < (↑pl : Int)) ∧ (∃ s28 : ByteArray, ((cell? w26 (add a27 0) = some (string s28)) ∧ (ifK (ByteArray.toList s28 == ByteArray.toList (ByteArray.mk #[42]))
(((0 : Int) ≤ 1) ∧ (((1 : Int) ≤ (↑pl : Int)) ∧ ((((↑pl : Int) : Int) ≤ (↑pc : Int)) ∧ (((0 : Int) ≤ 1) ∧ (((1 : Int) ≤ (↑kl : Int)) ∧ ((((↑kl : Int) : Int) ≤ (↑kc : Int)) ∧ (Ca Tryz.prog (95) (Array.mk [slice (if pc = 1 then pa else Option.map (fun x => add x 1) pa) (Int.toNat (↑pl : Int) - 1) (pc - 1), slice (if kc = 1 then ka else Option.map (fun x => add x 1) ka) (Int.toNat (↑kl : Int) - 1) (kc - 1), bool over]) (w26) (fun v29 => (fun w30 =>
(∃ b31 : Bool, ((v29 = bool b31) ∧ (R (bool b31) (w30)))))))))))))
(∃ a32 : Addr, ((pa = some a32) ∧ (((0 : Int) ≤ 0) ∧ (((0 : Int) < (↑pl : Int)) ∧ (∃ s33 : ByteArray, ((cell? w26 (add a32 0) = some (string s33)) ∧ (∃ a34 : Addr, ((ka = some a34) ∧ (((0 : Int) ≤ 0) ∧ (((0 : Int) < (↑kl : Int)) ∧ (∃ s35 : ByteArray, ((cell? w26 (add a34 0) = some (string s35)) ∧ (ifK (ByteArray.toList s33 == ByteArray.toList s35)
(((0 : Int) ≤ 1) ∧ (((1 : Int) ≤ (↑pl : Int)) ∧ ((((↑pl : Int) : Int) ≤ (↑pc : Int)) ∧ (((0 : Int) ≤ 1) ∧ (((1 : Int) ≤ (↑kl : Int)) ∧ ((((↑kl : Int) : Int) ≤ (↑kc : Int)) ∧ (Ca Tryz.prog (95) (Array.mk [slice (if pc = 1 then pa else Option.map (fun x => add x 1) pa) (Int.toNat (↑pl : Int) - 1) (pc - 1), slice (if kc = 1 then ka else Option.map (fun x => add x 1) ka) (Int.toNat (↑kl : Int) - 1) (kc - 1), bool over]) (w26) (fun v36 => (fun w37 =>
(∃ b38 : Bool, ((v36 = bool b38) ∧ (R (bool b38) (w37)))))))))))))
(R (bool false) (w26))))))))))))))))))))))))))))))))))
theorem ca95 (pa : Option Addr) (pl : Nat) (pc : Nat) (ka : Option Addr) (kl : Nat) (kc : Nat) (over : Bool) (w : World) (R : Value → World → Prop) (h : W95 pa pl pc ka kl kc over w R) : Ca Tryz.prog 95 ⟨[(.slice pa pl pc), (.slice ka kl kc), (.bool over)]⟩ w R :=
  caB (fn := Tryz.f95) (pl := pl95) (ls := ls95) Tryz.func95 (by kernel_rfl) (by kernel_rfl) h

/-- staith/staithref05.Match -/
noncomputable def C69 : Code := (Tryz.f69.body).getD .skip
def pl69 : Nat → Plan := fun _ => .done
def ls69 : Nat → List (Nat × LT) := fun _ => []
def W69 (pattern : ByteArray) (key : ByteArray) (w : World) (R : Value → World → Prop) : Prop :=
  (Ca Tryz.prog (94) (Array.mk [string pattern]) (w) (fun v0 => (fun w1 =>
(∃ b2 : Bool, ((v0 = bool b2) ∧ (ifK (b2)
(Ca Tryz.prog (68) (Array.mk [string key]) (w1) (fun v3 => (fun w4 =>
(∃ b5 : Bool, ((v3 = bool b5) ∧ (ifK (b5)
(Ca Tryz.prog (96) (Array.mk [string pattern]) (w4) (fun v6 => (fun w7 =>
(∃ p8 : Option Addr, (∃ n9 : Nat, (∃ n10 : Nat, ((v6 = slice p8 n9 n10) ∧ (Ca Tryz.prog (96) (Array.mk [string key]) (w7) (fun v11 => (fun w12 =>
(∃ p13 : Option Addr, (∃ n14 : Nat, (∃ n15 : Nat, ((v11 = slice p13 n14 n15) ∧ (Ca Tryz.prog (95) (Array.mk [slice p8 n9 n10, slice p13 n14 n15, bool false]) (w12) (fun v16 => (fun w17 =>
(∃ b18 : Bool, ((v16 = bool b18) ∧ (R (bool b18) (w17)))))))))))))))))))))
(R (bool false) (w4))))))))
(R (bool false) (w1))))))))
theorem ca69 (pattern : ByteArray) (key : ByteArray) (w : World) (R : Value → World → Prop) (h : W69 pattern key w R) : Ca Tryz.prog 69 ⟨[(.string pattern), (.string key)]⟩ w R :=
  caB (fn := Tryz.f69) (pl := pl69) (ls := ls69) Tryz.func69 (by kernel_rfl) (by kernel_rfl) h

/-- staith/staithref08.Fits -/
noncomputable def C33 : Code := (Tryz.f33.body).getD .skip
def pl33 : Nat → Plan := fun _ => .done
def ls33 : Nat → List (Nat × LT) := fun _ => []
def W33 (x0_ : ByteArray) (x1_ : Int) (x2_ : Bool) (pattern : ByteArray) (key : ByteArray) (w : World) (R : Value → World → Prop) : Prop :=
  (atW (alloc w (cells (Array.mk [string x0_, int i64 x1_, bool x2_]) 33 (0, 0))) (fun w0 =>
(∃ s1 : ByteArray, ((cell? w0 (add (nw w) 0) = some (string s1)) ∧ (∃ x2 : Int, ((cell? w0 (add (nw w) 1) = some (int i64 x2)) ∧ (∃ b3 : Bool, ((cell? w0 (add (nw w) 2) = some (bool b3)) ∧ (Ca Tryz.prog (37) (Array.mk [agg (Array.mk (List.reverse [bool b3, int i64 x2, string s1]))]) (w0) (fun v4 => (fun w5 =>
(∃ b6 : Bool, ((v4 = bool b6) ∧ (ifK (!b6)
(R (bool false) (w5))
(Ca Tryz.prog (68) (Array.mk [string key]) (w5) (fun v7 => (fun w8 =>
(∃ b9 : Bool, ((v7 = bool b9) ∧ (ifK (!b9)
(R (bool false) (w8))
(∃ x10 : Int, ((cell? w8 (add (nw w) 1) = some (int i64 x10)) ∧ (ifK (x10 == 1)
(R (bool (ByteArray.toList pattern == ByteArray.toList key)) (w8))
(ifK (x10 == 2)
(R (bool (ByteArray.toList pattern == ByteArray.toList (ByteArray.mk #[]))) (w8))
(Ca Tryz.prog (69) (Array.mk [string pattern, string key]) (w8) (fun v11 => (fun w12 =>
(∃ b13 : Bool, ((v11 = bool b13) ∧ (R (bool b13) (w12)))))))))))))))))))))))))))))))
theorem ca33 (x0_ : ByteArray) (x1_ : Int) (x2_ : Bool) (pattern : ByteArray) (key : ByteArray) (w : World) (R : Value → World → Prop) (h : W33 x0_ x1_ x2_ pattern key w R) : Ca Tryz.prog 33 ⟨[(.agg ⟨[(.string x0_), (.int .i64 x1_), (.bool x2_)]⟩), (.string pattern), (.string key)]⟩ w R :=
  caB (fn := Tryz.f33) (pl := pl33) (ls := ls33) Tryz.func33 (by kernel_rfl) (by kernel_rfl) h

/-- staith/staithref08.add -/
noncomputable def C63 : Code := (Tryz.f63.body).getD .skip
def pl63 : Nat → Plan := fun _ => .done
def ls63 : Nat → List (Nat × LT)
  | 3 => [(0, .agg []), (5, (.one .slice)), (6, (.one .bool))]
  | 5 => [(5, (.one .slice)), (6, (.one .bool)), (11, (.one (.int .i64)))]
  | _ => []
def W63 (la : Option Addr) (ll : Nat) (_lc : Nat) (s : ByteArray) (w : World) (R : Value → World → Prop) : Prop :=
  (∃ z0 : Option Addr → Nat → Nat → Bool → World → Prop, ((∃ z1 : Option Addr → Nat → Nat → Bool → Int → World → Prop, (∃ z2 : Option Addr → Nat → Nat → Bool → Int → World → Nat, ((z1 (none) (0) (0) (false) (0) (w)) ∧ (∀ (_ : Nat → Value), (∀ (p4 : Option Addr), (∀ (n5 : Nat), (∀ (n6 : Nat), (∀ (b7 : Bool), (∀ (x8 : Int), (∀ (w9 : World), ((z1 (p4) (n5) (n6) (b7) (x8) (w9)) → (ifK (decide (x8 < (↑ll : Int)))
(∃ a10 : Addr, ((la = some a10) ∧ (((0 : Int) ≤ x8) ∧ (((x8 : Int) < (↑ll : Int)) ∧ (∃ s11 : ByteArray, ((cell? w9 (add a10 (Int.toNat x8 * 1)) = some (string s11)) ∧ (ifK (!Op.bytesLess (ByteArray.toList s11) (ByteArray.toList s))
(ifK (!b7)
(atW (alloc w9 (cells (Array.mk [string s]) 9 (0, 0))) (fun w12 =>
(∃ v13 : Value, (∃ w14 : World, ((Sem.run Tryz.prog (Builtin.append_ (Array.mk [55, 55]) 55 (Array.mk [slice p4 n5 n6, slice (some (nw w9)) 1 1])) w12 = Result.ok v13 w14) ∧ (∃ p15 : Option Addr, (∃ n16 : Nat, (∃ n17 : Nat, ((v13 = slice p15 n16 n17) ∧ (ifK (!ByteArray.toList s11 == ByteArray.toList s)
(atW (alloc w14 (cells (Array.mk [string s11]) 9 (0, 0))) (fun w18 =>
(∃ v19 : Value, (∃ w20 : World, ((Sem.run Tryz.prog (Builtin.append_ (Array.mk [55, 55]) 55 (Array.mk [slice p15 n16 n17, slice (some (nw w14)) 1 1])) w18 = Result.ok v19 w20) ∧ (∃ p21 : Option Addr, (∃ n22 : Nat, (∃ n23 : Nat, ((v19 = slice p21 n22 n23) ∧ ((z1 (p21) (n22) (n23) (true) (wrap i64 (x8 + 1)) (w20)) ∧ (z2 p21 n22 n23 true (wrap i64 (x8 + 1)) w20 < z2 p4 n5 n6 b7 x8 w9)))))))))))
((z1 (p15) (n16) (n17) (true) (wrap i64 (x8 + 1)) (w14)) ∧ (z2 p15 n16 n17 true (wrap i64 (x8 + 1)) w14 < z2 p4 n5 n6 b7 x8 w9))))))))))))
(ifK (!ByteArray.toList s11 == ByteArray.toList s)
(atW (alloc w9 (cells (Array.mk [string s11]) 9 (0, 0))) (fun w24 =>
(∃ v25 : Value, (∃ w26 : World, ((Sem.run Tryz.prog (Builtin.append_ (Array.mk [55, 55]) 55 (Array.mk [slice p4 n5 n6, slice (some (nw w9)) 1 1])) w24 = Result.ok v25 w26) ∧ (∃ p27 : Option Addr, (∃ n28 : Nat, (∃ n29 : Nat, ((v25 = slice p27 n28 n29) ∧ ((z1 (p27) (n28) (n29) (b7) (wrap i64 (x8 + 1)) (w26)) ∧ (z2 p27 n28 n29 b7 (wrap i64 (x8 + 1)) w26 < z2 p4 n5 n6 b7 x8 w9)))))))))))
((z1 (p4) (n5) (n6) (b7) (wrap i64 (x8 + 1)) (w9)) ∧ (z2 p4 n5 n6 b7 (wrap i64 (x8 + 1)) w9 < z2 p4 n5 n6 b7 x8 w9))))
(ifK (!ByteArray.toList s11 == ByteArray.toList s)
(atW (alloc w9 (cells (Array.mk [string s11]) 9 (0, 0))) (fun w30 =>
(∃ v31 : Value, (∃ w32 : World, ((Sem.run Tryz.prog (Builtin.append_ (Array.mk [55, 55]) 55 (Array.mk [slice p4 n5 n6, slice (some (nw w9)) 1 1])) w30 = Result.ok v31 w32) ∧ (∃ p33 : Option Addr, (∃ n34 : Nat, (∃ n35 : Nat, ((v31 = slice p33 n34 n35) ∧ ((z1 (p33) (n34) (n35) (b7) (wrap i64 (x8 + 1)) (w32)) ∧ (z2 p33 n34 n35 b7 (wrap i64 (x8 + 1)) w32 < z2 p4 n5 n6 b7 x8 w9)))))))))))
((z1 (p4) (n5) (n6) (b7) (wrap i64 (x8 + 1)) (w9)) ∧ (z2 p4 n5 n6 b7 (wrap i64 (x8 + 1)) w9 < z2 p4 n5 n6 b7 x8 w9))))))))))
(z0 (p4) (n5) (n6) (b7) (w9)))))))))))))) ∧ (∀ (_ : Nat → Value), (∀ (p37 : Option Addr), (∀ (n38 : Nat), (∀ (n39 : Nat), (∀ (b40 : Bool), (∀ (w41 : World), ((z0 (p37) (n38) (n39) (b40) (w41)) → (ifK (!b40)
(atW (alloc w41 (cells (Array.mk [string s]) 9 (0, 0))) (fun w42 =>
(∃ v43 : Value, (∃ w44 : World, ((Sem.run Tryz.prog (Builtin.append_ (Array.mk [55, 55]) 55 (Array.mk [slice p37 n38 n39, slice (some (nw w41)) 1 1])) w42 = Result.ok v43 w44) ∧ (∃ p45 : Option Addr, (∃ n46 : Nat, (∃ n47 : Nat, ((v43 = slice p45 n46 n47) ∧ (R (slice p45 n46 n47) (w44)))))))))))
(R (slice p37 n38 n39) (w41))))))))))))
theorem ca63 (la : Option Addr) (ll : Nat) (lc : Nat) (s : ByteArray) (w : World) (R : Value → World → Prop) (h : W63 la ll lc s w R) : Ca Tryz.prog 63 ⟨[(.slice la ll lc), (.string s)]⟩ w R :=
  caB (fn := Tryz.f63) (pl := pl63) (ls := ls63) Tryz.func63 (by kernel_rfl) (by kernel_rfl) h

/-- staith/staithref08.Queues -/
noncomputable def C29 : Code := (Tryz.f29.body).getD .skip
def pl29 : Nat → Plan := fun _ => .done
def ls29 : Nat → List (Nat × LT)
  | 5 => [(9, (.one .slice)), (23, (.one (.int .i64)))]
  | _ => []
def W29 (t : Option Addr) (exchange : ByteArray) (key : ByteArray) (w : World) (R : Value → World → Prop) : Prop :=
  (Ca Tryz.prog (43) (Array.mk [pointer t, string exchange]) (w) (fun v0 => (fun w1 =>
(∃ s2 : ByteArray, (∃ x3 : Int, (∃ b4 : Bool, (∃ b5 : Bool, ((v0 = tuple (Array.mk (List.reverse [bool b5, agg (Array.mk (List.reverse [bool b4, int i64 x3, string s2]))]))) ∧ (atW (alloc w1 (cells (Array.mk [string (ByteArray.mk #[]), int i64 0, bool false]) 33 (0, 0))) (fun w6 =>
(st1 (add (nw w1) 0) (string s2) w6 (fun w8 =>
(st1 (add (nw w1) 1) (int i64 x3) w8 (fun w10 =>
(st1 (add (nw w1) 2) (bool b4) w10 (fun w12 =>
(onP (t) (fun a13 =>
(∃ p14 : Option Addr, (∃ n15 : Nat, (∃ n16 : Nat, ((cell? w12 (add a13 1) = some (slice p14 n15 n16)) ∧ (∃ z17 : Option Addr → Nat → Nat → Int → World → Prop, (∃ z18 : Option Addr → Nat → Nat → Int → World → Nat, ((z17 (none) (0) (0) (0) (w12)) ∧ (∀ (_ : Nat → Value), (∀ (p20 : Option Addr), (∀ (n21 : Nat), (∀ (n22 : Nat), (∀ (x23 : Int), (∀ (w24 : World), ((z17 (p20) (n21) (n22) (x23) (w24)) → (ifK (decide (x23 < (↑n15 : Int)))
(∃ a25 : Addr, ((p14 = some a25) ∧ (((0 : Int) ≤ x23) ∧ (((x23 : Int) < (↑n15 : Int)) ∧ (∃ s26 : ByteArray, ((cell? w24 (add (add a25 (Int.toNat x23 * 3)) 0) = some (string s26)) ∧ (∃ s27 : ByteArray, ((cell? w24 (add (add a25 (Int.toNat x23 * 3)) 1) = some (string s27)) ∧ (∃ s28 : ByteArray, ((cell? w24 (add (add a25 (Int.toNat x23 * 3)) 2) = some (string s28)) ∧ (atW (alloc w24 (cells (Array.mk [string (ByteArray.mk #[]), string (ByteArray.mk #[]), string (ByteArray.mk #[])]) 35 (0, 0))) (fun w29 =>
(st1 (add (nw w24) 0) (string s26) w29 (fun w31 =>
(st1 (add (nw w24) 1) (string s27) w31 (fun w33 =>
(st1 (add (nw w24) 2) (string s28) w33 (fun w35 =>
(ifK (b5)
(∃ s36 : ByteArray, ((cell? w35 (add (nw w24) 0) = some (string s36)) ∧ (ifK (ByteArray.toList s36 == ByteArray.toList exchange)
(∃ s37 : ByteArray, ((cell? w35 (add (nw w1) 0) = some (string s37)) ∧ (∃ x38 : Int, ((cell? w35 (add (nw w1) 1) = some (int i64 x38)) ∧ (∃ b39 : Bool, ((cell? w35 (add (nw w1) 2) = some (bool b39)) ∧ (∃ s40 : ByteArray, ((cell? w35 (add (nw w24) 2) = some (string s40)) ∧ (Ca Tryz.prog (33) (Array.mk [agg (Array.mk (List.reverse [bool b39, int i64 x38, string s37])), string s40, string key]) (w35) (fun v41 => (fun w42 =>
(∃ b43 : Bool, ((v41 = bool b43) ∧ (ifK (b43)
(∃ s44 : ByteArray, ((cell? w42 (add (nw w24) 1) = some (string s44)) ∧ (Ca Tryz.prog (63) (Array.mk [slice p20 n21 n22, string s44]) (w42) (fun v45 => (fun w46 =>
(∃ p47 : Option Addr, (∃ n48 : Nat, (∃ n49 : Nat, ((v45 = slice p47 n48 n49) ∧ ((z17 (p47) (n48) (n49) (wrap i64 (x23 + 1)) (w46)) ∧ (z18 p47 n48 n49 (wrap i64 (x23 + 1)) w46 < z18 p20 n21 n22 x23 w24)))))))))))
((z17 (p20) (n21) (n22) (wrap i64 (x23 + 1)) (w42)) ∧ (z18 p20 n21 n22 (wrap i64 (x23 + 1)) w42 < z18 p20 n21 n22 x23 w24))))))))))))))))
((z17 (p20) (n21) (n22) (wrap i64 (x23 + 1)) (w35)) ∧ (z18 p20 n21 n22 (wrap i64 (x23 + 1)) w35 < z18 p20 n21 n22 x23 w24)))))
((z17 (p20) (n21) (n22) (wrap i64 (x23 + 1)) (w35)) ∧ (z18 p20 n21 n22 (wrap i64 (x23 + 1)) w35 < z18 p20 n21 n22 x23 w24)))))))))))))))))))))
(R (slice p20 n21 n22) (w24)))))))))))))))))))))))))))))))))))
theorem ca29 (t : Option Addr) (exchange : ByteArray) (key : ByteArray) (w : World) (R : Value → World → Prop) (h : W29 t exchange key w R) : Ca Tryz.prog 29 ⟨[(.pointer t), (.string exchange), (.string key)]⟩ w R :=
  caB (fn := Tryz.f29) (pl := pl29) (ls := ls29) Tryz.func29 (by kernel_rfl) (by kernel_rfl) h

/-- staith/staithref08.Who -/
noncomputable def C31 : Code := (Tryz.f31.body).getD .skip
def pl31 : Nat → Plan := fun _ => .done
def ls31 : Nat → List (Nat × LT)
  | 4 => [(5, (.one .slice)), (13, (.one (.int .i64)))]
  | _ => []
def W31 (t : Option Addr) (queue : ByteArray) (w : World) (R : Value → World → Prop) : Prop :=
  (onP (t) (fun a0 =>
(∃ p1 : Option Addr, (∃ n2 : Nat, (∃ n3 : Nat, ((cell? w (add a0 1) = some (slice p1 n2 n3)) ∧ (∃ z4 : Option Addr → Nat → Nat → Int → World → Prop, (∃ z5 : Option Addr → Nat → Nat → Int → World → Nat, ((z4 (none) (0) (0) (0) (w)) ∧ (∀ (_ : Nat → Value), (∀ (p7 : Option Addr), (∀ (n8 : Nat), (∀ (n9 : Nat), (∀ (x10 : Int), (∀ (w11 : World), ((z4 (p7) (n8) (n9) (x10) (w11)) → (ifK (decide (x10 < (↑n2 : Int)))
(∃ a12 : Addr, ((p1 = some a12) ∧ (((0 : Int) ≤ x10) ∧ (((x10 : Int) < (↑n2 : Int)) ∧ (∃ s13 : ByteArray, ((cell? w11 (add (add a12 (Int.toNat x10 * 3)) 0) = some (string s13)) ∧ (∃ s14 : ByteArray, ((cell? w11 (add (add a12 (Int.toNat x10 * 3)) 1) = some (string s14)) ∧ (∃ s15 : ByteArray, ((cell? w11 (add (add a12 (Int.toNat x10 * 3)) 2) = some (string s15)) ∧ (atW (alloc w11 (cells (Array.mk [string (ByteArray.mk #[]), string (ByteArray.mk #[]), string (ByteArray.mk #[])]) 35 (0, 0))) (fun w16 =>
(st1 (add (nw w11) 0) (string s13) w16 (fun w18 =>
(st1 (add (nw w11) 1) (string s14) w18 (fun w20 =>
(st1 (add (nw w11) 2) (string s15) w20 (fun w22 =>
(∃ s23 : ByteArray, ((cell? w22 (add (nw w11) 1) = some (string s23)) ∧ (ifK (ByteArray.toList s23 == ByteArray.toList queue)
(∃ s24 : ByteArray, ((cell? w22 (add (nw w11) 0) = some (string s24)) ∧ (Ca Tryz.prog (63) (Array.mk [slice p7 n8 n9, string s24]) (w22) (fun v25 => (fun w26 =>
(∃ p27 : Option Addr, (∃ n28 : Nat, (∃ n29 : Nat, ((v25 = slice p27 n28 n29) ∧ ((z4 (p27) (n28) (n29) (wrap i64 (x10 + 1)) (w26)) ∧ (z5 p27 n28 n29 (wrap i64 (x10 + 1)) w26 < z5 p7 n8 n9 x10 w11)))))))))))
((z4 (p7) (n8) (n9) (wrap i64 (x10 + 1)) (w22)) ∧ (z5 p7 n8 n9 (wrap i64 (x10 + 1)) w22 < z5 p7 n8 n9 x10 w11)))))))))))))))))))))))
(R (slice p7 n8 n9) (w11)))))))))))))))))))
theorem ca31 (t : Option Addr) (queue : ByteArray) (w : World) (R : Value → World → Prop) (h : W31 t queue w R) : Ca Tryz.prog 31 ⟨[(.pointer t), (.string queue)]⟩ w R :=
  caB (fn := Tryz.f31) (pl := pl31) (ls := ls31) Tryz.func31 (by kernel_rfl) (by kernel_rfl) h
end Go.Proofs.YtehhhkcemmfjpaaGreatDoor

/- The reference's fits, Match, Fits, add, Queues, Who; Texts. -/
namespace Go.Proofs.YtehhhkcemmfjpaaGreatDoor
open Go Go.Proofs.YtehhhkcemmfjpaaGreatDoor Go.Proofs.YtehhhkcemmfjpaaGreatDoor.St

theorem AStr.tail {w : World} {a : Option Addr} {l c : Nat} {xs : List ByteArray} (h : AStr w a l c xs) {k : Nat} (hk : k ≤ l) : AStr w (if c = k then a else Option.map (fun x => Addr.add x (k * 1)) a) (l - k) (c - k) (xs.drop k) := by
  have hl := h.len
  have hlc := h.lc
  have hcm := h.cm
  refine ⟨by rw [List.length_drop]; omega, by omega, by omega, fun ad had hpos => ?_, fun i hi => ?_⟩
  · rw [if_neg (by omega)] at had
    cases a with
    | none => cases had
    | some ad0 =>
      cases had
      rw [add_block]
      exact h.blk ad0 rfl (by omega)
  · rw [List.length_drop] at hi
    obtain ⟨ad, had, hg⟩ := h.get (k + i) (by omega)
    rw [if_neg (by omega), had, Option.map_some]
    refine ⟨_, rfl, fun j v hj => ?_⟩
    rw [List.getElem_drop] at hj
    have := hg j v hj
    have e : Addr.add (Addr.add ad (k * 1)) (i * (oneL Value.string (fun _ => rfl)).s) = Addr.add ad ((k + i) * (oneL Value.string (fun _ => rfl)).s) := by
      rw [Go.Deep.add_add]
      show Addr.add ad (k * 1 + i * 1) = Addr.add ad ((k + i) * 1)
      rw [Nat.add_mul]
    rw [e]
    exact this
theorem AStr.rd0 {w : World} {a : Option Addr} {l c : Nat} {x : ByteArray} {xs : List ByteArray} (h : AStr w a l c (x :: xs)) {K : ByteArray → Prop} (hK : K x) : ∃ ad : Addr, a = some ad ∧ (0 : Int) ≤ 0 ∧ (0 : Int) < (↑l : Int) ∧ ∃ s : ByteArray, w.cell? (Addr.add ad 0) = some (.string s) ∧ K s := by
  have hl := h.len
  simp only [List.length_cons] at hl
  obtain ⟨ad, had, hg⟩ := h.get 0 (by simp)
  have := hg 0 (.string x) rfl
  rw [Go.Deep.add_add] at this
  exact ⟨ad, had, by omega, by omega, x, by simpa using this, hK⟩
theorem fitsB_hash (ps ks : List ByteArray) (φ : ByteArray → ByteArray → Bool) : fitsB φ (hashW :: ps) ks = true ↔ ∃ i, i ≤ ks.length ∧ fitsB φ ps (ks.drop i) = true := by
  rw [fitsB_iff, fits_hash]
  constructor
  · rintro ⟨i, h1, h2⟩; exact ⟨i, h1, fitsB_iff.2 h2⟩
  · rintro ⟨i, h1, h2⟩; exact ⟨i, h1, fitsB_iff.1 h2⟩
theorem fitsB_cons {p : ByteArray} (hp : p ≠ hashW) (ps : List ByteArray) (k : ByteArray) (ks : List ByteArray) (φ : ByteArray → ByteArray → Bool) : fitsB φ (p :: ps) (k :: ks) = (φ p k && fitsB φ ps ks) := by
  refine fitsB_eq ?_
  rw [fits_word hp, Bool.and_eq_true, fitsB_iff]
  constructor
  · rintro ⟨w, ws, he, h1, h2⟩; cases he; exact ⟨h1, h2⟩
  · rintro ⟨h1, h2⟩; exact ⟨k, ks, rfl, h1, h2⟩
theorem fitsB_none {p : ByteArray} (hp : p ≠ hashW) (ps : List ByteArray) (φ : ByteArray → ByteArray → Bool) : fitsB φ (p :: ps) [] = false := by
  refine fitsB_eq ?_
  rw [fits_word hp]
  constructor
  · rintro ⟨w, ws, he, _⟩; cases he
  · intro h; cases h
theorem fitsR_ok : ∀ (ps : List ByteArray) (pa : Option Addr) (pl pc : Nat) (ks : List ByteArray) (ka : Option Addr) (kl kc : Nat) (w : World), AStr w pa pl pc ps → AStr w ka kl kc ks → kl < 1000000000 → ∀ R : Value → World → Prop, (∀ w', Mod St.no w w' → R (.bool (fitsB oneB ps ks)) w') →
    Ca Tryz.prog 95 #[.slice pa pl pc, .slice ka kl kc, .bool false] w R
  | [], pa, pl, pc, ks, ka, kl, kc, w, hp, hk, hkl, R, h => by
    refine ca95 pa pl pc ka kl kc false w R ?_
    have e1 := hp.len
    have e2 := hk.len
    have e0 : pl = 0 := by simpa using e1.symm
    subst e0
    refine (ifK_of (fun _ => ?_) (fun h => by cases h) : ifK true _ _)
    have h' := h w (Mod.refl _ _)
    have : fitsB oneB [] ks = ((kl : Int) == 0) := by
      refine fitsB_eq ?_
      show ks = [] ↔ _
      rw [beq_iff_eq]
      constructor
      · rintro rfl; simp at e2; omega
      · intro h0; exact List.eq_nil_of_length_eq_zero (by omega)
    rw [this] at h'
    exact h'
  | p :: ps, pa, pl, pc, ks, ka, kl, kc, w, hp, hk, hkl, R, h => by
    refine ca95 pa pl pc ka kl kc false w R ?_
    have e1 := hp.len
    have e2 := hk.len
    simp only [List.length_cons] at e1
    have hplc := hp.lc
    have hklc := hk.lc
    refine ifK_eq (fun h0 => by omega) (fun _ => ?_)
    have tp : AStr w (if pc = 1 then pa else Option.map (fun x => Addr.add x 1) pa) (pl - 1) (pc - 1) ps := hp.tail (k := 1) (by omega)
    refine hp.rd0 ?_
    rw [byte_eq]
    refine ifK_dec (fun hh => ?_) (fun hh => ?_)
    · have hh : p = hashW := hh
      subst hh
      refine ⟨fun x w' => ∃ i : Nat, x = i ∧ i ≤ kl + 1 ∧ Mod St.no w w' ∧ ∀ m, m < i → fitsB oneB ps (ks.drop m) = false, fun x _ => ((kl : Int) + 1 - x).toNat, ⟨0, rfl, Nat.zero_le _, Mod.refl _ _, fun m hm => by omega⟩, ?_⟩
      rintro _ _ w6 ⟨i, rfl, hi, n6, hno⟩
      refine ifK_dec (fun hle => ?_) (fun hgt => ?_)
      · intro w7 e0
        have n7 : Mod no w6 w7 := by subst e0; exact Mod.drew _
        clear e0
        have n07 := n6.trans n7
        refine ⟨by decide, by omega, by omega, by omega, by omega, by omega, ?_⟩
        have tk := AStr.tail (hk.no n07) (k := i) (by omega)
        rw [Int.toNat_natCast]
        refine fitsR_ok ps _ _ _ _ _ _ _ w7 (tp.no n07) tk (by omega) _ fun w9 n9 => ⟨_, rfl, ifK_of (fun hb => ?_) (fun hb => ?_)⟩
        · have h' := h w9 (n07.trans n9)
          rw [(fitsB_hash ps ks oneB).2 ⟨i, by omega, hb⟩] at h'
          exact h'
        · have e1 : IntKind.i64.wrap ((i : Int) + 1) = ((i + 1 : Nat) : Int) := (by first | (simp only [IntKind.wrap_i64]; omega) | omega)
          rw [e1]
          clear e1
          refine ⟨⟨i + 1, rfl, by omega, n07.trans n9, fun m hm => ?_⟩, by simp only; omega⟩
          by_cases e : m = i
          · subst e; exact hb
          · exact hno m (by omega)
      · have h' := h w6 n6
        have : fitsB oneB (hashW :: ps) ks = false := by
          rw [Bool.eq_false_iff]
          intro hc
          obtain ⟨i', h1, h2⟩ := (fitsB_hash ps ks oneB).1 hc
          rw [hno i' (by omega)] at h2
          cases h2
        rw [this] at h'
        exact h'
    · have hh : p ≠ hashW := hh
      refine ifK_eq (fun h0 => ?_) (fun h0 => ?_)
      · have : ks = [] := List.eq_nil_of_length_eq_zero (by omega)
        subst this
        have h' := h w (Mod.refl _ _)
        rw [fitsB_none hh] at h'
        exact h'
      · cases ks with
        | nil => simp at e2; omega
        | cons k ks =>
          simp only [List.length_cons] at e2
          have tk : AStr w (if kc = 1 then ka else Option.map (fun x => Addr.add x 1) ka) (kl - 1) (kc - 1) ks := hk.tail (k := 1) (by omega)
          refine (ifK_of (fun h => by cases h) (fun _ => ?_) : ifK false _ _)
          intro w26 e0
          have n26 : Mod no w w26 := by subst e0; exact Mod.drew _
          clear e0
          have rest : oneB p k = true → Ca Tryz.prog 95 #[.slice (if pc = 1 then pa else Option.map (fun x => Addr.add x 1) pa) (pl - 1) (pc - 1), .slice (if kc = 1 then ka else Option.map (fun x => Addr.add x 1) ka) (kl - 1) (kc - 1), .bool false] w26 fun v w'' => ∃ b, v = .bool b ∧ R (.bool b) w'' := by
            intro ho
            refine fitsR_ok ps _ _ _ _ _ _ _ w26 (tp.no n26) (tk.no n26) (by omega) _ fun w30 n30 => ⟨_, rfl, ?_⟩
            have h' := h w30 (n26.trans n30)
            rw [fitsB_cons hh, ho, Bool.true_and] at h'
            exact h'
          refine AStr.rd0 (hp.no n26) ?_
          rw [byte_eq]
          refine ifK_dec (fun hs => ?_) (fun hs => ?_)
          · exact ⟨by decide, by omega, by omega, by decide, by omega, by omega, rest (by rw [oneB, decide_eq_true (show p = starW from hs), Bool.true_or])⟩
          · refine AStr.rd0 (hp.no n26) (AStr.rd0 (hk.no n26) ?_)
            rw [byte_eq]
            refine ifK_dec (fun he => ?_) (fun he => ?_)
            · exact ⟨by decide, by omega, by omega, by decide, by omega, by omega, rest (by rw [oneB, decide_eq_true he, Bool.or_true])⟩
            · have h' := h w26 n26
              rw [fitsB_cons hh, oneB, decide_eq_false (show ¬ p = starW from hs), decide_eq_false he, Bool.false_or, Bool.false_and] at h'
              exact h'
theorem matchR_ok (p k : ByteArray) (w : World) (R : Value → World → Prop) (h : ∀ w', Mod St.no w w' → R (.bool (matchB p k)) w') : Ca Tryz.prog 69 #[.string p, .string k] w R := by
  refine ca69 p k w R ?_
  refine patR_ok p w _ fun w1 m1 => ⟨_, rfl, ifK_of (fun hb => ?_) (fun hb => ?_)⟩
  · refine keyR_ok k w1 _ fun w4 m4 => ⟨_, rfl, ifK_of (fun hc => ?_) (fun hc => ?_)⟩
    · have z1 := made_small hb
      have z2 := made_small hc
      refine refWords_ok p w4 (by omega) _ fun w7 pa pl pc hx m7 _ => ⟨_, _, _, rfl, ?_⟩
      refine refWords_ok k w7 (by omega) _ fun w12 ka kl kc hy m12 _ => ⟨_, _, _, rfl, ?_⟩
      have l2 := (hy.len).1
      have q2 := madeB_len hc
      refine fitsR_ok _ _ _ _ _ _ _ _ w12 (Els.astr (hx.no m12)) (Els.astr hy) (by omega) _ fun w17 m17 => ⟨_, rfl, ?_⟩
      have h' := h w17 ((((m1.trans m4).trans m7).trans m12).trans m17)
      rw [matchB, hb, hc, Bool.true_and, Bool.true_and] at h'
      exact h'
    · have h' := h w4 (m1.trans m4)
      rw [matchB, hc, Bool.false_and, Bool.and_false] at h'
      exact h'
  · have h' := h w1 m1
    rw [matchB, hb, Bool.false_and] at h'
    exact h'
theorem fitsX_ok (x : Exc) (p key : ByteArray) (w : World) (R : Value → World → Prop) (h : ∀ w', Mod St.no w w' → R (.bool (goesB x p key)) w') : Ca Tryz.prog 33 #[.agg ⟨x.cs⟩, .string p, .string key] w R := by
  refine (ca33 x.n x.k x.f p key w R ?_ : Ca _ _ _ _ _)
  intro w0 e0
  have n0 : Mod no w w0 := by subst e0; exact Mod.alloc _ _
  have b0 : Xc w0 w.heap.size x := by subst e0; exact new_at _ _
  clear e0
  refine ⟨_, by rw [cl1 b0]; rfl, _, by rw [cl1 b0]; rfl, _, by rw [cl1 b0]; rfl, (goodR_ok x w0 _ fun w5 n5 => ?_ : Ca _ _ _ _ _)⟩
  refine ⟨_, rfl, ifK_not (fun hg => ?_) (fun hg => ?_)⟩
  · have h' := h w5 (n0.trans n5)
    rw [goesB, hg, Bool.false_and] at h'
    exact h'
  have b5 := n5.at' b0
  refine keyR_ok key w5 _ fun w8 n8 => ⟨_, rfl, ifK_not (fun hc => ?_) (fun hc => ?_)⟩
  · have h' := h w8 ((n0.trans n5).trans n8)
    rw [goesB, hc, Bool.false_and, Bool.and_false] at h'
    exact h'
  have b8 := n8.at' b5
  have n08 := (n0.trans n5).trans n8
  have fin : ∀ w', Mod St.no w w' → R (.bool (ruleB x.k p key)) w' := by
    intro w' m
    have h' := h w' m
    rw [goesB, hg, hc, Bool.true_and, Bool.true_and] at h'
    exact h'
  refine ⟨_, by rw [cl1 b8]; rfl, ifK_eq (fun h1 => ?_) (fun h1 => ifK_eq (fun h2 => ?_) (fun h2 => ?_))⟩
  · have h' := fin w8 n08
    rw [ruleB, if_pos h1] at h'
    rw [byte_eq]
    exact h'
  · have h' := fin w8 n08
    rw [ruleB, if_neg h1, if_pos h2] at h'
    rw [byte_eq]
    exact h'
  · refine matchR_ok p key w8 _ fun w15 n15 => ⟨_, rfl, ?_⟩
    have h' := fin w15 (n08.trans n15)
    rw [ruleB, if_neg h1, if_neg h2] at h'
    exact h'

/-! ### Names, put in one by one -/
def AddI (ys : List ByteArray) (s : ByteArray) (i : Nat) (out : List ByteArray) (done : Bool) : Prop :=
  (done = false ∧ out = ys.take i ∧ ∀ a ∈ ys.take i, a < s) ∨ (done = true ∧ out.Pairwise (· < ·) ∧ (∀ n, n ∈ out ↔ n = s ∨ n ∈ ys.take i) ∧ ∀ b ∈ ys.drop i, ¬ b < s)
theorem push_str {w : World} {a : Option Addr} {l c : Nat} {L : List ByteArray} (h : Strs w a l c L) {k : Nat} {s : ByteArray} (hk : w.heap[k]? = some (.cells #[.string s] 9 (0, 0))) (hn : l + 1 ≤ 1099511627776) :
    ∃ a' c' w', (Builtin.append_ #[55, 55] 55 #[.slice a l c, .slice (some ⟨k, 0, none⟩) 1 1]).run Tryz.prog w = .ok (.slice a' (l + 1) c') w' ∧ Strs w' a' (l + 1) c' (L ++ [s]) ∧ Mod (rowB a) w w' ∧ (∀ k, rowB a' k → rowB a k ∨ w.heap.size ≤ k) :=
  Els.push1 (P := Tryz.prog) (t := 55) (ty := 55) (fun _ => rfl) (by kernel_rfl) h hk hn
theorem snoc_rise {L : List ByteArray} {x : ByteArray} (h : L.Pairwise (· < ·)) (hx : ∀ a ∈ L, a < x) : (L ++ [x]).Pairwise (· < ·) := by
  rw [List.pairwise_append]
  exact ⟨h, List.pairwise_singleton _ _, fun a ha b hb => by rw [List.mem_singleton.1 hb]; exact hx a ha⟩
theorem addR_ok (s : ByteArray) {w : World} {a : Option Addr} {l c : Nat} {ys : List ByteArray} (h : Strs w a l c ys) (hr : ys.Pairwise (· < ·)) (hl : l < 1000000000) (R : Value → World → Prop)
    (hR : ∀ w' a' l' c' zs, Strs w' a' l' c' zs → NamesOf (fun n => n ∈ ys ∨ n = s) zs → l' ≤ l + 1 → Mod St.no w w' → (∀ k, rowB a' k → w.heap.size ≤ k) → R (.slice a' l' c') w') :
    Ca Tryz.prog 63 #[.slice a l c, .string s] w R := by
  refine ca63 a l c s w R ?_
  have e1 := h.len.1
  refine ⟨fun p q d b w' => ∃ out, q ≤ l + 1 ∧ (b = false → q ≤ l) ∧ Strs w' p q d out ∧ AddI ys s l out b ∧ (∀ k, rowB p k → w.heap.size ≤ k) ∧ Mod St.no w w', ?_, ?_⟩
  · refine ⟨fun p q d b x w' => ∃ (i : Nat) (out : List ByteArray), x = i ∧ i ≤ l ∧ q ≤ i + 1 ∧ (b = false → q ≤ i) ∧ Strs w' p q d out ∧ AddI ys s i out b ∧ (∀ k, rowB p k → w.heap.size ≤ k) ∧ Mod St.no w w', fun _ _ _ _ x _ => ((l : Int) - x).toNat,
      ⟨0, [], rfl, Nat.zero_le _, by omega, fun _ => Nat.le_refl _, Els.nil _ _, .inl ⟨rfl, rfl, fun a ha => by simp at ha⟩, (fun k hk => by cases hk), Mod.refl _ _⟩, ?_⟩
    rintro _ p q d b _ w9 ⟨i, out, rfl, hi, hq, hqf, hx, hI, hnew, n9⟩
    refine ifK_dec (fun hlt => ?_) (fun hge => ?_)
    · have hil : i < ys.length := by omega
      have htk : ys.take (i + 1) = ys.take i ++ [ys[i]] := List.take_succ_eq_append_getElem hil
      have hdr : ys.drop i = ys[i] :: ys.drop (i + 1) := List.drop_eq_getElem_cons hil
      have hbelow : ∀ a ∈ ys.take i, a < ys[i] := by
        intro a ha
        obtain ⟨j, hj, rfl⟩ := List.mem_iff_getElem.1 ha
        rw [List.length_take] at hj
        rw [List.getElem_take]
        exact List.pairwise_iff_getElem.1 hr j i (by omega) hil (by omega)
      have habove : ∀ b ∈ ys.drop (i + 1), ys[i] < b := by
        intro b hb
        obtain ⟨j, hj, rfl⟩ := List.mem_iff_getElem.1 hb
        rw [List.length_drop] at hj
        rw [List.getElem_drop]
        exact List.pairwise_iff_getElem.1 hr i (i + 1 + j) hil (by omega) (by omega)
      have hxl := hx.len.1
      have g9 := n9.size
      have e1 : IntKind.i64.wrap ((i : Int) + 1) = ((i + 1 : Nat) : Int) := (by first | (simp only [IntKind.wrap_i64]; omega) | omega)
      rw [e1]
      clear e1
      refine (h.no n9).rd i rfl (by omega) ?_
      rw [at0_eq hil, lt_bool, byte_eq]
      -- the element itself is put in, or not
      have put : ∀ (w1 : World) (p1 : Option Addr) (q1 d1 : Nat) (out1 : List ByteArray) (b1 : Bool), Strs w1 p1 q1 d1 out1 → (∀ k, rowB p1 k → w.heap.size ≤ k) → Mod St.no w w1 → q1 ≤ i + 1 → (b1 = false → q1 ≤ i) → ys[i] ≠ s → AddI ys s (i + 1) (out1 ++ [ys[i]]) b1 →
          atW (w1.alloc (.cells (.mk [.string ys[i]]) 9 (0, 0))) fun w18 => ∃ v19 : Value, ∃ w20 : World, (Builtin.append_ (.mk [55, 55]) 55 (.mk [.slice p1 q1 d1, .slice (some ⟨w1.heap.size, 0, none⟩) 1 1])).run Tryz.prog w18 = .ok v19 w20 ∧ ∃ (p21 : Option Addr) (n22 n23 : Nat), v19 = .slice p21 n22 n23 ∧
            (∃ (i' : Nat) (out : List ByteArray), ((i + 1 : Nat) : Int) = i' ∧ i' ≤ l ∧ n22 ≤ i' + 1 ∧ (b1 = false → n22 ≤ i') ∧ Strs w20 p21 n22 n23 out ∧ AddI ys s i' out b1 ∧ (∀ k, rowB p21 k → w.heap.size ≤ k) ∧ Mod St.no w w20) ∧ ((l : Int) - ((i + 1 : Nat) : Int)).toNat < ((l : Int) - (i : Int)).toNat := by
        intro w1 p1 q1 d1 out1 b1 hx1 hn1 m1 hq1 hqf1 hne hI1
        intro w18 e0
        have n18 : Mod no w1 w18 := by subst e0; exact Mod.alloc _ _
        have b18 : w18.heap[w1.heap.size]? = some (.cells #[.string ys[i]] 9 (0, 0)) := by subst e0; exact new_at _ _
        clear e0
        obtain ⟨a', d', w20, hrun, x20, m20, k20⟩ := push_str (hx1.no n18) b18 (by omega)
        have g1 := m1.size
        have g18 := n18.size
        exact ⟨_, w20, hrun, _, _, _, rfl, ⟨i + 1, _, rfl, by omega, by omega, fun hb => by have := hqf1 hb; omega, x20, hI1, fun k hk => (k20 k hk).elim (hn1 k) fun h => by omega, (m1.trans n18).new m20 hn1⟩, by omega⟩
      have skip : ∀ (w1 : World) (p1 : Option Addr) (q1 d1 : Nat) (out1 : List ByteArray) (b1 : Bool), Strs w1 p1 q1 d1 out1 → (∀ k, rowB p1 k → w.heap.size ≤ k) → Mod St.no w w1 → q1 ≤ i + 1 → (b1 = false → q1 ≤ i) → AddI ys s (i + 1) out1 b1 →
          (∃ (i' : Nat) (out : List ByteArray), ((i + 1 : Nat) : Int) = i' ∧ i' ≤ l ∧ q1 ≤ i' + 1 ∧ (b1 = false → q1 ≤ i') ∧ Strs w1 p1 q1 d1 out ∧ AddI ys s i' out b1 ∧ (∀ k, rowB p1 k → w.heap.size ≤ k) ∧ Mod St.no w w1) ∧ ((l : Int) - ((i + 1 : Nat) : Int)).toNat < ((l : Int) - (i : Int)).toNat := by
        intro w1 p1 q1 d1 out1 b1 hx1 hn1 m1 hq1 hqf1 hI1
        exact ⟨⟨i + 1, out1, rfl, by omega, by omega, fun hb => by have := hqf1 hb; omega, hx1, hI1, hn1, m1⟩, by omega⟩
      refine ifK_not (fun hge => ?_) (fun hlts => ?_)
      · have hge : ¬ ys[i] < s := of_decide_eq_false hge
        rcases hI with ⟨rfl, hout, hall⟩ | ⟨rfl, hris, hmem, hrest⟩
        · -- s comes here
          refine (ifK_of (fun _ => ?_) (fun h => by cases h) : ifK true _ _)
          intro w12 e0
          have n12 : Mod no w9 w12 := by subst e0; exact Mod.alloc _ _
          have b12 : w12.heap[w9.heap.size]? = some (.cells #[.string s] 9 (0, 0)) := by subst e0; exact new_at _ _
          clear e0
          obtain ⟨a', d', w14, hrun, x14, m14, k14⟩ := push_str (hx.no n12) b12 (by omega)
          have g12 := n12.size
          have q0 := hqf rfl
          refine ⟨_, w14, hrun, _, _, _, rfl, ?_⟩
          have hn14 : ∀ k, rowB a' k → w.heap.size ≤ k := fun k hk => (k14 k hk).elim (hnew k) fun h => by omega
          have n14 := (n9.trans n12).new m14 hnew
          have hris : (out ++ [s]).Pairwise (· < ·) := by
            rw [hout]
            exact snoc_rise (hr.sublist (List.take_sublist _ _)) hall
          refine ifK_not (fun hne => ?_) (fun heq => ?_)
          · have hne : ys[i] ≠ s := of_decide_eq_false hne
            have hlt : s < ys[i] := Classical.byContradiction fun hn => hne (str_total hge hn)
            refine put w14 a' (q + 1) d' (out ++ [s]) true x14 hn14 n14 (by omega) (fun h => by cases h) hne (.inr ⟨rfl, snoc_rise hris ?_, fun n => ?_, fun b hb => fun hbs => str_asym (str_tr hlt (habove b hb)) hbs⟩)
            · intro a ha
              rcases List.mem_append.1 ha with ha | ha
              · rw [hout] at ha; exact hbelow a ha
              · rw [List.mem_singleton.1 ha]; exact hlt
            · rw [htk, List.mem_append, List.mem_append, List.mem_append, List.mem_singleton, List.mem_singleton, hout]
              constructor
              · rintro ((h | h) | h)
                · exact .inr (.inl h)
                · exact .inl h
                · exact .inr (.inr h)
              · rintro (h | h | h)
                · exact .inl (.inr h)
                · exact .inl (.inl h)
                · exact .inr h
          · have heq : ys[i] = s := of_decide_eq_true heq
            refine skip w14 a' (q + 1) d' (out ++ [s]) true x14 hn14 n14 (by omega) (fun h => by cases h) (.inr ⟨rfl, hris, fun n => ?_, fun b hb hbs => str_asym (by have := habove b hb; rw [heq] at this; exact this) hbs⟩)
            rw [htk, List.mem_append, List.mem_append, List.mem_singleton, List.mem_singleton, hout, heq]
            constructor
            · rintro (h | h)
              · exact .inr (.inl h)
              · exact .inl h
            · rintro (h | h | h)
              · exact .inr h
              · exact .inl h
              · exact .inr h
        · refine (ifK_of (fun h => by cases h) (fun _ => ?_) : ifK false _ _)
          refine ifK_not (fun hne => ?_) (fun heq => ?_)
          · have hne : ys[i] ≠ s := of_decide_eq_false hne
            have hlt : s < ys[i] := Classical.byContradiction fun hn => hne (str_total hge hn)
            refine put w9 p q d out true hx hnew n9 hq (fun h => by cases h) hne (.inr ⟨rfl, snoc_rise hris ?_, fun n => ?_, fun b hb => fun hbs => str_asym (str_tr hlt (habove b hb)) hbs⟩)
            · intro a ha
              rcases (hmem a).1 ha with rfl | ha
              · exact hlt
              · exact hbelow a ha
            · rw [htk, List.mem_append, List.mem_append, List.mem_singleton, hmem]
              exact or_assoc
          · have heq : ys[i] = s := of_decide_eq_true heq
            refine skip w9 p q d out true hx hnew n9 hq (fun h => by cases h) (.inr ⟨rfl, hris, fun n => ?_, fun b hb hbs => str_asym (by have := habove b hb; rw [heq] at this; exact this) hbs⟩)
            rw [htk, List.mem_append, List.mem_singleton, hmem, heq]
            constructor
            · rintro (h | h)
              · exact .inl h
              · exact .inr (.inl h)
            · rintro (h | h | h)
              · exact .inl h
              · exact .inr h
              · exact .inl h
      · have hlts : ys[i] < s := of_decide_eq_true hlts
        rcases hI with ⟨rfl, hout, hall⟩ | ⟨rfl, hris, hmem, hrest⟩
        · have hne : ys[i] ≠ s := fun e => str_irr s (by rw [e] at hlts; exact hlts)
          rw [show decide (ys[i] = s) = false from decide_eq_false hne]
          refine (ifK_of (fun _ => ?_) (fun h => by cases h) : ifK true _ _)
          refine put w9 p q d out false hx hnew n9 hq hqf hne (.inl ⟨rfl, by rw [htk, hout], fun a ha => ?_⟩)
          rw [htk] at ha
          rcases List.mem_append.1 ha with ha | ha
          · exact hall a ha
          · rw [List.mem_singleton.1 ha]; exact hlts
        · exact absurd hlts (hrest _ (by rw [hdr]; exact List.mem_cons_self ..))
    · have hil : i = l := by omega
      subst hil
      exact ⟨out, hq, hqf, hx, hI, hnew, n9⟩
  rintro _ p q d b w41 ⟨out, hq, hqf, hx, hI, hnew, n41⟩
  have htl : ys.take l = ys := List.take_of_length_le (by omega)
  rcases hI with ⟨rfl, hout, hall⟩ | ⟨rfl, hris, hmem, _⟩
  · refine (ifK_of (fun _ => ?_) (fun h => by cases h) : ifK true _ _)
    intro w42 e0
    have n42 : Mod no w41 w42 := by subst e0; exact Mod.alloc _ _
    have b42 : w42.heap[w41.heap.size]? = some (.cells #[.string s] 9 (0, 0)) := by subst e0; exact new_at _ _
    clear e0
    obtain ⟨a', d', w44, hrun, x44, m44, k44⟩ := push_str (hx.no n42) b42 (by omega)
    have q0 := hqf rfl
    have g41 := n41.size
    have g42 := n42.size
    rw [htl] at hout hall
    refine ⟨_, w44, hrun, _, _, _, rfl, hR w44 a' (q + 1) d' _ x44 ⟨?_, fun n => ?_⟩ (by omega) ((n41.trans n42).new m44 hnew) fun k hk => (k44 k hk).elim (hnew k) fun h => by omega⟩
    · rw [hout]; exact snoc_rise hr hall
    · rw [List.mem_append, List.mem_singleton, hout]
  · refine (ifK_of (fun h => by cases h) (fun _ => ?_) : ifK false _ _)
    refine hR w41 p q d out hx ⟨hris, fun n => ?_⟩ hq n41 hnew
    rw [hmem, htl]
    exact or_comm
theorem some_succ {φ : Bnd → Bool} {ν : Bnd → ByteArray} {C : List Bnd} {i : Nat} (hi : i < C.length) (n : ByteArray) : SomeB φ ν (C.take (i + 1)) n ↔ SomeB φ ν (C.take i) n ∨ (φ (at0 C i) = true ∧ ν (at0 C i) = n) := by
  rw [List.take_succ_eq_append_getElem hi, at0_eq hi]
  constructor
  · rintro ⟨b, hb, h1, h2⟩
    rcases List.mem_append.1 hb with hb | hb
    · exact .inl ⟨b, hb, h1, h2⟩
    · rw [List.mem_singleton.1 hb] at h1 h2; exact .inr ⟨h1, h2⟩
  · rintro (⟨b, hb, h1, h2⟩ | ⟨h1, h2⟩)
    · exact ⟨b, List.mem_append_left _ hb, h1, h2⟩
    · exact ⟨_, List.mem_append_right _ (List.mem_singleton.2 rfl), h1, h2⟩
theorem names_skip {φ : Bnd → Bool} {ν : Bnd → ByteArray} {C : List Bnd} {i : Nat} {ys : List ByteArray} (hi : i < C.length) (h : NamesOf (SomeB φ ν (C.take i)) ys) (hf : φ (at0 C i) = false) : NamesOf (SomeB φ ν (C.take (i + 1))) ys :=
  ⟨h.rise, fun n => by rw [h.mem, some_succ hi, hf]; simp⟩
theorem names_add {φ : Bnd → Bool} {ν : Bnd → ByteArray} {C : List Bnd} {i : Nat} {ys zs : List ByteArray} (hi : i < C.length) (h : NamesOf (SomeB φ ν (C.take i)) ys) (hf : φ (at0 C i) = true) (hz : NamesOf (fun n => n ∈ ys ∨ n = ν (at0 C i)) zs) : NamesOf (SomeB φ ν (C.take (i + 1))) zs :=
  ⟨hz.rise, fun n => by rw [hz.mem, h.mem, some_succ hi, hf]; simp [eq_comm]⟩
theorem names_nil {φ : Bnd → Bool} {ν : Bnd → ByteArray} : NamesOf (SomeB φ ν []) [] := ⟨.nil, fun n => ⟨fun h => (by cases h), fun ⟨b, hb, _⟩ => (by cases hb)⟩⟩
section
variable {w : World} {r : Nat} {X : List Exc} {C : List Bnd} (hR : RTb w r X C)
include hR
theorem queuesR_ok (ex key : ByteArray) (hlx : X.length < 1000000000) (hl : C.length < 1000000000) (R : Value → World → Prop) (h : ∀ w' a l c ys, Strs w' a l c ys → NamesOf (QueuesS X C ex key) ys → ys.length ≤ C.length → Mod St.no w w' → R (.slice a l c) w') :
    Ca Tryz.prog 29 #[.pointer (some ⟨r, 0, none⟩), .string ex, .string key] w R := by
  refine ca29 (some ⟨r, 0, none⟩) ex key w R ?_
  refine findR_ok hR ex hlx _ fun w1 n1 => ⟨_, _, _, _, rfl, ?_⟩
  intro w6 e0
  have n6 : Mod no w1 w6 := by subst e0; exact Mod.alloc _ _
  have b6 : Xc w6 w1.heap.size exc0 := by subst e0; exact new_at _ _
  clear e0
  refine put3 b6 fun w12 n12 b12 => ?_
  have n112 : Mod St.no w1 w12 := n6.new n12 fun k hk => by cases hk; exact Nat.le_refl _
  have n012 := n1.trans n112
  obtain ⟨a, l, c, a', l', c', h1, h2, h3, h4, h5⟩ := (hR.no n012).ex
  have e1 := h3.len.1
  refine ⟨a', l', c', by rw [cl1 h1]; rfl, ?_⟩
  refine ⟨fun p q d x w' => ∃ (i : Nat) (ys : List ByteArray), x = i ∧ i ≤ l' ∧ Strs w' p q d ys ∧ NamesOf (SomeB (fun b => hx ex X && (decide (b.x = ex) && goesB (fx ex X) b.p key)) (fun b => b.q) (C.take i)) ys ∧ ys.length ≤ i ∧ (∀ k, rowB p k → w12.heap.size ≤ k) ∧ Mod St.no w12 w', fun _ _ _ x _ => ((l' : Int) - x).toNat,
    ⟨0, [], rfl, Nat.zero_le _, Els.nil _ _, names_nil, Nat.le_refl _, (fun k hk => by cases hk), Mod.refl _ _⟩, ?_⟩
  rintro _ p q d _ w24 ⟨i, ys, rfl, hi, hy, hn, hyl, hnew, n24⟩
  refine ifK_dec (fun hlt => ?_) (fun hge => ?_)
  · have hil : i < C.length := by omega
    have e1 : IntKind.i64.wrap ((i : Int) + 1) = ((i + 1 : Nat) : Int) := (by first | (simp only [IntKind.wrap_i64]; omega) | omega)
    rw [e1]
    clear e1
    refine (h3.no n24).cellB (by omega) ?_
    intro w29 e0
    have n29 : Mod no w24 w29 := by subst e0; exact Mod.alloc _ _
    have b29 : w29.heap[w24.heap.size]? = some (.cells #[.string (ByteArray.mk #[]), .string (ByteArray.mk #[]), .string (ByteArray.mk #[])] 35 (0, 0)) := by subst e0; exact new_at _ _
    clear e0
    refine put3 b29 fun w35 n35 b35 => ?_
    have n2435 : Mod St.no w24 w35 := n29.new n35 fun k hk => by cases hk; exact Nat.le_refl _
    have g24 := n24.size
    have skip : ∀ w', Mod St.no w24 w' → (hx ex X && (decide ((at0 C i).x = ex) && goesB (fx ex X) (at0 C i).p key)) = false → (∃ (i' : Nat) (ys : List ByteArray), ((i + 1 : Nat) : Int) = i' ∧ i' ≤ l' ∧ Strs w' p q d ys ∧ NamesOf (SomeB (fun b => hx ex X && (decide (b.x = ex) && goesB (fx ex X) b.p key)) (fun b => b.q) (C.take i')) ys ∧ ys.length ≤ i' ∧ (∀ k, rowB p k → w12.heap.size ≤ k) ∧ Mod St.no w12 w') ∧ ((l' : Int) - ((i + 1 : Nat) : Int)).toNat < ((l' : Int) - (i : Int)).toNat :=
      fun w' m hf => ⟨⟨i + 1, ys, rfl, by omega, hy.no m, names_skip hil hn hf, by omega, hnew, n24.trans m⟩, by omega⟩
    refine ifK_of (fun hh => ?_) (fun hh => skip w35 n2435 (by rw [hh]; rfl))
    refine ⟨_, by rw [cl1 b35]; rfl, ?_⟩
    rw [byte_eq]
    refine ifK_dec (fun he => ?_) (fun he => skip w35 n2435 (by rw [decide_eq_false he]; simp))
    have b12' := (n24.trans n2435).at' b12
    refine ⟨_, by rw [cl1 b12']; rfl, _, by rw [cl1 b12']; rfl, _, by rw [cl1 b12']; rfl, _, by rw [cl1 b35]; rfl, (fitsX_ok (fx ex X) (at0 C i).p key w35 _ fun w42 n42 => ?_ : Ca _ _ _ _ _)⟩
    have n2442 := n2435.trans n42
    have b42 := n42.at' b35
    refine ⟨_, rfl, ifK_of (fun hg => ?_) (fun hg => skip w42 n2442 (by rw [hg]; simp))⟩
    have e3 := hy.len.1
    refine ⟨_, by rw [cl1 b42]; rfl, addR_ok (at0 C i).q (hy.no n2442) hn.rise (by omega) _ fun w46 p' q' d' zs hz hzn hql n46 k46 => ⟨_, _, _, rfl, ?_⟩⟩
    have e4 := hz.len.1
    have n2446 := n2442.trans n46
    have g2442 := n2442.size
    exact ⟨⟨i + 1, zs, rfl, by omega, hz, names_add hil hn (by rw [hh, hg, decide_eq_true he]; rfl) hzn, by omega, fun k hk => by have := k46 k hk; omega, n24.trans n2446⟩, by simp only; omega⟩
  · have hti : C.take i = C := List.take_of_length_le (by omega)
    rw [hti] at hn
    refine h w24 p q d ys hy ⟨hn.rise, fun n => ?_⟩ (by omega) (n012.trans n24)
    rw [hn.mem]
    constructor
    · rintro ⟨b, hb, h1, h2⟩
      rw [Bool.and_eq_true] at h1
      exact ⟨h1.1, b, hb, h1.2, h2⟩
    · rintro ⟨hh, b, hb, h1, h2⟩
      exact ⟨b, hb, by rw [hh]; exact h1, h2⟩
theorem whoR_ok (q0 : ByteArray) (hl : C.length < 1000000000) (R : Value → World → Prop) (h : ∀ w' a l c ys, Strs w' a l c ys → NamesOf (WhoS C q0) ys → ys.length ≤ C.length → Mod St.no w w' → R (.slice a l c) w') :
    Ca Tryz.prog 31 #[.pointer (some ⟨r, 0, none⟩), .string q0] w R := by
  refine ca31 (some ⟨r, 0, none⟩) q0 w R ?_
  obtain ⟨a, l, c, a', l', c', h1, h2, h3, h4, h5⟩ := hR.ex
  have e1 := h3.len.1
  refine ⟨a', l', c', by rw [cl1 h1]; rfl, ?_⟩
  refine ⟨fun p q d x w' => ∃ (i : Nat) (ys : List ByteArray), x = i ∧ i ≤ l' ∧ Strs w' p q d ys ∧ NamesOf (SomeB (fun b => decide (b.q = q0)) (fun b => b.x) (C.take i)) ys ∧ ys.length ≤ i ∧ (∀ k, rowB p k → w.heap.size ≤ k) ∧ Mod St.no w w', fun _ _ _ x _ => ((l' : Int) - x).toNat,
    ⟨0, [], rfl, Nat.zero_le _, Els.nil _ _, names_nil, Nat.le_refl _, (fun k hk => by cases hk), Mod.refl _ _⟩, ?_⟩
  rintro _ p q d _ w24 ⟨i, ys, rfl, hi, hy, hn, hyl, hnew, n24⟩
  refine ifK_dec (fun hlt => ?_) (fun hge => ?_)
  · have hil : i < C.length := by omega
    have e1 : IntKind.i64.wrap ((i : Int) + 1) = ((i + 1 : Nat) : Int) := (by first | (simp only [IntKind.wrap_i64]; omega) | omega)
    rw [e1]
    clear e1
    refine (h3.no n24).cellB (by omega) ?_
    intro w29 e0
    have n29 : Mod no w24 w29 := by subst e0; exact Mod.alloc _ _
    have b29 : w29.heap[w24.heap.size]? = some (.cells #[.string (ByteArray.mk #[]), .string (ByteArray.mk #[]), .string (ByteArray.mk #[])] 35 (0, 0)) := by subst e0; exact new_at _ _
    clear e0
    refine put3 b29 fun w35 n35 b35 => ?_
    have n2435 : Mod St.no w24 w35 := n29.new n35 fun k hk => by cases hk; exact Nat.le_refl _
    have g24 := n24.size
    refine ⟨_, by rw [cl1 b35]; rfl, ?_⟩
    rw [byte_eq]
    have e3 := hy.len.1
    refine ifK_dec (fun he => ?_) (fun he => ⟨⟨i + 1, ys, rfl, by omega, hy.no n2435, names_skip hil hn (decide_eq_false he), by omega, hnew, n24.trans n2435⟩, by simp only; omega⟩)
    refine ⟨_, by rw [cl1 b35]; rfl, addR_ok (at0 C i).x (hy.no n2435) hn.rise (by omega) _ fun w46 p' q' d' zs hz hzn hql n46 k46 => ⟨_, _, _, rfl, ?_⟩⟩
    have e4 := hz.len.1
    have n2446 := n2435.trans n46
    have g2435 := n2435.size
    exact ⟨⟨i + 1, zs, rfl, by omega, hz, names_add hil hn (decide_eq_true he) hzn, by omega, fun k hk => by have := k46 k hk; omega, n24.trans n2446⟩, by simp only; omega⟩
  · have hti : C.take i = C := List.take_of_length_le (by omega)
    rw [hti] at hn
    exact h w24 p q d ys hy hn (by omega) n24
end
end Go.Proofs.YtehhhkcemmfjpaaGreatDoor

/- Leaves, opened. It names no program. -/
namespace Go.Proofs.YtehhhkcemmfjpaaGreatDoor.St
open Go Go.ChangeShapes Go.WideShapes Go.Deep
section
variable {P : Program} {w : World} {B n : Nat} {t : TypeId} {cs : List Value}
theorem leaf_struct {fs : Array Field} (ht : P.underlying t = some (.struct fs)) (h : Leaf P w B (n + 1) t cs) : cs.length = P.cellsOf t ∧ ∀ (i : Nat) (f : Field), fs[i]? = some f → Leaf P w B n f.type ((cs.drop f.offset).take (P.cellsOf f.type)) := by
  unfold Leaf at h; rw [ht] at h; exact h
theorem leaf_int {k : IntKind} (ht : P.underlying t = some (.int k)) (h : Leaf P w B (n + 1) t cs) : ∃ x, cs = [.int k x] ∧ (Lit.int k x).wf = true := by
  unfold Leaf at h; rw [ht] at h; exact h
theorem leaf_string (ht : P.underlying t = some .string) (h : Leaf P w B (n + 1) t cs) : ∃ s : ByteArray, cs = [.string s] ∧ s.size ≤ B := by
  unfold Leaf at h; rw [ht] at h; exact h
theorem leaf_bool (ht : P.underlying t = some .bool) (h : Leaf P w B (n + 1) t cs) : ∃ b, cs = [.bool b] := by
  unfold Leaf at h; rw [ht] at h; exact h
theorem leaf_slice {e : TypeId} (ht : P.underlying t = some (.slice e)) (h : Leaf P w B (n + 1) t cs) : ∃ (a : Option Addr) (l c : Nat), cs = [.slice a l c] ∧ l ≤ c ∧ c ≤ 9223372036854775807 ∧ c * P.bytesOf e ≤ B ∧ (a = none → c = 0) ∧
        ∀ i, i < l → ∃ ad, a = some ad ∧ ∃ cs', cs'.length = P.cellsOf e ∧ (∀ j v, cs'[j]? = some v → w.cell? (Addr.add (Addr.add ad (i * P.cellsOf e)) j) = some v) ∧ Leaf P w B n e cs' := by
  unfold Leaf at h; rw [ht] at h; exact h
/-- A field of one cell. -/
theorem field1 {fs : Array Field} {f : Field} (h : ∀ (i : Nat) (f : Field), fs[i]? = some f → Leaf P w B n f.type ((cs.drop f.offset).take (P.cellsOf f.type))) (i : Nat) (hf : fs[i]? = some f) {o : Nat} (ho : f.offset = o) {u : TypeId} (hu : f.type = u) {k : Nat} (hk : P.cellsOf u = k) : Leaf P w B n u ((cs.drop o).take k) := by
  subst ho; subst hu; subst hk; exact h i f hf
end
theorem row_arg {H : Type} {enc : TypeId × Value → H} {P : Program} {w : World} {v : Value} {d : DataW H} {p : List MemPlace} {base : Nat} {r : Reach} {b0 : Nat} {t e : TypeId} {α : Type} [Inhabited α] {L : Lay α} (Q : α → Prop) {B : Nat} (n : Nat) (ht : P.underlying t = some (.slice e))
    (hs : L.s = P.cellsOf e) (hv : Value.okWide P w r b0 t v) (h : DataW.Trod enc P w base (fun _ => true) true t v d p) (hz : ∀ n ∈ d.weights P t, n ≤ B) (hx : ∀ cs, cs.length = L.s → Leaf P w B n e cs → ∃ x, L.cs x = cs ∧ Q x) :
    ∃ a l c xs, v = .slice a l c ∧ ArgRow L w a l c xs ∧ (∀ x ∈ xs, Q x) ∧ c * P.bytesOf e ≤ B ∧ (a = none → c = 0) := by
  obtain ⟨a, l, c, rfl⟩ := okWide_slice ht hv
  obtain ⟨fuel, hf⟩ := h
  obtain ⟨a', l', c', hcs, h1, h2, h3, h3', h4⟩ := leaf_slice ht (leaf_of (n + 1) hf hz)
  simp only [Value.cells, List.cons.injEq, and_true] at hcs
  injection hcs with e1 e2 e3
  subst e1; subst e2; subst e3
  obtain ⟨xs, h5, h6⟩ := leaf_row Q hs hx h1 h2 h4
  exact ⟨a, l, c, xs, rfl, h5, h6, h3, h3'⟩
theorem struct_arg {H : Type} {enc : TypeId × Value → H} {P : Program} {w : World} {v : Value} {d : DataW H} {p : List MemPlace} {base : Nat} {r : Reach} {b0 : Nat} {t : TypeId} {fs : Array Field} {B : Nat} (n : Nat) (ht : P.underlying t = some (.struct fs))
    (hv : Value.okWide P w r b0 t v) (h : DataW.Trod enc P w base (fun _ => true) true t v d p) (hz : ∀ n ∈ d.weights P t, n ≤ B) : ∃ cs : List Value, v = .agg ⟨cs⟩ ∧ Leaf P w B n t cs := by
  obtain ⟨cs, rfl, _⟩ := okWide_struct ht hv
  obtain ⟨fuel, hf⟩ := h
  exact ⟨cs.toList, rfl, leaf_of n hf hz⟩
theorem args_int {H : Type} {enc : TypeId × Value → H} {P : Program} {w : World} {v : Value} {d : DataW H} {p : List MemPlace} {base : Nat} {r : Reach} {b0 : Nat} {t : TypeId} {k : IntKind} (ht : P.underlying t = some (.int k))
    (hv : Value.okWide P w r b0 t v) (h : DataW.Trod enc P w base (fun _ => true) true t v d p) : ∃ a : Int, v = .int k a ∧ (Lit.int k a).wf = true := by
  obtain ⟨a, rfl⟩ := okWide_int ht hv
  obtain ⟨fuel, hf⟩ := h
  obtain ⟨n, h1, _, h2⟩ := DataW.trod_int ht hf
  simp only [Value.cells, List.cons.injEq, and_true] at h1
  injection h1 with _ h1
  subst h1
  exact ⟨_, rfl, h2⟩
theorem args_string {H : Type} {enc : TypeId × Value → H} {P : Program} {w : World} {v : Value} {d : DataW H} {p : List MemPlace} {base : Nat} {r : Reach} {b0 : Nat} {t : TypeId} (ht : P.underlying t = some .string)
    (hv : Value.okWide P w r b0 t v) (h : DataW.Trod enc P w base (fun _ => true) true t v d p) (hz : ∀ n ∈ d.weights P t, n ≤ reachBytes) : ∃ a : ByteArray, v = .string a ∧ a.size ≤ 140737488355328 := by
  obtain ⟨a, rfl⟩ := okWide_string ht hv
  obtain ⟨fuel, hf⟩ := h
  obtain ⟨s, h1, h2⟩ := leaf_string ht (leaf_of 1 hf hz)
  simp only [Value.cells, List.cons.injEq, and_true] at h1
  injection h1 with h1
  subst h1
  exact ⟨_, rfl, Nat.le_trans h2 (by decide)⟩
end Go.Proofs.YtehhhkcemmfjpaaGreatDoor.St

/- Exchanges, bindings and the laws' acts among the arguments. -/
namespace Go.Proofs.YtehhhkcemmfjpaaGreatDoor
open Go Go.ChangeShapes Go.WideShapes Go.Deep Go.Proofs.YtehhhkcemmfjpaaGreatDoor Go.Proofs.YtehhhkcemmfjpaaGreatDoor.St

structure Ac where
  k : Int
  e : Exc
  b : Bnd
instance acInh : Inhabited Ac := ⟨⟨0, default, default⟩⟩
def acL : Lay Ac where
  cs x := [.int .i64 x.k, .string x.e.n, .int .i64 x.e.k, .bool x.e.f, .string x.b.x, .string x.b.q, .string x.b.p]
  s := 7
  pos := by decide
  len _ := rfl
  one x v hv := by simp at hv; rcases hv with rfl | rfl | rfl | rfl | rfl | rfl | rfl <;> rfl

/-- Its texts are no longer than a machine can hold. -/
structure AcOk (x : Ac) : Prop where
  sn : x.e.n.size ≤ 140737488355328
  sx : x.b.x.size ≤ 140737488355328
  sq : x.b.q.size ≤ 140737488355328
  sp : x.b.p.size ≤ 140737488355328
theorem c_str : Tryz.prog.cellsOf 9 = 1 := by kernel_rfl
theorem c_int : Tryz.prog.cellsOf 3 = 1 := by kernel_rfl
theorem c_bool : Tryz.prog.cellsOf 4 = 1 := by kernel_rfl
theorem c_exc : Tryz.prog.cellsOf 33 = 3 := by kernel_rfl
theorem c_bnd : Tryz.prog.cellsOf 35 = 3 := by kernel_rfl
theorem c_act : Tryz.prog.cellsOf 37 = 7 := by kernel_rfl
set_option maxRecDepth 100000 in
theorem leaf_exc {w : World} {B n : Nat} {cs : List Value} (h : Leaf Tryz.prog w B (n + 2) 33 cs) : ∃ e : Exc, cs = e.cs ∧ e.n.size ≤ B := by
  obtain ⟨hl, hf⟩ := leaf_struct Tryz.underlying33 h
  rw [c_exc] at hl
  match cs, hl with
  | [c0, c1, c2], _ =>
    obtain ⟨s, e0, hs⟩ := leaf_string Tryz.underlying9 (field1 (o := 0) hf 0 rfl rfl rfl c_str)
    obtain ⟨k, e1, _⟩ := leaf_int Tryz.underlying3 (field1 (o := 1) hf 1 rfl rfl rfl c_int)
    obtain ⟨f, e2⟩ := leaf_bool Tryz.underlying4 (field1 (o := 2) hf 2 rfl rfl rfl c_bool)
    have e0 : [c0] = [Value.string s] := e0
    have e1 : [c1] = [Value.int .i64 k] := e1
    have e2 : [c2] = [Value.bool f] := e2
    simp only [List.cons.injEq, and_true] at e0 e1 e2
    exact ⟨⟨s, k, f⟩, by rw [e0, e1, e2]; rfl, hs⟩
set_option maxRecDepth 100000 in
theorem leaf_bnd {w : World} {B n : Nat} {cs : List Value} (h : Leaf Tryz.prog w B (n + 2) 35 cs) : ∃ e : Bnd, cs = e.cs ∧ e.x.size ≤ B ∧ e.q.size ≤ B ∧ e.p.size ≤ B := by
  obtain ⟨hl, hf⟩ := leaf_struct Tryz.underlying35 h
  rw [c_bnd] at hl
  match cs, hl with
  | [c0, c1, c2], _ =>
    obtain ⟨s, e0, hs⟩ := leaf_string Tryz.underlying9 (field1 (o := 0) hf 0 rfl rfl rfl c_str)
    obtain ⟨k, e1, hk⟩ := leaf_string Tryz.underlying9 (field1 (o := 1) hf 1 rfl rfl rfl c_str)
    obtain ⟨f, e2, hf'⟩ := leaf_string Tryz.underlying9 (field1 (o := 2) hf 2 rfl rfl rfl c_str)
    have e0 : [c0] = [Value.string s] := e0
    have e1 : [c1] = [Value.string k] := e1
    have e2 : [c2] = [Value.string f] := e2
    simp only [List.cons.injEq, and_true] at e0 e1 e2
    exact ⟨⟨s, k, f⟩, by rw [e0, e1, e2]; rfl, hs, hk, hf'⟩
set_option maxRecDepth 100000 in
theorem leaf_act {w : World} {n : Nat} {cs : List Value} (h : Leaf Tryz.prog w reachBytes (n + 3) 37 cs) : ∃ x : Ac, acL.cs x = cs ∧ AcOk x := by
  obtain ⟨hl, hf⟩ := leaf_struct Tryz.underlying37 h
  rw [c_act] at hl
  match cs, hl with
  | [c0, c1, c2, c3, c4, c5, c6], _ =>
    obtain ⟨k, e0, _⟩ := leaf_int Tryz.underlying3 (field1 (o := 0) hf 0 rfl rfl rfl c_int)
    obtain ⟨e, e1, h1⟩ := leaf_exc (field1 (o := 1) hf 1 rfl rfl rfl c_exc)
    obtain ⟨b, e2, h2, h3, h4⟩ := leaf_bnd (field1 (o := 4) hf 2 rfl rfl rfl c_bnd)
    have e0 : [c0] = [Value.int .i64 k] := e0
    have e1 : [c1, c2, c3] = e.cs := e1
    have e2 : [c4, c5, c6] = b.cs := e2
    simp only [List.cons.injEq, and_true, Exc.cs, Bnd.cs] at e0 e1 e2
    obtain ⟨q1, q2, q3⟩ := e1
    obtain ⟨q4, q5, q6⟩ := e2
    have hb : reachBytes ≤ 140737488355328 := by decide
    exact ⟨⟨k, e, b⟩, by rw [e0, q1, q2, q3, q4, q5, q6]; rfl, by show e.n.size ≤ _; omega, by show b.x.size ≤ _; omega, by show b.q.size ≤ _; omega, by show b.p.size ≤ _; omega⟩
/-- A binding's texts are no longer than a machine can hold. -/
structure BndOk (b : Bnd) : Prop where
  sx : b.x.size ≤ 140737488355328
  sq : b.q.size ≤ 140737488355328
  sp : b.p.size ≤ 140737488355328
set_option maxRecDepth 100000 in
theorem args_bnd {H : Type} {enc : TypeId × Value → H} {w : World} {v : Value} {d : DataW H} {p : List MemPlace} {base : Nat} {r : Reach} {b0 : Nat} (hv : Value.okWide Tryz.prog w r b0 35 v) (h : DataW.Trod enc Tryz.prog w base (fun _ => true) true 35 v d p)
    (hz : ∀ n ∈ d.weights Tryz.prog 35, n ≤ reachBytes) : ∃ b : Bnd, v = .agg ⟨b.cs⟩ ∧ BndOk b := by
  obtain ⟨cs, h1, h2⟩ := struct_arg 2 Tryz.underlying35 hv h hz
  obtain ⟨b, h3, h4, h5, h6⟩ := leaf_bnd h2
  have hb : reachBytes ≤ 140737488355328 := by decide
  exact ⟨b, by rw [h1, h3], by omega, by omega, by omega⟩
set_option maxRecDepth 100000 in
theorem args_act {H : Type} {enc : TypeId × Value → H} {w : World} {v : Value} {d : DataW H} {p : List MemPlace} {base : Nat} {r : Reach} {b0 : Nat} (hv : Value.okWide Tryz.prog w r b0 37 v) (h : DataW.Trod enc Tryz.prog w base (fun _ => true) true 37 v d p)
    (hz : ∀ n ∈ d.weights Tryz.prog 37, n ≤ reachBytes) : ∃ x : Ac, v = .agg ⟨acL.cs x⟩ ∧ AcOk x := by
  obtain ⟨cs, h1, h2⟩ := struct_arg 3 Tryz.underlying37 hv h hz
  obtain ⟨x, h3, h4⟩ := leaf_act h2
  exact ⟨x, by rw [h1, h3], h4⟩
end Go.Proofs.YtehhhkcemmfjpaaGreatDoor

/- The formulas of functions, printed by a program of mine (gen.py) out of the translation. -/
namespace Go.Proofs.YtehhhkcemmfjpaaGreatDoor
open Go Go.Proofs.YtehhhkcemmfjpaaGreatDoor.St
open _root_.Go.Value (string int bool slice pointer agg tuple map func nilFunc iface)
open _root_.Go.World (cell? frozen? setCell alloc drew)
open _root_.Go.Addr (add)
open _root_.Go.Obj (cells)
open _root_.Go.IntKind (wrap i64 u64 i32 u32 u8)
set_option maxRecDepth 100000

/-- (*staith/staithref07.Table).Forget -/
noncomputable def C42 : Code := (Tryz.f42.body).getD .skip
def pl42 : Nat → Plan := fun _ => .done
def ls42 : Nat → List (Nat × LT)
  | 4 => [(5, (.one .slice)), (14, (.one (.int .i64)))]
  | _ => []
def W42 (t : Option Addr) (queue : ByteArray) (w : World) (R : Value → World → Prop) : Prop :=
  (onP (t) (fun a0 =>
(∃ p1 : Option Addr, (∃ n2 : Nat, (∃ n3 : Nat, ((cell? w (add a0 1) = some (slice p1 n2 n3)) ∧ (∃ z4 : Option Addr → Nat → Nat → Int → World → Prop, (∃ z5 : Option Addr → Nat → Nat → Int → World → Nat, ((z4 (none) (0) (0) (0) (w)) ∧ (∀ (_ : Nat → Value), (∀ (p7 : Option Addr), (∀ (n8 : Nat), (∀ (n9 : Nat), (∀ (x10 : Int), (∀ (w11 : World), ((z4 (p7) (n8) (n9) (x10) (w11)) → (ifK (decide (x10 < (↑n2 : Int)))
(∃ a12 : Addr, ((p1 = some a12) ∧ (((0 : Int) ≤ x10) ∧ (((x10 : Int) < (↑n2 : Int)) ∧ (∃ s13 : ByteArray, ((cell? w11 (add (add a12 (Int.toNat x10 * 3)) 0) = some (string s13)) ∧ (∃ s14 : ByteArray, ((cell? w11 (add (add a12 (Int.toNat x10 * 3)) 1) = some (string s14)) ∧ (∃ s15 : ByteArray, ((cell? w11 (add (add a12 (Int.toNat x10 * 3)) 2) = some (string s15)) ∧ (atW (alloc w11 (cells (Array.mk [string (ByteArray.mk #[]), string (ByteArray.mk #[]), string (ByteArray.mk #[])]) 35 (0, 0))) (fun w16 =>
(st1 (add (nw w11) 0) (string s13) w16 (fun w18 =>
(st1 (add (nw w11) 1) (string s14) w18 (fun w20 =>
(st1 (add (nw w11) 2) (string s15) w20 (fun w22 =>
(∃ s23 : ByteArray, ((cell? w22 (add (nw w11) 1) = some (string s23)) ∧ (ifK (!ByteArray.toList s23 == ByteArray.toList queue)
(∃ s24 : ByteArray, ((cell? w22 (add (nw w11) 0) = some (string s24)) ∧ (∃ s25 : ByteArray, ((cell? w22 (add (nw w11) 1) = some (string s25)) ∧ (∃ s26 : ByteArray, ((cell? w22 (add (nw w11) 2) = some (string s26)) ∧ (atW (alloc w22 (cells (Array.mk [string s24, string s25, string s26]) 35 (0, 0))) (fun w27 =>
(∃ v28 : Value, (∃ w29 : World, ((Sem.run Tryz.prog (Builtin.append_ (Array.mk [27, 27]) 27 (Array.mk [slice p7 n8 n9, slice (some (nw w22)) 1 1])) w27 = Result.ok v28 w29) ∧ (∃ p30 : Option Addr, (∃ n31 : Nat, (∃ n32 : Nat, ((v28 = slice p30 n31 n32) ∧ ((z4 (p30) (n31) (n32) (wrap i64 (x10 + 1)) (w29)) ∧ (z5 p30 n31 n32 (wrap i64 (x10 + 1)) w29 < z5 p7 n8 n9 x10 w11)))))))))))))))))
((z4 (p7) (n8) (n9) (wrap i64 (x10 + 1)) (w22)) ∧ (z5 p7 n8 n9 (wrap i64 (x10 + 1)) w22 < z5 p7 n8 n9 x10 w11)))))))))))))))))))))))
(onP (t) (fun a33 =>
(∃ p34 : Option Addr, (∃ n35 : Nat, (∃ n36 : Nat, ((cell? w11 (add a33 1) = some (slice p34 n35 n36)) ∧ (onP (t) (fun a37 =>
(st1 (add (add a37 1) 0) (slice p7 n8 n9) w11 (fun w39 =>
(R (int i64 (wrap i64 ((↑n35 : Int) - (↑n8 : Int)))) (w39)))))))))))))))))))))))))))))
theorem ca42 (t : Option Addr) (queue : ByteArray) (w : World) (R : Value → World → Prop) (h : W42 t queue w R) : Ca Tryz.prog 42 ⟨[(.pointer t), (.string queue)]⟩ w R :=
  caB (fn := Tryz.f42) (pl := pl42) (ls := ls42) Tryz.func42 (by kernel_rfl) (by kernel_rfl) h

/-- (*staith/staithref07.Table).Unbind -/
noncomputable def C40 : Code := (Tryz.f40.body).getD .skip
def pl40 : Nat → Plan := fun _ => .done
def ls40 : Nat → List (Nat × LT)
  | 7 => [(5, (.one .slice)), (17, (.one (.int .i64)))]
  | _ => []
def W40 (t : Option Addr) (b0_ : ByteArray) (b1_ : ByteArray) (b2_ : ByteArray) (w : World) (R : Value → World → Prop) : Prop :=
  (atW (alloc w (cells (Array.mk [string b0_, string b1_, string b2_]) 35 (0, 0))) (fun w0 =>
(∃ s1 : ByteArray, ((cell? w0 (add (nw w) 0) = some (string s1)) ∧ (∃ s2 : ByteArray, ((cell? w0 (add (nw w) 1) = some (string s2)) ∧ (∃ s3 : ByteArray, ((cell? w0 (add (nw w) 2) = some (string s3)) ∧ (Ca Tryz.prog (20) (Array.mk [pointer t, agg (Array.mk (List.reverse [string s3, string s2, string s1]))]) (w0) (fun v4 => (fun w5 =>
(∃ b6 : Bool, ((v4 = bool b6) ∧ (ifK (!b6)
(R (int i64 3) (w5))
(onP (t) (fun a7 =>
(∃ p8 : Option Addr, (∃ n9 : Nat, (∃ n10 : Nat, ((cell? w5 (add a7 1) = some (slice p8 n9 n10)) ∧ (∃ z11 : Option Addr → Nat → Nat → Int → World → Prop, (∃ z12 : Option Addr → Nat → Nat → Int → World → Nat, ((z11 (none) (0) (0) (0) (w5)) ∧ (∀ (_ : Nat → Value), (∀ (p14 : Option Addr), (∀ (n15 : Nat), (∀ (n16 : Nat), (∀ (x17 : Int), (∀ (w18 : World), ((z11 (p14) (n15) (n16) (x17) (w18)) → (ifK (decide (x17 < (↑n9 : Int)))
(∃ a19 : Addr, ((p8 = some a19) ∧ (((0 : Int) ≤ x17) ∧ (((x17 : Int) < (↑n9 : Int)) ∧ (∃ s20 : ByteArray, ((cell? w18 (add (add a19 (Int.toNat x17 * 3)) 0) = some (string s20)) ∧ (∃ s21 : ByteArray, ((cell? w18 (add (add a19 (Int.toNat x17 * 3)) 1) = some (string s21)) ∧ (∃ s22 : ByteArray, ((cell? w18 (add (add a19 (Int.toNat x17 * 3)) 2) = some (string s22)) ∧ (atW (alloc w18 (cells (Array.mk [string (ByteArray.mk #[]), string (ByteArray.mk #[]), string (ByteArray.mk #[])]) 35 (0, 0))) (fun w23 =>
(st1 (add (nw w18) 0) (string s20) w23 (fun w25 =>
(st1 (add (nw w18) 1) (string s21) w25 (fun w27 =>
(st1 (add (nw w18) 2) (string s22) w27 (fun w29 =>
(∃ s30 : ByteArray, ((cell? w29 (add (nw w18) 0) = some (string s30)) ∧ (∃ s31 : ByteArray, ((cell? w29 (add (nw w18) 1) = some (string s31)) ∧ (∃ s32 : ByteArray, ((cell? w29 (add (nw w18) 2) = some (string s32)) ∧ (∃ s33 : ByteArray, ((cell? w29 (add (nw w) 0) = some (string s33)) ∧ (∃ s34 : ByteArray, ((cell? w29 (add (nw w) 1) = some (string s34)) ∧ (∃ s35 : ByteArray, ((cell? w29 (add (nw w) 2) = some (string s35)) ∧ (eqA Tryz.prog 35 (agg (Array.mk (List.reverse [string s32, string s31, string s30]))) (agg (Array.mk (List.reverse [string s35, string s34, string s33]))) (w29) (fun b36 => (fun w37 =>
(ifK (!b36)
(∃ s38 : ByteArray, ((cell? w37 (add (nw w18) 0) = some (string s38)) ∧ (∃ s39 : ByteArray, ((cell? w37 (add (nw w18) 1) = some (string s39)) ∧ (∃ s40 : ByteArray, ((cell? w37 (add (nw w18) 2) = some (string s40)) ∧ (atW (alloc w37 (cells (Array.mk [string s38, string s39, string s40]) 35 (0, 0))) (fun w41 =>
(∃ v42 : Value, (∃ w43 : World, ((Sem.run Tryz.prog (Builtin.append_ (Array.mk [27, 27]) 27 (Array.mk [slice p14 n15 n16, slice (some (nw w37)) 1 1])) w41 = Result.ok v42 w43) ∧ (∃ p44 : Option Addr, (∃ n45 : Nat, (∃ n46 : Nat, ((v42 = slice p44 n45 n46) ∧ ((z11 (p44) (n45) (n46) (wrap i64 (x17 + 1)) (w43)) ∧ (z12 p44 n45 n46 (wrap i64 (x17 + 1)) w43 < z12 p14 n15 n16 x17 w18)))))))))))))))))
((z11 (p14) (n15) (n16) (wrap i64 (x17 + 1)) (w37)) ∧ (z12 p14 n15 n16 (wrap i64 (x17 + 1)) w37 < z12 p14 n15 n16 x17 w18))))))))))))))))))))))))))))))))))))
(onP (t) (fun a47 =>
(st1 (add (add a47 1) 0) (slice p14 n15 n16) w18 (fun w49 =>
(R (int i64 0) (w49)))))))))))))))))))))))))))))))))))))
theorem ca40 (t : Option Addr) (b0_ : ByteArray) (b1_ : ByteArray) (b2_ : ByteArray) (w : World) (R : Value → World → Prop) (h : W40 t b0_ b1_ b2_ w R) : Ca Tryz.prog 40 ⟨[(.pointer t), (.agg ⟨[(.string b0_), (.string b1_), (.string b2_)]⟩)]⟩ w R :=
  caB (fn := Tryz.f40) (pl := pl40) (ls := ls40) Tryz.func40 (by kernel_rfl) (by kernel_rfl) h
end Go.Proofs.YtehhhkcemmfjpaaGreatDoor

/- The reference's Forget, Unbind. -/
namespace Go.Proofs.YtehhhkcemmfjpaaGreatDoor
open Go Go.Proofs.YtehhhkcemmfjpaaGreatDoor Go.Proofs.YtehhhkcemmfjpaaGreatDoor.St

theorem empty3 {w : World} : (w.alloc (.cells #[.string (ByteArray.mk #[]), .string (ByteArray.mk #[]), .string (ByteArray.mk #[])] 35 (0, 0))).heap[w.heap.size]? = some (.cells #[.string (ByteArray.mk #[]), .string (ByteArray.mk #[]), .string (ByteArray.mk #[])] 35 (0, 0)) := new_at _ _
/-- append(l, b), where b lies in a block of its own. -/
theorem pushB {w : World} {a : Option Addr} {l c : Nat} {L : List Bnd} (h : Rx bndL 35 w a l c L) {k : Nat} {b : Bnd} (hk : Bc w k b) (hn : l + 1 ≤ 1099511627776) :
    ∃ a' c' w', (Builtin.append_ #[27, 27] 27 #[.slice a l c, .slice (some ⟨k, 0, none⟩) 1 1]).run Tryz.prog w = .ok (.slice a' (l + 1) c') w' ∧ Rx bndL 35 w' a' (l + 1) c' (L ++ [b]) ∧ Mod (rowB a) w w' ∧ (∀ k, rowB a' k → rowB a k ∨ w.heap.size ≤ k) :=
  Row.push (P := Tryz.prog) (t := 27) (ty := 27) (by kernel_rfl) h (b := some ⟨k, 0, none⟩) (m := 1) (cc := 1) (ys := [b]) rfl (fun ad had j v hj => by
    cases had
    rw [cl1 hk]
    simpa [bndL, Bnd.cs] using hj) (fun h => by cases h) hn
section
variable {w : World} {r : Nat} {X : List Exc} {B : List Bnd} (hR : RTb w r X B)
include hR
theorem forgetR_ok (n : ByteArray) (hl : B.length < 1000000000) (R : Value → World → Prop) (h : ∀ w', RTb w' r X (B.filter fun b => !decide (b.q = n)) → Mod (on r) w w' → R (.int .i64 ((B.length : Int) - (B.filter fun b => !decide (b.q = n)).length)) w') :
    Ca Tryz.prog 42 #[.pointer (some ⟨r, 0, none⟩), .string n] w R := by
  refine ca42 (some ⟨r, 0, none⟩) n w R ?_
  obtain ⟨a, l, c, a', l', c', h1, h2, h3, h4, h5⟩ := hR.ex
  have hxl := h3.len.1
  have hrlt := lt_of_heap h1
  refine ⟨a', l', c', by rw [cl1 h1]; rfl, ?_⟩
  refine ⟨fun p q s x w' => ∃ i : Nat, x = i ∧ i ≤ l' ∧ Mod no w w' ∧ Rx bndL 35 w' p q s ((B.take i).filter fun b => !decide (b.q = n)) ∧ ∀ k, rowB p k → w.heap.size ≤ k, fun _ _ _ x _ => ((l' : Int) - x).toNat,
    ⟨0, rfl, by omega, Mod.refl _ _, Row.empty _ _ _, fun k hk => by cases hk⟩, ?_⟩
  rintro _ p q s _ w11 ⟨i, rfl, hi, m11, hx, hn⟩
  have hql := hx.len.1
  have hqi : q ≤ i := by
    have : ((B.take i).filter fun b => !decide (b.q = n)).length ≤ (B.take i).length := List.length_filter_le _ _
    rw [List.length_take] at this
    omega
  refine ifK_dec (fun hlt => ?_) (fun hge => ?_)
  · have hil : i < B.length := by omega
    have htk : B.take (i + 1) = B.take i ++ [at0 B i] := by rw [List.take_succ_eq_append_getElem hil, at0_eq hil]
    have e1 : IntKind.i64.wrap ((i : Int) + 1) = ((i + 1 : Nat) : Int) := (by first | (simp only [IntKind.wrap_i64]; omega) | omega)
    rw [e1]
    clear e1
    refine (h3.no m11).cellB (by omega) ?_
    intro w16 e16
    have m16 : Mod no w11 w16 := by subst e16; exact Mod.alloc _ _
    have b16 : w16.heap[w11.heap.size]? = some (.cells #[.string (ByteArray.mk #[]), .string (ByteArray.mk #[]), .string (ByteArray.mk #[])] 35 (0, 0)) := by subst e16; exact empty3
    clear e16
    refine put3 b16 fun w22 m22 b22 => ⟨_, by rw [cl1 b22]; rfl, ?_⟩
    have m1122 : Mod no w11 w22 := m16.new m22 fun k hk => by cases hk; exact Nat.le_refl _
    have hx22 := hx.no m1122
    rw [toList_beq]
    refine ifK_not (fun hq => ?_) (fun hq => ?_)
    · refine ⟨_, by rw [cl1 b22]; rfl, _, by rw [cl1 b22]; rfl, _, by rw [cl1 b22]; rfl, ?_⟩
      intro w27 e27
      have m27 : Mod no w22 w27 := by subst e27; exact Mod.alloc _ _
      have b27 : Bc w27 w22.heap.size (at0 B i) := by subst e27; exact new_at _ _
      clear e27
      obtain ⟨p', s', w29, hrun, hx29, m29, hnew⟩ := pushB (hx22.no m27) b27 (by omega)
      have g1 := m11.size
      have g2 := m1122.size
      have g3 := m27.size
      refine ⟨_, w29, hrun, _, _, _, rfl, ⟨i + 1, rfl, by omega, ((m11.trans m1122).trans m27).new m29 hn, ?_, fun k hk => (hnew k hk).elim (hn k) fun h => by omega⟩, by simp only; omega⟩
      rw [htk, List.filter_append, List.filter_cons_of_pos (by rw [hq]; rfl)]
      exact hx29
    · refine ⟨⟨i + 1, rfl, by omega, m11.trans m1122, ?_, hn⟩, by simp only; omega⟩
      rw [htk, List.filter_append, List.filter_cons_of_neg (by rw [hq]; simp), List.filter_nil, List.append_nil]
      exact hx22
  · have hti : B.take i = B := List.take_of_length_le (by omega)
    rw [hti] at hx hql
    have h1' := m11.at' h1
    refine ⟨a', l', c', by rw [cl1 h1']; rfl, ⟨_, by rw [cl2 h1']; rfl⟩, fz2 h1' _ _, ?_⟩
    intro w39 e39
    have m39 : Mod (on r) w11 w39 := by subst e39; exact Mod.set2 _ _ _ _ _
    have b39 : w39.heap[r]? = some (.cells #[.slice a l c, .slice p q s] 29 (0, 0)) := by subst e39; rw [set2 h1']; rfl
    clear e39
    have hpr : ¬ rowB p r := fun hk => by have := hn r hk; omega
    have h' := h w39 ⟨a, l, c, p, q, s, b39, (h2.no m11).mod m39 (fun k hk hS => by cases hS; exact h4 hk), hx.mod m39 (fun k hk hS => by cases hS; exact hpr hk), h4, hpr⟩ (m11.no_trans m39)
    have e1 : IntKind.i64.wrap ((l' : Int) - (q : Int)) = (B.length : Int) - ((B.filter fun b => !decide (b.q = n)).length : Nat) := by rw [hxl, hql]; exact (by first | (simp only [IntKind.wrap_i64]; omega) | omega)
    rw [e1]
    exact h'
end
end Go.Proofs.YtehhhkcemmfjpaaGreatDoor

/- The reference's Unbind. -/
namespace Go.Proofs.YtehhhkcemmfjpaaGreatDoor
open Go Go.Proofs.YtehhhkcemmfjpaaGreatDoor Go.Proofs.YtehhhkcemmfjpaaGreatDoor.St

theorem unbindR_ok {w : World} {r : Nat} {X : List Exc} {B : List Bnd} (hR : RTb w r X B) (b : Bnd) (hl : B.length < 1000000000) (R : Value → World → Prop)
    (h : ∀ w', RTb w' r X (if b ∈ B then B.filter fun x => !decide (x = b) else B) → Mod (on r) w w' → R (.int .i64 (if b ∈ B then 0 else 3)) w') :
    Ca Tryz.prog 40 #[.pointer (some ⟨r, 0, none⟩), .agg ⟨b.cs⟩] w R := by
  refine (ca40 (some ⟨r, 0, none⟩) b.x b.q b.p w R ?_ : Ca _ _ _ _ _)
  intro w0 e0
  have m0 : Mod no w w0 := by subst e0; exact Mod.alloc _ _
  have b0 : Bc w0 w.heap.size b := by subst e0; exact new_at _ _
  clear e0
  refine ⟨_, by rw [cl1 b0]; rfl, _, by rw [cl1 b0]; rfl, _, by rw [cl1 b0]; rfl, ?_⟩
  refine (hasR_ok (hR.no m0) b hl _ fun w5 m5 => ?_ : Ca _ _ _ _ _)
  refine ⟨_, rfl, ?_⟩
  have m05 := m0.trans m5
  have hR5 := hR.no m05
  have b5 := m5.at' b0
  by_cases hb : b ∈ B
  · rw [if_pos hb, if_pos hb] at h
    rw [decide_eq_true hb]
    refine ifK_of (fun h => by cases h) fun _ => ?_
    obtain ⟨a, l, c, a', l', c', h1, h2, h3, h4, h5⟩ := hR5.ex
    have hxl := h3.len.1
    have hrlt : r < w.heap.size := by obtain ⟨_, _, _, _, _, _, hh, _⟩ := hR.ex; exact lt_of_heap hh
    have g0 := m05.size
    refine ⟨a', l', c', by rw [cl1 h1]; rfl, ?_⟩
    refine ⟨fun p q s x w' => ∃ i : Nat, x = i ∧ i ≤ l' ∧ Mod no w5 w' ∧ Rx bndL 35 w' p q s ((B.take i).filter fun x => !decide (x = b)) ∧ ∀ k, rowB p k → w5.heap.size ≤ k, fun _ _ _ x _ => ((l' : Int) - x).toNat,
      ⟨0, rfl, by omega, Mod.refl _ _, Row.empty _ _ _, fun k hk => by cases hk⟩, ?_⟩
    rintro _ p q s _ w11 ⟨i, rfl, hi, m11, hx, hn⟩
    have hql := hx.len.1
    have hqi : q ≤ i := by
      have : ((B.take i).filter fun x => !decide (x = b)).length ≤ (B.take i).length := List.length_filter_le _ _
      rw [List.length_take] at this
      omega
    refine ifK_dec (fun hlt => ?_) (fun hge => ?_)
    · have hil : i < B.length := by omega
      have htk : B.take (i + 1) = B.take i ++ [at0 B i] := by rw [List.take_succ_eq_append_getElem hil, at0_eq hil]
      have e1 : IntKind.i64.wrap ((i : Int) + 1) = ((i + 1 : Nat) : Int) := (by first | (simp only [IntKind.wrap_i64]; omega) | omega)
      rw [e1]
      clear e1
      refine (h3.no m11).cellB (by omega) ?_
      intro w16 e16
      have m16 : Mod no w11 w16 := by subst e16; exact Mod.alloc _ _
      have b16 : w16.heap[w11.heap.size]? = some (.cells #[.string (ByteArray.mk #[]), .string (ByteArray.mk #[]), .string (ByteArray.mk #[])] 35 (0, 0)) := by subst e16; exact empty3
      clear e16
      refine put3 b16 fun w22 m22 b22 => ?_
      have m1122 : Mod no w11 w22 := m16.new m22 fun k hk => by cases hk; exact Nat.le_refl _
      have hx22 := hx.no m1122
      have bb := m1122.at' (m11.at' b5)
      refine ⟨_, by rw [cl1 b22]; rfl, _, by rw [cl1 b22]; rfl, _, by rw [cl1 b22]; rfl, _, by rw [cl1 bb]; rfl, _, by rw [cl1 bb]; rfl, _, by rw [cl1 bb]; rfl, ?_⟩
      refine eqA_agg bnd_s.guard (bnd_s.eq (at0 B i) b) (ifK_not (fun hq => ?_) (fun hq => ?_))
      · refine ⟨_, by rw [cl1 b22]; rfl, _, by rw [cl1 b22]; rfl, _, by rw [cl1 b22]; rfl, ?_⟩
        intro w27 e27
        have m27 : Mod no w22 w27 := by subst e27; exact Mod.alloc _ _
        have b27 : Bc w27 w22.heap.size (at0 B i) := by subst e27; exact new_at _ _
        clear e27
        obtain ⟨p', s', w29, hrun, hx29, m29, hnew⟩ := pushB (hx22.no m27) b27 (by omega)
        have g1 := m11.size
        have g2 := m1122.size
        have g3 := m27.size
        refine ⟨_, w29, hrun, _, _, _, rfl, ⟨i + 1, rfl, by omega, ((m11.trans m1122).trans m27).new m29 hn, ?_, fun k hk => (hnew k hk).elim (hn k) fun h => by omega⟩, by simp only; omega⟩
        rw [htk, List.filter_append, List.filter_cons_of_pos (by rw [hq]; rfl)]
        exact hx29
      · refine ⟨⟨i + 1, rfl, by omega, m11.trans m1122, ?_, hn⟩, by simp only; omega⟩
        rw [htk, List.filter_append, List.filter_cons_of_neg (by rw [hq]; simp), List.filter_nil, List.append_nil]
        exact hx22
    · have hti : B.take i = B := List.take_of_length_le (by omega)
      rw [hti] at hx
      have h1' := m11.at' h1
      refine ⟨⟨_, by rw [cl2 h1']; rfl⟩, fz2 h1' _ _, ?_⟩
      intro w39 e39
      have m39 : Mod (on r) w11 w39 := by subst e39; exact Mod.set2 _ _ _ _ _
      have b39 : w39.heap[r]? = some (.cells #[.slice a l c, .slice p q s] 29 (0, 0)) := by subst e39; rw [set2 h1']; rfl
      clear e39
      have hpr : ¬ rowB p r := fun hk => by have := hn r hk; omega
      exact h w39 ⟨a, l, c, p, q, s, b39, (h2.no m11).mod m39 (fun k hk hS => by cases hS; exact h4 hk), hx.mod m39 (fun k hk hS => by cases hS; exact hpr hk), h4, hpr⟩ ((m05.trans m11).no_trans m39)
  · rw [if_neg hb, if_neg hb] at h
    rw [decide_eq_false hb]
    exact ifK_of (fun _ => h w5 hR5 m05.of_no) fun h => by cases h
end Go.Proofs.YtehhhkcemmfjpaaGreatDoor

/- The formulas of functions, printed by a program of mine (gen.py) out of the translation. -/
namespace Go.Proofs.YtehhhkcemmfjpaaGreatDoor
open Go Go.Proofs.YtehhhkcemmfjpaaGreatDoor.St
open _root_.Go.Value (string int bool slice pointer agg tuple map func nilFunc iface)
open _root_.Go.World (cell? frozen? setCell alloc drew)
open _root_.Go.Addr (add)
open _root_.Go.Obj (cells)
open _root_.Go.IntKind (wrap i64 u64 i32 u32 u8)
set_option maxRecDepth 100000

/-- (*staith/staithref07.Table).Drop -/
noncomputable def C38 : Code := (Tryz.f38.body).getD .skip
def pl38 : Nat → Plan := fun _ => .done
def ls38 : Nat → List (Nat × LT)
  | 6 => [(0, .agg []), (7, (.one .slice))]
  | 8 => [(7, (.one .slice)), (26, (.one (.int .i64)))]
  | 17 => [(10, (.one .slice)), (44, (.one (.int .i64)))]
  | _ => []
def W38 (t : Option Addr) (name : ByteArray) (w : World) (R : Value → World → Prop) : Prop :=
  (Ca Tryz.prog (43) (Array.mk [pointer t, string name]) (w) (fun v0 => (fun w1 =>
(∃ s2 : ByteArray, (∃ x3 : Int, (∃ b4 : Bool, (∃ b5 : Bool, ((v0 = tuple (Array.mk (List.reverse [bool b5, agg (Array.mk (List.reverse [bool b4, int i64 x3, string s2]))]))) ∧ (atW (alloc w1 (cells (Array.mk [string (ByteArray.mk #[]), int i64 0, bool false]) 33 (0, 0))) (fun w6 =>
(st1 (add (nw w1) 0) (string s2) w6 (fun w8 =>
(st1 (add (nw w1) 1) (int i64 x3) w8 (fun w10 =>
(st1 (add (nw w1) 2) (bool b4) w10 (fun w12 =>
(ifK (!b5)
(R (int i64 3) (w12))
(∃ z13 : Option Addr → Nat → Nat → World → Prop, ((onP (t) (fun a14 =>
(∃ p15 : Option Addr, (∃ n16 : Nat, (∃ n17 : Nat, ((cell? w12 (add a14 0) = some (slice p15 n16 n17)) ∧ (∃ z18 : Option Addr → Nat → Nat → Int → World → Prop, (∃ z19 : Option Addr → Nat → Nat → Int → World → Nat, ((z18 (none) (0) (0) (0) (w12)) ∧ (∀ (_ : Nat → Value), (∀ (p21 : Option Addr), (∀ (n22 : Nat), (∀ (n23 : Nat), (∀ (x24 : Int), (∀ (w25 : World), ((z18 (p21) (n22) (n23) (x24) (w25)) → (ifK (decide (x24 < (↑n16 : Int)))
(∃ a26 : Addr, ((p15 = some a26) ∧ (((0 : Int) ≤ x24) ∧ (((x24 : Int) < (↑n16 : Int)) ∧ (∃ s27 : ByteArray, ((cell? w25 (add (add a26 (Int.toNat x24 * 3)) 0) = some (string s27)) ∧ (∃ x28 : Int, ((cell? w25 (add (add a26 (Int.toNat x24 * 3)) 1) = some (int i64 x28)) ∧ (∃ b29 : Bool, ((cell? w25 (add (add a26 (Int.toNat x24 * 3)) 2) = some (bool b29)) ∧ (atW (alloc w25 (cells (Array.mk [string (ByteArray.mk #[]), int i64 0, bool false]) 33 (0, 0))) (fun w30 =>
(st1 (add (nw w25) 0) (string s27) w30 (fun w32 =>
(st1 (add (nw w25) 1) (int i64 x28) w32 (fun w34 =>
(st1 (add (nw w25) 2) (bool b29) w34 (fun w36 =>
(∃ s37 : ByteArray, ((cell? w36 (add (nw w25) 0) = some (string s37)) ∧ (ifK (!ByteArray.toList s37 == ByteArray.toList name)
(∃ s38 : ByteArray, ((cell? w36 (add (nw w25) 0) = some (string s38)) ∧ (∃ x39 : Int, ((cell? w36 (add (nw w25) 1) = some (int i64 x39)) ∧ (∃ b40 : Bool, ((cell? w36 (add (nw w25) 2) = some (bool b40)) ∧ (atW (alloc w36 (cells (Array.mk [string s38, int i64 x39, bool b40]) 33 (0, 0))) (fun w41 =>
(∃ v42 : Value, (∃ w43 : World, ((Sem.run Tryz.prog (Builtin.append_ (Array.mk [26, 26]) 26 (Array.mk [slice p21 n22 n23, slice (some (nw w36)) 1 1])) w41 = Result.ok v42 w43) ∧ (∃ p44 : Option Addr, (∃ n45 : Nat, (∃ n46 : Nat, ((v42 = slice p44 n45 n46) ∧ ((z18 (p44) (n45) (n46) (wrap i64 (x24 + 1)) (w43)) ∧ (z19 p44 n45 n46 (wrap i64 (x24 + 1)) w43 < z19 p21 n22 n23 x24 w25)))))))))))))))))
((z18 (p21) (n22) (n23) (wrap i64 (x24 + 1)) (w36)) ∧ (z19 p21 n22 n23 (wrap i64 (x24 + 1)) w36 < z19 p21 n22 n23 x24 w25)))))))))))))))))))))))
(z13 (p21) (n22) (n23) (w25))))))))))))))))))) ∧ (∀ (_ : Nat → Value), (∀ (p48 : Option Addr), (∀ (n49 : Nat), (∀ (n50 : Nat), (∀ (w51 : World), ((z13 (p48) (n49) (n50) (w51)) → (onP (t) (fun a52 =>
(∃ p53 : Option Addr, (∃ n54 : Nat, (∃ n55 : Nat, ((cell? w51 (add a52 1) = some (slice p53 n54 n55)) ∧ (∃ z56 : Option Addr → Nat → Nat → Int → World → Prop, (∃ z57 : Option Addr → Nat → Nat → Int → World → Nat, ((z56 (none) (0) (0) (0) (w51)) ∧ (∀ (_ : Nat → Value), (∀ (p59 : Option Addr), (∀ (n60 : Nat), (∀ (n61 : Nat), (∀ (x62 : Int), (∀ (w63 : World), ((z56 (p59) (n60) (n61) (x62) (w63)) → (ifK (decide (x62 < (↑n54 : Int)))
(∃ a64 : Addr, ((p53 = some a64) ∧ (((0 : Int) ≤ x62) ∧ (((x62 : Int) < (↑n54 : Int)) ∧ (∃ s65 : ByteArray, ((cell? w63 (add (add a64 (Int.toNat x62 * 3)) 0) = some (string s65)) ∧ (∃ s66 : ByteArray, ((cell? w63 (add (add a64 (Int.toNat x62 * 3)) 1) = some (string s66)) ∧ (∃ s67 : ByteArray, ((cell? w63 (add (add a64 (Int.toNat x62 * 3)) 2) = some (string s67)) ∧ (atW (alloc w63 (cells (Array.mk [string (ByteArray.mk #[]), string (ByteArray.mk #[]), string (ByteArray.mk #[])]) 35 (0, 0))) (fun w68 =>
(st1 (add (nw w63) 0) (string s65) w68 (fun w70 =>
(st1 (add (nw w63) 1) (string s66) w70 (fun w72 =>
(st1 (add (nw w63) 2) (string s67) w72 (fun w74 =>
(∃ s75 : ByteArray, ((cell? w74 (add (nw w63) 0) = some (string s75)) ∧ (ifK (!ByteArray.toList s75 == ByteArray.toList name)
(∃ s76 : ByteArray, ((cell? w74 (add (nw w63) 0) = some (string s76)) ∧ (∃ s77 : ByteArray, ((cell? w74 (add (nw w63) 1) = some (string s77)) ∧ (∃ s78 : ByteArray, ((cell? w74 (add (nw w63) 2) = some (string s78)) ∧ (atW (alloc w74 (cells (Array.mk [string s76, string s77, string s78]) 35 (0, 0))) (fun w79 =>
(∃ v80 : Value, (∃ w81 : World, ((Sem.run Tryz.prog (Builtin.append_ (Array.mk [27, 27]) 27 (Array.mk [slice p59 n60 n61, slice (some (nw w74)) 1 1])) w79 = Result.ok v80 w81) ∧ (∃ p82 : Option Addr, (∃ n83 : Nat, (∃ n84 : Nat, ((v80 = slice p82 n83 n84) ∧ ((z56 (p82) (n83) (n84) (wrap i64 (x62 + 1)) (w81)) ∧ (z57 p82 n83 n84 (wrap i64 (x62 + 1)) w81 < z57 p59 n60 n61 x62 w63)))))))))))))))))
((z56 (p59) (n60) (n61) (wrap i64 (x62 + 1)) (w74)) ∧ (z57 p59 n60 n61 (wrap i64 (x62 + 1)) w74 < z57 p59 n60 n61 x62 w63)))))))))))))))))))))))
(onP (t) (fun a85 =>
(st1 (add (add a85 0) 0) (slice p48 n49 n50) w63 (fun w87 =>
(onP (t) (fun a88 =>
(st1 (add (add a88 1) 0) (slice p59 n60 n61) w87 (fun w90 =>
(R (int i64 0) (w90))))))))))))))))))))))))))))))))))))))))))))))))))))
theorem ca38 (t : Option Addr) (name : ByteArray) (w : World) (R : Value → World → Prop) (h : W38 t name w R) : Ca Tryz.prog 38 ⟨[(.pointer t), (.string name)]⟩ w R :=
  caB (fn := Tryz.f38) (pl := pl38) (ls := ls38) Tryz.func38 (by kernel_rfl) (by kernel_rfl) h
end Go.Proofs.YtehhhkcemmfjpaaGreatDoor

/- The reference's Drop. -/
namespace Go.Proofs.YtehhhkcemmfjpaaGreatDoor
open Go Go.Proofs.YtehhhkcemmfjpaaGreatDoor Go.Proofs.YtehhhkcemmfjpaaGreatDoor.St

/-- append(l, x), where x lies in a block of its own. -/
theorem pushX {w : World} {a : Option Addr} {l c : Nat} {L : List Exc} (h : Rx excL 33 w a l c L) {k : Nat} {x : Exc} (hk : Xc w k x) (hn : l + 1 ≤ 1099511627776) :
    ∃ a' c' w', (Builtin.append_ #[26, 26] 26 #[.slice a l c, .slice (some ⟨k, 0, none⟩) 1 1]).run Tryz.prog w = .ok (.slice a' (l + 1) c') w' ∧ Rx excL 33 w' a' (l + 1) c' (L ++ [x]) ∧ Mod (rowB a) w w' ∧ (∀ k, rowB a' k → rowB a k ∨ w.heap.size ≤ k) :=
  Row.push (P := Tryz.prog) (t := 26) (ty := 26) (by kernel_rfl) h (b := some ⟨k, 0, none⟩) (m := 1) (cc := 1) (ys := [x]) rfl (fun ad had j v hj => by
    cases had
    rw [cl1 hk]
    simpa [excL, Exc.cs] using hj) (fun h => by cases h) hn
theorem dropR_ok {w : World} {r : Nat} {X : List Exc} {B : List Bnd} (hR : RTb w r X B) (n : ByteArray) (hl : B.length < 1000000000) (hlx : X.length < 1000000000) (R : Value → World → Prop)
    (h : ∀ w', RTb w' r (if hx n X then X.filter fun e => !(e.n == n) else X) (if hx n X then B.filter fun b => !decide (b.x = n) else B) → Mod (on r) w w' → R (.int .i64 (if hx n X then 0 else 3)) w') :
    Ca Tryz.prog 38 #[.pointer (some ⟨r, 0, none⟩), .string n] w R := by
  refine ca38 (some ⟨r, 0, none⟩) n w R ?_
  refine findR_ok hR n hlx _ fun w1 m1 => ⟨_, _, _, _, rfl, ?_⟩
  intro w6 e6
  have m6 : Mod no w1 w6 := by subst e6; exact Mod.alloc _ _
  have b6 : Xc w6 w1.heap.size exc0 := by subst e6; exact new_at _ _
  clear e6
  refine put3 b6 fun w12 m12 b12 => ?_
  have m112 : Mod no w1 w12 := m6.new m12 fun k hk => by cases hk; exact Nat.le_refl _
  have m012 := m1.trans m112
  have hR12 := hR.no m012
  cases hh : hx n X with
  | false =>
    rw [hh] at h
    exact ifK_of (fun _ => h w12 hR12 m012.of_no) fun h => by cases h
  | true =>
    rw [hh] at h
    simp only [if_true] at h
    refine ifK_of (fun h => by cases h) fun _ => ?_
    obtain ⟨a, l, c, a', l', c', h1, h2, h3, h4, h5⟩ := hR12.ex
    have hxl := h2.len.1
    have hbl := h3.len.1
    have hrlt : r < w.heap.size := by obtain ⟨_, _, _, _, _, _, hh, _⟩ := hR.ex; exact lt_of_heap hh
    have g0 := m012.size
    refine ⟨fun p q s w' => Mod no w12 w' ∧ Rx excL 33 w' p q s (X.filter fun e => !(e.n == n)) ∧ ∀ k, rowB p k → w12.heap.size ≤ k, ?_, ?_⟩
    · refine ⟨a, l, c, by rw [cl1 h1]; rfl, ?_⟩
      refine ⟨fun p q s x w' => ∃ i : Nat, x = i ∧ i ≤ l ∧ Mod no w12 w' ∧ Rx excL 33 w' p q s ((X.take i).filter fun e => !(e.n == n)) ∧ ∀ k, rowB p k → w12.heap.size ≤ k, fun _ _ _ x _ => ((l : Int) - x).toNat,
        ⟨0, rfl, by omega, Mod.refl _ _, Row.empty _ _ _, fun k hk => by cases hk⟩, ?_⟩
      rintro _ p q s _ w11 ⟨i, rfl, hi, m11, hx, hn⟩
      have hql := hx.len.1
      have hqi : q ≤ i := by
        have : ((X.take i).filter fun e => !(e.n == n)).length ≤ (X.take i).length := List.length_filter_le _ _
        rw [List.length_take] at this
        omega
      refine ifK_dec (fun hlt => ?_) (fun hge => ?_)
      · have hil : i < X.length := by omega
        have htk : X.take (i + 1) = X.take i ++ [at0 X i] := by rw [List.take_succ_eq_append_getElem hil, at0_eq hil]
        have e1 : IntKind.i64.wrap ((i : Int) + 1) = ((i + 1 : Nat) : Int) := (by first | (simp only [IntKind.wrap_i64]; omega) | omega)
        rw [e1]
        clear e1
        refine (h2.no m11).cellX (by omega) ?_
        intro w16 e16
        have m16 : Mod no w11 w16 := by subst e16; exact Mod.alloc _ _
        have b16 : Xc w16 w11.heap.size exc0 := by subst e16; exact new_at _ _
        clear e16
        refine put3 b16 fun w22 m22 b22 => ⟨_, by rw [cl1 b22]; rfl, ?_⟩
        have m1122 : Mod no w11 w22 := m16.new m22 fun k hk => by cases hk; exact Nat.le_refl _
        have hx22 := hx.no m1122
        rw [toList_beq]
        refine ifK_not (fun hq => ?_) (fun hq => ?_)
        · refine ⟨_, by rw [cl1 b22]; rfl, _, by rw [cl1 b22]; rfl, _, by rw [cl1 b22]; rfl, ?_⟩
          intro w27 e27
          have m27 : Mod no w22 w27 := by subst e27; exact Mod.alloc _ _
          have b27 : Xc w27 w22.heap.size (at0 X i) := by subst e27; exact new_at _ _
          clear e27
          obtain ⟨p', s', w29, hrun, hx29, m29, hnew⟩ := pushX (hx22.no m27) b27 (by omega)
          have g1 := m11.size
          have g2 := m1122.size
          have g3 := m27.size
          refine ⟨_, w29, hrun, _, _, _, rfl, ⟨i + 1, rfl, by omega, ((m11.trans m1122).trans m27).new m29 hn, ?_, fun k hk => (hnew k hk).elim (hn k) fun h => by omega⟩, by simp only; omega⟩
          have : ((at0 X i).n == n) = false := beq_false_of_ne (of_decide_eq_false hq)
          rw [htk, List.filter_append, List.filter_cons_of_pos (by rw [this]; rfl)]
          exact hx29
        · refine ⟨⟨i + 1, rfl, by omega, m11.trans m1122, ?_, hn⟩, by simp only; omega⟩
          have : ((at0 X i).n == n) = true := by rw [of_decide_eq_true hq]; exact beq_self_eq_true _
          rw [htk, List.filter_append, List.filter_cons_of_neg (by rw [this]; simp), List.filter_nil, List.append_nil]
          exact hx22
      · have hti : X.take i = X := List.take_of_length_le (by omega)
        rw [hti] at hx
        exact ⟨m11, hx, hn⟩
    rintro _ xp xq xs w51 ⟨m51, hX, hXn⟩
    have h1 := m51.at' h1
    have h3 := h3.no m51
    refine ⟨a', l', c', by rw [cl1 h1]; rfl, ?_⟩
    refine ⟨fun p q s x w' => ∃ i : Nat, x = i ∧ i ≤ l' ∧ Mod no w51 w' ∧ Rx bndL 35 w' p q s ((B.take i).filter fun b => !decide (b.x = n)) ∧ ∀ k, rowB p k → w51.heap.size ≤ k, fun _ _ _ x _ => ((l' : Int) - x).toNat,
      ⟨0, rfl, by omega, Mod.refl _ _, Row.empty _ _ _, fun k hk => by cases hk⟩, ?_⟩
    rintro _ p q s _ w11 ⟨i, rfl, hi, m11, hx, hn⟩
    have hql := hx.len.1
    have hqi : q ≤ i := by
      have : ((B.take i).filter fun b => !decide (b.x = n)).length ≤ (B.take i).length := List.length_filter_le _ _
      rw [List.length_take] at this
      omega
    refine ifK_dec (fun hlt => ?_) (fun hge => ?_)
    · have hil : i < B.length := by omega
      have htk : B.take (i + 1) = B.take i ++ [at0 B i] := by rw [List.take_succ_eq_append_getElem hil, at0_eq hil]
      have e1 : IntKind.i64.wrap ((i : Int) + 1) = ((i + 1 : Nat) : Int) := (by first | (simp only [IntKind.wrap_i64]; omega) | omega)
      rw [e1]
      clear e1
      refine (h3.no m11).cellB (by omega) ?_
      intro w16 e16
      have m16 : Mod no w11 w16 := by subst e16; exact Mod.alloc _ _
      have b16 : w16.heap[w11.heap.size]? = some (.cells #[.string (ByteArray.mk #[]), .string (ByteArray.mk #[]), .string (ByteArray.mk #[])] 35 (0, 0)) := by subst e16; exact empty3
      clear e16
      refine put3 b16 fun w22 m22 b22 => ⟨_, by rw [cl1 b22]; rfl, ?_⟩
      have m1122 : Mod no w11 w22 := m16.new m22 fun k hk => by cases hk; exact Nat.le_refl _
      have hx22 := hx.no m1122
      rw [toList_beq]
      refine ifK_not (fun hq => ?_) (fun hq => ?_)
      · refine ⟨_, by rw [cl1 b22]; rfl, _, by rw [cl1 b22]; rfl, _, by rw [cl1 b22]; rfl, ?_⟩
        intro w27 e27
        have m27 : Mod no w22 w27 := by subst e27; exact Mod.alloc _ _
        have b27 : Bc w27 w22.heap.size (at0 B i) := by subst e27; exact new_at _ _
        clear e27
        obtain ⟨p', s', w29, hrun, hx29, m29, hnew⟩ := pushB (hx22.no m27) b27 (by omega)
        have g1 := m11.size
        have g2 := m1122.size
        have g3 := m27.size
        refine ⟨_, w29, hrun, _, _, _, rfl, ⟨i + 1, rfl, by omega, ((m11.trans m1122).trans m27).new m29 hn, ?_, fun k hk => (hnew k hk).elim (hn k) fun h => by omega⟩, by simp only; omega⟩
        rw [htk, List.filter_append, List.filter_cons_of_pos (by rw [hq]; rfl)]
        exact hx29
      · refine ⟨⟨i + 1, rfl, by omega, m11.trans m1122, ?_, hn⟩, by simp only; omega⟩
        rw [htk, List.filter_append, List.filter_cons_of_neg (by rw [hq]; simp), List.filter_nil, List.append_nil]
        exact hx22
    · have hti : B.take i = B := List.take_of_length_le (by omega)
      rw [hti] at hx
      have h1' := m11.at' h1
      have g5 := m51.size
      have hX := hX.no m11
      refine ⟨⟨_, by rw [cl2 h1']; rfl⟩, fz2 h1' _ _, ?_⟩
      intro w87 e87
      have m87 : Mod (on r) w11 w87 := by subst e87; exact Mod.set2 _ _ _ _ _
      have b87 : w87.heap[r]? = some (.cells #[.slice xp xq xs, .slice a' l' c'] 29 (0, 0)) := by subst e87; rw [set2 h1']; rfl
      clear e87
      refine ⟨⟨_, by rw [cl2 b87]; rfl⟩, fz2 b87 _ _, ?_⟩
      intro w90 e90
      have m90 : Mod (on r) w87 w90 := by subst e90; exact Mod.set2 _ _ _ _ _
      have b90 : w90.heap[r]? = some (.cells #[.slice xp xq xs, .slice p q s] 29 (0, 0)) := by subst e90; rw [set2 b87]; rfl
      clear e90
      have hpr : ¬ rowB p r := fun hk => by have := hn r hk; omega
      have hxr : ¬ rowB xp r := fun hk => by have := hXn r hk; omega
      have m := m87.trans m90
      exact h w90 ⟨xp, xq, xs, p, q, s, b90, hX.mod m (fun k hk hS => by cases hS; exact hxr hk), hx.mod m (fun k hk hS => by cases hS; exact hpr hk), hxr, hpr⟩ (((m012.trans m51).trans m11).no_trans m)
end Go.Proofs.YtehhhkcemmfjpaaGreatDoor

/- The formulas of functions, printed by a program of mine (gen.py) out of the translation. -/
namespace Go.Proofs.YtehhhkcemmfjpaaGreatDoor
open Go Go.Proofs.YtehhhkcemmfjpaaGreatDoor.St
open _root_.Go.Value (string int bool slice pointer agg tuple map func nilFunc iface)
open _root_.Go.World (cell? frozen? setCell alloc drew)
open _root_.Go.Addr (add)
open _root_.Go.Obj (cells)
open _root_.Go.IntKind (wrap i64 u64 i32 u32 u8)
set_option maxRecDepth 100000

/-- (*staith/staithref07.Table).Declare -/
noncomputable def C36 : Code := (Tryz.f36.body).getD .skip
def pl36 : Nat → Plan
  | 10 => (.quiet 1 (.quiet 2 (.quiet 3 (.quiet 4 (.quiet 6 (.fork (.eff 0 [4, 6] (.fork (.eff 5 [6] (.eff 7 [4] (.eff 8 [] (.quiet 9 .done)))) (.eff 7 [4] (.eff 5 [6] (.eff 8 [] (.quiet 9 .done)))))) (.eff 7 [4] (.eff 0 [4, 6] (.eff 5 [6] (.eff 8 [] (.quiet 9 .done)))))))))))
  | 12 => (.quiet 0 (.quiet 1 (.quiet 2 (.quiet 3 (.quiet 4 (.quiet 5 (.quiet 6 (.quiet 7 (.quiet 8 (.quiet 9 (.quiet 10 (.quiet 11 (.quiet 12 (.quiet 13 (.quiet 14 (.quiet 15 .done))))))))))))))))
  | 14 => (.quiet 0 (.quiet 1 (.quiet 2 (.quiet 3 (.quiet 4 (.quiet 5 (.quiet 6 (.quiet 7 (.quiet 8 (.quiet 9 (.quiet 10 (.quiet 11 (.quiet 12 (.quiet 13 (.quiet 14 (.eff 15 [] (.quiet 16 (.eff 17 [] .done))))))))))))))))))
  | _ => .done
def ls36 : Nat → List (Nat × LT)
  | 5 => [(0, .agg []), (5, (.one .ptr)), (6, (.one .bool))]
  | 14 => [(0, .agg []), (7, (.one .slice))]
  | 17 => [(8, (.one (.int .i64)))]
  | _ => []
def W36 (t : Option Addr) (x0_ : ByteArray) (x1_ : Int) (x2_ : Bool) (w : World) (R : Value → World → Prop) : Prop :=
  (atW (alloc w (cells (Array.mk [string x0_, int i64 x1_, bool x2_]) 33 (0, 0))) (fun w0 =>
(∃ s1 : ByteArray, ((cell? w0 (add (nw w) 0) = some (string s1)) ∧ (∃ x2 : Int, ((cell? w0 (add (nw w) 1) = some (int i64 x2)) ∧ (∃ b3 : Bool, ((cell? w0 (add (nw w) 2) = some (bool b3)) ∧ (Ca Tryz.prog (37) (Array.mk [agg (Array.mk (List.reverse [bool b3, int i64 x2, string s1]))]) (w0) (fun v4 => (fun w5 =>
(∃ b6 : Bool, ((v4 = bool b6) ∧ (ifK (!b6)
(R (int i64 2) (w5))
(∃ z7 : Option Addr → Bool → World → Prop, ((∃ s8 : ByteArray, ((cell? w5 (add (nw w) 0) = some (string s8)) ∧ (Ca Tryz.prog (43) (Array.mk [pointer t, string s8]) (w5) (fun v9 => (fun w10 =>
(∃ s11 : ByteArray, (∃ x12 : Int, (∃ b13 : Bool, (∃ b14 : Bool, ((v9 = tuple (Array.mk (List.reverse [bool b14, agg (Array.mk (List.reverse [bool b13, int i64 x12, string s11]))]))) ∧ (atW (alloc w10 (cells (Array.mk [string (ByteArray.mk #[]), int i64 0, bool false]) 33 (0, 0))) (fun w15 =>
(st1 (add (nw w10) 0) (string s11) w15 (fun w17 =>
(st1 (add (nw w10) 1) (int i64 x12) w17 (fun w19 =>
(st1 (add (nw w10) 2) (bool b13) w19 (fun w21 =>
(z7 (some (nw w10)) (b14) (w21)))))))))))))))))))) ∧ (∀ (_ : Nat → Value), (∀ (p23 : Option Addr), (∀ (b24 : Bool), (∀ (w25 : World), ((z7 (p23) (b24) (w25)) → (ifK (b24)
(∃ s26 : ByteArray, ((cell? w25 (add (nw w) 0) = some (string s26)) ∧ (∃ x27 : Int, ((cell? w25 (add (nw w) 1) = some (int i64 x27)) ∧ (∃ b28 : Bool, ((cell? w25 (add (nw w) 2) = some (bool b28)) ∧ (onP (p23) (fun a29 =>
(∃ s30 : ByteArray, ((cell? w25 (add a29 0) = some (string s30)) ∧ (∃ x31 : Int, ((cell? w25 (add a29 1) = some (int i64 x31)) ∧ (∃ b32 : Bool, ((cell? w25 (add a29 2) = some (bool b32)) ∧ (eqA Tryz.prog 33 (agg (Array.mk (List.reverse [bool b28, int i64 x27, string s26]))) (agg (Array.mk (List.reverse [bool b32, int i64 x31, string s30]))) (w25) (fun b33 => (fun w34 =>
(ifK (!b33)
(R (int i64 12) (w34))
(R (int i64 0) (w34))))))))))))))))))))
(onP (t) (fun a35 =>
(∃ p36 : Option Addr, (∃ n37 : Nat, (∃ n38 : Nat, ((cell? w25 (add a35 0) = some (slice p36 n37 n38)) ∧ (ifK (decide ((↑n37 : Int) ≥ 8))
(R (int i64 5) (w25))
(∃ z39 : Option Addr → Nat → Nat → World → Prop, ((atW (drew w25) (fun w40 =>
(onP (t) (fun a41 =>
(∃ p42 : Option Addr, (∃ n43 : Nat, (∃ n44 : Nat, ((cell? w40 (add a41 0) = some (slice p42 n43 n44)) ∧ (∃ s45 : ByteArray, ((cell? w40 (add (nw w) 0) = some (string s45)) ∧ (∃ x46 : Int, ((cell? w40 (add (nw w) 1) = some (int i64 x46)) ∧ (∃ b47 : Bool, ((cell? w40 (add (nw w) 2) = some (bool b47)) ∧ ((atW (alloc w40 (cells (Array.mk []) 33 (0, 0))) (fun w48 =>
((cell? w48 (add (add a41 0) 0) = some (slice p42 n43 n44)) ∧ ((cell? w48 (add (nw w) 0) = some (string s45)) ∧ ((cell? w48 (add (nw w) 1) = some (int i64 x46)) ∧ ((cell? w48 (add (nw w) 2) = some (bool b47)) ∧ ((∃ v49 : Value, (∃ w50 : World, ((Sem.run Tryz.prog (Builtin.append_ (Array.mk [26, 26]) 26 (Array.mk [slice (some (nw w40)) 0 0, slice p42 n43 n44])) w48 = Result.ok v49 w50) ∧ (∃ p51 : Option Addr, (∃ n52 : Nat, (∃ n53 : Nat, ((v49 = slice p51 n52 n53) ∧ ((cell? w50 (add (nw w) 0) = some (string s45)) ∧ ((cell? w50 (add (nw w) 1) = some (int i64 x46)) ∧ ((cell? w50 (add (nw w) 2) = some (bool b47)) ∧ (atW (alloc w50 (cells (Array.mk [string s45, int i64 x46, bool b47]) 33 (0, 0))) (fun w54 =>
((cell? w54 (add (add a41 0) 0) = some (slice p42 n43 n44)) ∧ (∃ v55 : Value, (∃ w56 : World, ((Sem.run Tryz.prog (Builtin.append_ (Array.mk [26, 26]) 26 (Array.mk [slice p51 n52 n53, slice (some (nw w50)) 1 1])) w54 = Result.ok v55 w56) ∧ (∃ p57 : Option Addr, (∃ n58 : Nat, (∃ n59 : Nat, ((v55 = slice p57 n58 n59) ∧ (z39 (p57) (n58) (n59) (w56)))))))))))))))))))))) ∧ (atW (alloc w48 (cells (Array.mk [string s45, int i64 x46, bool b47]) 33 (0, 0))) (fun w60 =>
((cell? w60 (add (add a41 0) 0) = some (slice p42 n43 n44)) ∧ (∃ v61 : Value, (∃ w62 : World, ((Sem.run Tryz.prog (Builtin.append_ (Array.mk [26, 26]) 26 (Array.mk [slice (some (nw w40)) 0 0, slice p42 n43 n44])) w60 = Result.ok v61 w62) ∧ (∃ p63 : Option Addr, (∃ n64 : Nat, (∃ n65 : Nat, ((v61 = slice p63 n64 n65) ∧ ((cell? w62 (add (nw w) 0) = some (string s45)) ∧ ((cell? w62 (add (nw w) 1) = some (int i64 x46)) ∧ ((cell? w62 (add (nw w) 2) = some (bool b47)) ∧ (∃ v66 : Value, (∃ w67 : World, ((Sem.run Tryz.prog (Builtin.append_ (Array.mk [26, 26]) 26 (Array.mk [slice p63 n64 n65, slice (some (nw w48)) 1 1])) w62 = Result.ok v66 w67) ∧ (∃ p68 : Option Addr, (∃ n69 : Nat, (∃ n70 : Nat, ((v66 = slice p68 n69 n70) ∧ (z39 (p68) (n69) (n70) (w67))))))))))))))))))))))))))))) ∧ (atW (alloc w40 (cells (Array.mk [string s45, int i64 x46, bool b47]) 33 (0, 0))) (fun w71 =>
((cell? w71 (add (add a41 0) 0) = some (slice p42 n43 n44)) ∧ (atW (alloc w71 (cells (Array.mk []) 33 (0, 0))) (fun w72 =>
((cell? w72 (add (add a41 0) 0) = some (slice p42 n43 n44)) ∧ ((cell? w72 (add (nw w) 0) = some (string s45)) ∧ ((cell? w72 (add (nw w) 1) = some (int i64 x46)) ∧ ((cell? w72 (add (nw w) 2) = some (bool b47)) ∧ (∃ v73 : Value, (∃ w74 : World, ((Sem.run Tryz.prog (Builtin.append_ (Array.mk [26, 26]) 26 (Array.mk [slice (some (nw w71)) 0 0, slice p42 n43 n44])) w72 = Result.ok v73 w74) ∧ (∃ p75 : Option Addr, (∃ n76 : Nat, (∃ n77 : Nat, ((v73 = slice p75 n76 n77) ∧ ((cell? w74 (add (nw w) 0) = some (string s45)) ∧ ((cell? w74 (add (nw w) 1) = some (int i64 x46)) ∧ ((cell? w74 (add (nw w) 2) = some (bool b47)) ∧ (∃ v78 : Value, (∃ w79 : World, ((Sem.run Tryz.prog (Builtin.append_ (Array.mk [26, 26]) 26 (Array.mk [slice p75 n76 n77, slice (some (nw w40)) 1 1])) w74 = Result.ok v78 w79) ∧ (∃ p80 : Option Addr, (∃ n81 : Nat, (∃ n82 : Nat, ((v78 = slice p80 n81 n82) ∧ (z39 (p80) (n81) (n82) (w79))))))))))))))))))))))))))))))))))))))))))) ∧ (∀ (_ : Nat → Value), (∀ (p84 : Option Addr), (∀ (n85 : Nat), (∀ (n86 : Nat), (∀ (w87 : World), ((z39 (p84) (n85) (n86) (w87)) → (∃ z88 : Int → World → Prop, (∃ z89 : Int → World → Nat, ((z88 (wrap i64 ((↑n85 : Int) - 1)) (w87)) ∧ (∀ (_ : Nat → Value), (∀ (x91 : Int), (∀ (w92 : World), ((z88 (x91) (w92)) → (atW (drew w92) (fun w93 =>
(ifK (decide (x91 > 0))
(∃ a94 : Addr, ((p84 = some a94) ∧ (((0 : Int) ≤ wrap i64 (x91 - 1)) ∧ (((wrap i64 (x91 - 1) : Int) < (↑n85 : Int)) ∧ (∃ s95 : ByteArray, ((cell? w93 (add (add a94 (Int.toNat (wrap i64 (x91 - 1)) * 3)) 0) = some (string s95)) ∧ (∃ a96 : Addr, ((p84 = some a96) ∧ (((0 : Int) ≤ x91) ∧ (((x91 : Int) < (↑n85 : Int)) ∧ (∃ s97 : ByteArray, ((cell? w93 (add (add a96 (Int.toNat x91 * 3)) 0) = some (string s97)) ∧ (ifK (!(Op.bytesLess (ByteArray.toList s95) (ByteArray.toList s97) || ByteArray.toList s95 == ByteArray.toList s97))
(atW (drew w93) (fun w98 =>
(∃ a99 : Addr, ((p84 = some a99) ∧ (((0 : Int) ≤ x91) ∧ (((x91 : Int) < (↑n85 : Int)) ∧ (∃ s100 : ByteArray, ((cell? w98 (add (add a99 (Int.toNat x91 * 3)) 0) = some (string s100)) ∧ (∃ x101 : Int, ((cell? w98 (add (add a99 (Int.toNat x91 * 3)) 1) = some (int i64 x101)) ∧ (∃ b102 : Bool, ((cell? w98 (add (add a99 (Int.toNat x91 * 3)) 2) = some (bool b102)) ∧ (∃ a103 : Addr, ((p84 = some a103) ∧ (((0 : Int) ≤ wrap i64 (x91 - 1)) ∧ (((wrap i64 (x91 - 1) : Int) < (↑n85 : Int)) ∧ (∃ s104 : ByteArray, ((cell? w98 (add (add a103 (Int.toNat (wrap i64 (x91 - 1)) * 3)) 0) = some (string s104)) ∧ (∃ x105 : Int, ((cell? w98 (add (add a103 (Int.toNat (wrap i64 (x91 - 1)) * 3)) 1) = some (int i64 x105)) ∧ (∃ b106 : Bool, ((cell? w98 (add (add a103 (Int.toNat (wrap i64 (x91 - 1)) * 3)) 2) = some (bool b106)) ∧ (∃ a107 : Addr, ((p84 = some a107) ∧ (((0 : Int) ≤ wrap i64 (x91 - 1)) ∧ (((wrap i64 (x91 - 1) : Int) < (↑n85 : Int)) ∧ (st1 (add (add a107 (Int.toNat (wrap i64 (x91 - 1)) * 3)) 0) (string s100) w98 (fun w109 =>
(st1 (add (add a107 (Int.toNat (wrap i64 (x91 - 1)) * 3)) 1) (int i64 x101) w109 (fun w111 =>
(st1 (add (add a107 (Int.toNat (wrap i64 (x91 - 1)) * 3)) 2) (bool b102) w111 (fun w113 =>
(∃ a114 : Addr, ((p84 = some a114) ∧ (((0 : Int) ≤ x91) ∧ (((x91 : Int) < (↑n85 : Int)) ∧ (st1 (add (add a114 (Int.toNat x91 * 3)) 0) (string s104) w113 (fun w116 =>
(st1 (add (add a114 (Int.toNat x91 * 3)) 1) (int i64 x105) w116 (fun w118 =>
(st1 (add (add a114 (Int.toNat x91 * 3)) 2) (bool b106) w118 (fun w120 =>
((z88 (wrap i64 (x91 - 1)) (w120)) ∧ (z89 (wrap i64 (x91 - 1)) w120 < z89 x91 w92))))))))))))))))))))))))))))))))))))))))))))
(onP (t) (fun a121 =>
(st1 (add (add a121 0) 0) (slice p84 n85 n86) w93 (fun w123 =>
(R (int i64 0) (w123)))))))))))))))))))
(onP (t) (fun a124 =>
(st1 (add (add a124 0) 0) (slice p84 n85 n86) w93 (fun w126 =>
(R (int i64 0) (w126)))))))))))))))))))))))))))))))))))))))))))))))))))))
theorem ca36 (t : Option Addr) (x0_ : ByteArray) (x1_ : Int) (x2_ : Bool) (w : World) (R : Value → World → Prop) (h : W36 t x0_ x1_ x2_ w R) : Ca Tryz.prog 36 ⟨[(.pointer t), (.agg ⟨[(.string x0_), (.int .i64 x1_), (.bool x2_)]⟩)]⟩ w R :=
  caB (fn := Tryz.f36) (pl := pl36) (ls := ls36) Tryz.func36 (by kernel_rfl) (by kernel_rfl) h

/-- staith/staithref07.Same -/
noncomputable def C14 : Code := (Tryz.f14.body).getD .skip
def pl14 : Nat → Plan
  | 6 => (.quiet 0 (.quiet 1 (.quiet 2 (.quiet 3 (.quiet 4 (.quiet 5 (.quiet 6 (.quiet 7 (.quiet 8 (.quiet 9 (.quiet 10 (.eff 11 [] .done))))))))))))
  | 12 => (.quiet 0 (.quiet 1 (.quiet 2 (.quiet 3 (.quiet 4 (.quiet 5 (.quiet 6 (.quiet 7 (.quiet 8 (.quiet 9 (.quiet 10 (.eff 11 [] .done))))))))))))
  | _ => .done
def ls14 : Nat → List (Nat × LT)
  | 6 => [(29, (.one (.int .i64)))]
  | 15 => [(47, (.one (.int .i64)))]
  | _ => []
def W14 (xsa : Option Addr) (xsl : Nat) (_xsc : Nat) (bsa : Option Addr) (bsl : Nat) (_bsc : Nat) (t : Option Addr) (w : World) (R : Value → World → Prop) : Prop :=
  (onP (t) (fun a0 =>
(∃ p1 : Option Addr, (∃ n2 : Nat, (∃ n3 : Nat, ((cell? w (add a0 0) = some (slice p1 n2 n3)) ∧ (ifK ((↑xsl : Int) != (↑n2 : Int))
(R (bool false) (w))
(onP (t) (fun a4 =>
(∃ p5 : Option Addr, (∃ n6 : Nat, (∃ n7 : Nat, ((cell? w (add a4 1) = some (slice p5 n6 n7)) ∧ (ifK ((↑bsl : Int) != (↑n6 : Int))
(R (bool false) (w))
(∃ z8 : Int → World → Prop, (∃ z9 : Int → World → Nat, ((z8 (0) (w)) ∧ (∀ (_ : Nat → Value), (∀ (x11 : Int), (∀ (w12 : World), ((z8 (x11) (w12)) → (ifK (decide (x11 < (↑xsl : Int)))
(atW (drew w12) (fun w13 =>
(∃ a14 : Addr, ((xsa = some a14) ∧ (((0 : Int) ≤ x11) ∧ (((x11 : Int) < (↑xsl : Int)) ∧ (∃ s15 : ByteArray, ((cell? w13 (add (add a14 (Int.toNat x11 * 3)) 0) = some (string s15)) ∧ (∃ x16 : Int, ((cell? w13 (add (add a14 (Int.toNat x11 * 3)) 1) = some (int i64 x16)) ∧ (∃ b17 : Bool, ((cell? w13 (add (add a14 (Int.toNat x11 * 3)) 2) = some (bool b17)) ∧ (onP (t) (fun a18 =>
(∃ p19 : Option Addr, (∃ n20 : Nat, (∃ n21 : Nat, ((cell? w13 (add a18 0) = some (slice p19 n20 n21)) ∧ (∃ a22 : Addr, ((p19 = some a22) ∧ (((0 : Int) ≤ x11) ∧ (((x11 : Int) < (↑n20 : Int)) ∧ (∃ s23 : ByteArray, ((cell? w13 (add (add a22 (Int.toNat x11 * 3)) 0) = some (string s23)) ∧ (∃ x24 : Int, ((cell? w13 (add (add a22 (Int.toNat x11 * 3)) 1) = some (int i64 x24)) ∧ (∃ b25 : Bool, ((cell? w13 (add (add a22 (Int.toNat x11 * 3)) 2) = some (bool b25)) ∧ (eqA Tryz.prog 33 (agg (Array.mk (List.reverse [bool b17, int i64 x16, string s15]))) (agg (Array.mk (List.reverse [bool b25, int i64 x24, string s23]))) (w13) (fun b26 => (fun w27 =>
(ifK (!b26)
(R (bool false) (w27))
((z8 (wrap i64 (x11 + 1)) (w27)) ∧ (z9 (wrap i64 (x11 + 1)) w27 < z9 x11 w12))))))))))))))))))))))))))))))))))
(∃ z28 : Int → World → Prop, (∃ z29 : Int → World → Nat, ((z28 (0) (w12)) ∧ (∀ (_ : Nat → Value), (∀ (x31 : Int), (∀ (w32 : World), ((z28 (x31) (w32)) → (ifK (decide (x31 < (↑bsl : Int)))
(atW (drew w32) (fun w33 =>
(∃ a34 : Addr, ((bsa = some a34) ∧ (((0 : Int) ≤ x31) ∧ (((x31 : Int) < (↑bsl : Int)) ∧ (∃ s35 : ByteArray, ((cell? w33 (add (add a34 (Int.toNat x31 * 3)) 0) = some (string s35)) ∧ (∃ s36 : ByteArray, ((cell? w33 (add (add a34 (Int.toNat x31 * 3)) 1) = some (string s36)) ∧ (∃ s37 : ByteArray, ((cell? w33 (add (add a34 (Int.toNat x31 * 3)) 2) = some (string s37)) ∧ (onP (t) (fun a38 =>
(∃ p39 : Option Addr, (∃ n40 : Nat, (∃ n41 : Nat, ((cell? w33 (add a38 1) = some (slice p39 n40 n41)) ∧ (∃ a42 : Addr, ((p39 = some a42) ∧ (((0 : Int) ≤ x31) ∧ (((x31 : Int) < (↑n40 : Int)) ∧ (∃ s43 : ByteArray, ((cell? w33 (add (add a42 (Int.toNat x31 * 3)) 0) = some (string s43)) ∧ (∃ s44 : ByteArray, ((cell? w33 (add (add a42 (Int.toNat x31 * 3)) 1) = some (string s44)) ∧ (∃ s45 : ByteArray, ((cell? w33 (add (add a42 (Int.toNat x31 * 3)) 2) = some (string s45)) ∧ (eqA Tryz.prog 35 (agg (Array.mk (List.reverse [string s37, string s36, string s35]))) (agg (Array.mk (List.reverse [string s45, string s44, string s43]))) (w33) (fun b46 => (fun w47 =>
(ifK (!b46)
(R (bool false) (w47))
((z28 (wrap i64 (x31 + 1)) (w47)) ∧ (z29 (wrap i64 (x31 + 1)) w47 < z29 x31 w32))))))))))))))))))))))))))))))))))
(R (bool true) (w32))))))))))))))))))))))))))))))))
theorem ca14 (xsa : Option Addr) (xsl : Nat) (xsc : Nat) (bsa : Option Addr) (bsl : Nat) (bsc : Nat) (t : Option Addr) (w : World) (R : Value → World → Prop) (h : W14 xsa xsl xsc bsa bsl bsc t w R) : Ca Tryz.prog 14 ⟨[(.slice xsa xsl xsc), (.slice bsa bsl bsc), (.pointer t)]⟩ w R :=
  caB (fn := Tryz.f14) (pl := pl14) (ls := ls14) Tryz.func14 (by kernel_rfl) (by kernel_rfl) h
end Go.Proofs.YtehhhkcemmfjpaaGreatDoor

/- The reference's Same. -/
namespace Go.Proofs.YtehhhkcemmfjpaaGreatDoor
open Go Go.Proofs.YtehhhkcemmfjpaaGreatDoor Go.Proofs.YtehhhkcemmfjpaaGreatDoor.St

theorem same_step {α : Type} [Inhabited α] {X Y : List α} {i : Nat} (hi : i < X.length) (hj : i < Y.length) : (X.drop i = Y.drop i) ↔ (at0 X i = at0 Y i ∧ X.drop (i + 1) = Y.drop (i + 1)) := by
  rw [List.drop_eq_getElem_cons hi, List.drop_eq_getElem_cons hj, List.cons.injEq, at0_eq hi, at0_eq hj]
theorem same_ok {w : World} {r : Nat} {X Y : List Exc} {B C : List Bnd} (hR : RTb w r X B) {ya : Option Addr} {yl yc : Nat} (hY : Rx excL 33 w ya yl yc Y) {ca : Option Addr} {cl cc : Nat} (hC : Rx bndL 35 w ca cl cc C) (h1 : X.length < 1000000000) (h2 : B.length < 1000000000)
    (R : Value → World → Prop) (h : ∀ w', Mod no w w' → R (.bool (decide (Y = X ∧ C = B))) w') : Ca Tryz.prog 14 #[.slice ya yl yc, .slice ca cl cc, .pointer (some ⟨r, 0, none⟩)] w R := by
  refine ca14 ya yl yc ca cl cc (some ⟨r, 0, none⟩) w R ?_
  obtain ⟨a, l, c, a', l', c', hr, hx, hb, _, _⟩ := hR.ex
  have e1 := hx.len.1
  have e2 := hb.len.1
  have e3 := hY.len.1
  have e4 := hC.len.1
  have no1 : ∀ w', Mod no w w' → ¬ (Y = X ∧ C = B) → R (.bool false) w' := fun w' m hn => by
    have h' := h w' m
    rw [decide_eq_false hn] at h'
    exact h'
  refine ⟨a, l, c, by rw [cl1 hr]; rfl, ifK_of (fun hne => no1 w (Mod.refl _ _) fun hh => ?_) fun hl => ⟨a', l', c', by rw [cl1 hr]; rfl, ifK_of (fun hne => no1 w (Mod.refl _ _) fun hh => ?_) fun hl' => ?_⟩⟩
  · rw [← hh.1, e3] at e1
    subst e1
    simp at hne
  · rw [← hh.2, e4] at e2
    subst e2
    simp at hne
  have hl : yl = l := by have : (yl : Int) = l := by simpa using hl
                         omega
  have hl' : cl = l' := by have : (cl : Int) = l' := by simpa using hl'
                           omega
  subst hl
  subst hl'
  refine ⟨fun x w' => ∃ i : Nat, x = i ∧ i ≤ yl ∧ Mod no w w' ∧ (Y = X ↔ Y.drop i = X.drop i), fun x _ => ((yl : Int) - x).toNat, ⟨0, rfl, by omega, Mod.refl _ _, Iff.rfl⟩, ?_⟩
  rintro _ _ w12 ⟨i, rfl, hi, m12, he⟩
  refine ifK_dec (fun hlt => ?_) (fun hge => ?_)
  · intro w13 e13
    have m13 : Mod no w12 w13 := by subst e13; exact Mod.drew _
    clear e13
    have m := m12.trans m13
    have e0 : IntKind.i64.wrap ((i : Int) + 1) = ((i + 1 : Nat) : Int) := (by first | (simp only [IntKind.wrap_i64]; omega) | omega)
    rw [e0]
    clear e0
    have st := same_step (X := Y) (Y := X) (i := i) (by omega) (by omega)
    refine (hY.no m).cellX (by omega) ⟨a, yl, c, by rw [cl1 (m.at' hr)]; rfl, (hx.no m).cellX (by omega) ?_⟩
    refine eqA_agg exc_s.guard (exc_s.eq (at0 Y i) (at0 X i)) (ifK_not (fun hq => ?_) (fun hq => ?_))
    · exact no1 w13 m fun hh => of_decide_eq_false hq (st.1 (he.1 hh.1)).1
    · exact ⟨⟨i + 1, rfl, by omega, m, he.trans (st.trans ⟨fun hh => hh.2, fun hh => ⟨of_decide_eq_true hq, hh⟩⟩)⟩, by simp only; omega⟩
  have hYX : Y = X := he.2 (by rw [List.drop_eq_nil_of_le (by omega), List.drop_eq_nil_of_le (by omega)])
  refine ⟨fun x w' => ∃ i : Nat, x = i ∧ i ≤ cl ∧ Mod no w w' ∧ (C = B ↔ C.drop i = B.drop i), fun x _ => ((cl : Int) - x).toNat, ⟨0, rfl, by omega, m12, Iff.rfl⟩, ?_⟩
  rintro _ _ w32 ⟨i, rfl, hi, m32, he⟩
  refine ifK_dec (fun hlt => ?_) (fun hge => ?_)
  · intro w13 e13
    have m13 : Mod no w32 w13 := by subst e13; exact Mod.drew _
    clear e13
    have m := m32.trans m13
    have e0 : IntKind.i64.wrap ((i : Int) + 1) = ((i + 1 : Nat) : Int) := (by first | (simp only [IntKind.wrap_i64]; omega) | omega)
    rw [e0]
    clear e0
    have st := same_step (X := C) (Y := B) (i := i) (by omega) (by omega)
    refine (hC.no m).cellB (by omega) ⟨a', cl, c', by rw [cl1 (m.at' hr)]; rfl, (hb.no m).cellB (by omega) ?_⟩
    refine eqA_agg bnd_s.guard (bnd_s.eq (at0 C i) (at0 B i)) (ifK_not (fun hq => ?_) (fun hq => ?_))
    · exact no1 w13 m fun hh => of_decide_eq_false hq (st.1 (he.1 hh.2)).1
    · exact ⟨⟨i + 1, rfl, by omega, m, he.trans (st.trans ⟨fun hh => hh.2, fun hh => ⟨of_decide_eq_true hq, hh⟩⟩)⟩, by simp only; omega⟩
  · have hCB : C = B := he.2 (by rw [List.drop_eq_nil_of_le (by omega), List.drop_eq_nil_of_le (by omega)])
    have h' := h w32 m32
    rw [decide_eq_true ⟨hYX, hCB⟩] at h'
    exact h'
end Go.Proofs.YtehhhkcemmfjpaaGreatDoor

/- Elements of three cells, written cell by cell (the unfolded form of 'wr_cells'). It names no program. -/
namespace Go.Proofs.YtehhhkcemmfjpaaGreatDoor.St
open Go

theorem putAt {α : Type} {L : Lay α} {e : TypeId} {w : World} {g l c : Nat} {xs : List α} (h : Rx L e w (some ⟨g, 0, none⟩) l c xs) (hs : L.s = 3) {n : Nat} (hn : n < l) (v : α) {x y z : Value} (hv : L.cs v = [x, y, z]) {K : World → Prop}
    (hk : ∀ w', Mod (on g) w w' → Rx L e w' (some ⟨g, 0, none⟩) l c (xs.set n v) → K w') :
    (∃ o : Value, w.cell? (Addr.add (Addr.add ⟨g, 0, none⟩ (n * 3)) 0) = some o) ∧ w.frozen? (Addr.add (Addr.add ⟨g, 0, none⟩ (n * 3)) 0) = false ∧ atW (w.setCell (Addr.add (Addr.add ⟨g, 0, none⟩ (n * 3)) 0) x) fun w1 =>
    (∃ o : Value, w1.cell? (Addr.add (Addr.add ⟨g, 0, none⟩ (n * 3)) 1) = some o) ∧ w1.frozen? (Addr.add (Addr.add ⟨g, 0, none⟩ (n * 3)) 1) = false ∧ atW (w1.setCell (Addr.add (Addr.add ⟨g, 0, none⟩ (n * 3)) 1) y) fun w2 =>
    (∃ o : Value, w2.cell? (Addr.add (Addr.add ⟨g, 0, none⟩ (n * 3)) 2) = some o) ∧ w2.frozen? (Addr.add (Addr.add ⟨g, 0, none⟩ (n * 3)) 2) = false ∧ atW (w2.setCell (Addr.add (Addr.add ⟨g, 0, none⟩ (n * 3)) 2) z) K := by
  have := wr_cells h hn v hk
  have hx : x.oneCell' = true := L.one v x (by rw [hv]; simp)
  have hy : y.oneCell' = true := L.one v y (by rw [hv]; simp)
  have hz : z.oneCell' = true := L.one v z (by rw [hv]; simp)
  rw [hv, hs] at this
  simp only [stCells, hx, hy, hz, cond_true] at this
  exact this
end Go.Proofs.YtehhhkcemmfjpaaGreatDoor.St

/- Insertion from behind into a rising row, and rows that are permutations of one another. It names no program. -/
namespace Go.Proofs.YtehhhkcemmfjpaaGreatDoor.St
open Go

/-- x was put into X, from behind, as far as what stands there is more. -/
def Inb {α : Type} [_root_.LT α] (x : α) (X X' : List α) : Prop := ∃ i, i ≤ X.length ∧ X' = X.take i ++ x :: X.drop i ∧ (∀ y ∈ X.drop i, x < y) ∧ ∀ j y, j + 1 = i → X[j]? = some y → ¬ x < y
section
variable {α : Type} [_root_.LT α] {x : α} {X X' : List α}
theorem Inb.perm (h : Inb x X X') : X'.Perm (X ++ [x]) := by
  obtain ⟨i, _, rfl, _⟩ := h
  refine List.perm_middle.trans ?_
  rw [List.take_append_drop]
  exact (List.perm_append_singleton x X).symm
theorem Inb.mem (h : Inb x X X') (y : α) : y ∈ X' ↔ y ∈ X ∨ y = x := by
  rw [h.perm.mem_iff]; simp
theorem Inb.rises (tr : ∀ a b c : α, a < b → b < c → a < c) (hX : X.Pairwise (· < ·)) (ht : ∀ y ∈ X, x < y ∨ y < x) (h : Inb x X X') : X'.Pairwise (· < ·) := by
  obtain ⟨i, hi, rfl, h1, h2⟩ := h
  have hbelow : ∀ y ∈ X.take i, y < x := by
    intro y hy
    obtain ⟨j, hj, rfl⟩ := List.mem_iff_getElem.1 hy
    rw [List.length_take] at hj
    have hji : j < i := by omega
    obtain ⟨k, rfl⟩ : ∃ k, i = k + 1 := ⟨i - 1, by omega⟩
    have hlast : X[k]'(by omega) < x := (ht _ (List.getElem_mem _)).resolve_left (h2 k _ rfl (List.getElem?_eq_getElem (by omega)))
    rw [List.getElem_take]
    by_cases e : j = k
    · subst e; exact hlast
    · exact tr _ _ _ (List.pairwise_iff_getElem.1 hX j k (by omega) (by omega) (by omega)) hlast
  rw [List.pairwise_append]
  refine ⟨hX.sublist (List.take_sublist _ _), List.pairwise_cons.2 ⟨h1, hX.sublist (List.drop_sublist _ _)⟩, fun a ha b hb => ?_⟩
  rcases List.mem_cons.1 hb with rfl | hb
  · exact hbelow a ha
  · exact tr _ _ _ (hbelow a ha) (h1 b hb)
end
/-- The next step of the loop that puts it in. -/
theorem ins_step {α : Type} {x : α} {X : List α} {i : Nat} (hi : i + 1 ≤ X.length) : (X.take (i + 1) ++ x :: X.drop (i + 1)) = X.take i ++ X[i] :: x :: X.drop (i + 1) := by
  rw [List.take_succ_eq_append_getElem (by omega), List.append_assoc]; rfl
theorem ins_next {α : Type} {x : α} {X : List α} {i : Nat} (hi : i + 1 ≤ X.length) : (X.take i ++ x :: X.drop i) = X.take i ++ x :: X[i] :: X.drop (i + 1) := by
  rw [List.drop_eq_getElem_cons (by omega)]
theorem rowB_eq {g k : Nat} (h : rowB (some ⟨g, 0, none⟩) k) : g = k := by simpa [rowB] using h
theorem swap_mid {α : Type} (P : List α) (a b : α) (S : List α) : ((P ++ a :: b :: S).set P.length b).set (P.length + 1) a = P ++ b :: a :: S := by
  rw [List.set_append_right _ _ (Nat.le_refl _), Nat.sub_self, List.set_cons_zero, List.set_append_right _ _ (by omega), show P.length + 1 - P.length = 1 by omega]
  rfl
/-- A rising row is the sorted permutation. -/
theorem rising_unique {α : Type} [_root_.LT α] [LE α] [Inhabited α] {xs X : List α} (hle : ∀ a b : α, a < b → a ≤ b) (anti : ∀ a b, a ∈ X → b ∈ X → a ≤ b → b ≤ a → a = b) (hp : xs.Perm X) (hs : Srt xs 0 xs.length) (hX : X.Pairwise (· < ·)) : xs = X := by
  have h1 : xs.Pairwise (· ≤ ·) := by
    rw [List.pairwise_iff_getElem]
    intro i j hi hj hij
    have := hs i j (Nat.zero_le _) hij hj
    simpa [at0, hi, hj] using this
  have h2 : X.Pairwise (· ≤ ·) := hX.imp (hle _ _)
  exact List.Perm.eq_of_pairwise (le := fun a b => a ≤ b) (fun a b ha hb hab hba => anti a b (hp.mem_iff.1 ha) hb hab hba) h1 h2 hp
end Go.Proofs.YtehhhkcemmfjpaaGreatDoor.St

/- The reference's Declare. -/
namespace Go.Proofs.YtehhhkcemmfjpaaGreatDoor
open Go Go.Proofs.YtehhhkcemmfjpaaGreatDoor Go.Proofs.YtehhhkcemmfjpaaGreatDoor.St

/-- append([]T{}, X...), where []T{} lies at k. -/
theorem copyRow {α : Type} {L : Lay α} {P : Program} {t ty e : TypeId} (ho : laidOk P t e L.s = true) {w : World} {k : Nat} (hk : w.heap[k]? = some (.cells #[] e (0, 0))) {a : Option Addr} {l c : Nat} {X : List α} (h : Row L e w a l c X) (hl : l ≤ 1000000000) :
    ∃ a' c' w', (Builtin.append_ #[t, t] ty #[.slice (some ⟨k, 0, none⟩) 0 0, .slice a l c]).run P w = .ok (.slice a' l c') w' ∧ Row L e w' a' l c' X ∧ Mod (on k) w w' ∧ (∀ j, rowB a' j → j = k ∨ w.heap.size ≤ j) := by
  have hr : Row L e w (some ⟨k, 0, none⟩) 0 0 [] := Row.lit L hk [] rfl (Nat.zero_le _)
  obtain ⟨a', c', w', h1, h2, h3, h4⟩ := hr.push (P := P) (t := t) (ty := ty) ho h.len.1 h.all.1 h.all.2 (by omega)
  rw [Nat.zero_add] at h1 h2
  exact ⟨a', c', w', h1, h2, h3.mono fun j _ hj => (by cases hj; rfl), fun j hj => (h4 j hj).imp (fun hj => by cases hj; rfl) id⟩
theorem St.Rx.name {w : World} {a : Option Addr} {l c : Nat} {X : List Exc} (h : Rx excL 33 w a l c X) {i : Nat} (hi : i < l) {K : ByteArray → Prop} (hk : K (at0 X i).n) :
    ∃ ad : Addr, a = some ad ∧ (0 : Int) ≤ (i : Int) ∧ (i : Int) < (↑l : Int) ∧ ∃ s : ByteArray, w.cell? (Addr.add (Addr.add ad (Int.toNat (i : Int) * 3)) 0) = some (.string s) ∧ K s := by
  have hil := h.lt hi
  obtain ⟨g, rfl, hc⟩ := Row.getS h hil (s := 3) rfl
  rw [at0_eq hil] at hk
  rw [Int.toNat_natCast]
  exact ⟨_, rfl, by omega, by omega, _, hc 0 _ rfl, hk⟩
theorem at0_mid {α : Type} [Inhabited α] (P S : List α) (a : α) {i : Nat} (hi : P.length = i) : at0 (P ++ a :: S) i = a := by
  subst hi
  rw [at0_eq (by simp)]
  simp
theorem at0_mid1 {α : Type} [Inhabited α] (P S : List α) (a b : α) {i : Nat} (hi : P.length + 1 = i) : at0 (P ++ a :: b :: S) i = b := by
  subst hi
  rw [at0_eq (by simp)]
  simp
def AddedX (x : Exc) (X X' : List Exc) : Prop := if goodX x && (findX x.n X).isNone && decide (X.length < 8) then Inb x X X' else X' = X
theorem declareR_ok {w : World} {r : Nat} {X : List Exc} {B : List Bnd} (hR : RTb w r X B) (x : Exc) (hl : X.length < 1000000000) (R : Value → World → Prop)
    (h : ∀ w' X', AddedX x X X' → RTb w' r X' B → Mod (on r) w w' → R (.int .i64 (declR x X)) w') :
    Ca Tryz.prog 36 #[.pointer (some ⟨r, 0, none⟩), .agg ⟨x.cs⟩] w R := by
  refine (ca36 (some ⟨r, 0, none⟩) x.n x.k x.f w R ?_ : Ca _ _ _ _ _)
  intro w0 e0
  have m0 : Mod no w w0 := by subst e0; exact Mod.alloc _ _
  have b0 : Xc w0 w.heap.size x := by subst e0; exact new_at _ _
  clear e0
  refine ⟨_, by rw [cl1 b0]; rfl, _, by rw [cl1 b0]; rfl, _, by rw [cl1 b0]; rfl, ?_⟩
  refine (goodR_ok x w0 _ fun w5 m5 => ?_ : Ca _ _ _ _ _)
  refine ⟨_, rfl, ?_⟩
  have m05 := m0.trans m5
  have same : ∀ w', Mod no w w' → ¬ (goodX x && (findX x.n X).isNone && decide (X.length < 8)) = true → R (.int .i64 (declR x X)) w' := fun w' m hc => h w' X (by rw [AddedX, if_neg hc]) (hR.no m) m.of_no
  refine ifK_of (fun hg => ?_) (fun hg => ?_)
  · have hg : goodX x = false := by simpa using hg
    have h' := same w5 m05 (by rw [hg]; simp)
    rw [declR, hg] at h'
    exact h'
  have hg : goodX x = true := by simpa using hg
  have b5 := m5.at' b0
  have hR5 := hR.no m05
  refine ⟨fun p b w' => ∃ k, p = some ⟨k, 0, none⟩ ∧ Xc w' k (fx x.n X) ∧ b = hx x.n X ∧ Mod no w w' ∧ Xc w' w.heap.size x, ?_, ?_⟩
  · refine ⟨_, by rw [cl1 b5]; rfl, findR_ok hR5 x.n hl _ fun w10 m10 => ⟨_, _, _, _, rfl, ?_⟩⟩
    intro w15 e0
    have m15 : Mod no w10 w15 := by subst e0; exact Mod.alloc _ _
    have b15 : Xc w15 w10.heap.size exc0 := by subst e0; exact new_at _ _
    clear e0
    refine put3 b15 fun w21 m21 b21 => ⟨_, rfl, b21, rfl, ?_⟩
    have m1021 : Mod no w10 w21 := m15.new m21 fun k hk => by cases hk; exact Nat.le_refl _
    exact ⟨(m05.trans m10).trans m1021, m1021.at' (m10.at' b5)⟩
  rintro _ _ _ w25 ⟨k, rfl, bk, rfl, m25, b25⟩
  cases hf : findX x.n X with
  | some y =>
    have hb : hx x.n X = true := by rw [hx, hf]; rfl
    have hy : fx x.n X = y := by rw [fx, hf]; rfl
    rw [hb]
    rw [hy] at bk
    refine ifK_of (fun _ => ?_) fun h => by cases h
    refine ⟨_, by rw [cl1 b25]; rfl, _, by rw [cl1 b25]; rfl, _, by rw [cl1 b25]; rfl, _, by rw [cl1 bk]; rfl, _, by rw [cl1 bk]; rfl, _, by rw [cl1 bk]; rfl, ?_⟩
    have h' := same w25 m25 (by rw [hf]; simp)
    rw [declR, hg, hf] at h'
    simp only [if_true] at h'
    refine eqA_agg exc_s.guard (exc_s.eq x y) (ifK_not (fun he => ?_) (fun he => ?_))
    · rw [if_neg (fun e => of_decide_eq_false he e.symm)] at h'; exact h'
    · rw [if_pos (of_decide_eq_true he).symm] at h'; exact h'
  | none =>
  have hb : hx x.n X = false := by rw [hx, hf]; rfl
  rw [hb]
  refine ifK_of (fun h => by cases h) fun _ => ?_
  have hR25 := hR.no m25
  obtain ⟨a, l, c, a', l', c', h1, h2, h3, h4, h5⟩ := hR25.ex
  have hxl := h2.len.1
  have hrlt : r < w.heap.size := by obtain ⟨_, _, _, _, _, _, hh, _⟩ := hR.ex; exact lt_of_heap hh
  refine ⟨a, l, c, by rw [cl1 h1]; rfl, ifK_dec (fun hge => ?_) (fun hlt => ?_)⟩
  · have h' := same w25 m25 (by rw [decide_eq_false (show ¬ X.length < 8 by omega)]; simp)
    rw [declR, hg, hf] at h'
    simp only [if_true] at h'
    rw [if_pos (by omega)] at h'
    exact h'
  have hlt : l < 8 := by omega
  have g0 := m25.size
  have hok : laidOk Tryz.prog 26 33 excL.s = true := by kernel_rfl
  refine ⟨fun p q s w' => Rx excL 33 w' p q s (X ++ [x]) ∧ Mod no w25 w' ∧ (∀ k, rowB p k → w25.heap.size ≤ k), ?_, ?_⟩
  · intro w40 e0
    have m40 : Mod no w25 w40 := by subst e0; exact Mod.drew _
    clear e0
    have b40 := m40.at' b25
    have h1 := m40.at' h1
    have h40 := h1
    have g1 := m40.size
    have h2 := h2.no m40
    refine ⟨a, l, c, by rw [cl1 h1]; rfl, _, by rw [cl1 b40]; rfl, _, by rw [cl1 b40]; rfl, _, by rw [cl1 b40]; rfl, ⟨?_, ?_⟩⟩
    · intro w48 e0
      have m48 : Mod no w40 w48 := by subst e0; exact Mod.alloc _ _
      have e48 : w48.heap[w40.heap.size]? = some (.cells #[] 33 (0, 0)) := by subst e0; exact new_at _ _
      clear e0
      have h1 := m48.at' h1
      have b48 := m48.at' b40
      have g2 := m48.size
      have h2 := h2.no m48
      have l48 := lt_of_heap e48
      refine ⟨by rw [cl2 h1]; rfl, by rw [cl1 b48]; rfl, by rw [cl1 b48]; rfl, by rw [cl1 b48]; rfl, ⟨?_, ?_⟩⟩
      · obtain ⟨p, c2, w50, hr, x50, m50, n50⟩ := copyRow (L := excL) (P := Tryz.prog) (ty := 26) hok e48 h2 (by omega)
        have n4050 : Mod no w40 w50 := m48.new m50 fun k hk => by cases hk; exact Nat.le_refl _
        have b50 := n4050.at' b40
        have g3 := m50.size
        refine ⟨_, w50, hr, _, _, _, rfl, by rw [cl1 b50]; rfl, by rw [cl1 b50]; rfl, by rw [cl1 b50]; rfl, ?_⟩
        intro w54 e0
        have m54 : Mod no w50 w54 := by subst e0; exact Mod.alloc _ _
        have b54 : Xc w54 w50.heap.size x := by subst e0; exact new_at _ _
        clear e0
        have h1 := (n4050.trans m54).at' h40
        obtain ⟨p2, c3, w56, hr, x56, m56, n56⟩ := pushX (Rx.no x50 m54) b54 (by omega)
        have g4 := m54.size
        refine ⟨by rw [cl2 h1]; rfl, _, w56, hr, _, _, _, rfl, x56, ?_, ?_⟩
        · exact ((m40.trans n4050).trans m54).new m56 fun k hk => by have := n50 k hk; omega
        · intro k hk
          rcases n56 k hk with hk | hk
          · have := n50 k hk; omega
          · omega
      · intro w60 e0
        have m60 : Mod no w48 w60 := by subst e0; exact Mod.alloc _ _
        have b60 : Xc w60 w48.heap.size x := by subst e0; exact new_at _ _
        clear e0
        have h1 := m60.at' h1
        have g3 := m60.size
        obtain ⟨p, c2, w62, hr, x62, m62, n62⟩ := copyRow (L := excL) (P := Tryz.prog) (ty := 26) hok (m60.at' e48) (h2.no m60) (by omega)
        have n4062 : Mod no w40 w62 := (m48.trans m60).new m62 fun k hk => by cases hk; exact Nat.le_refl _
        have b62 := n4062.at' b40
        have g4 := m62.size
        have x' := m62.at b60 (fun hS => by have : w48.heap.size = w40.heap.size := hS; omega)
        obtain ⟨p2, c3, w67, hr2, x67, m67, n67⟩ := pushX x62 x' (by omega)
        refine ⟨by rw [cl2 h1]; rfl, _, w62, hr, _, _, _, rfl, by rw [cl1 b62]; rfl, by rw [cl1 b62]; rfl, by rw [cl1 b62]; rfl, _, w67, hr2, _, _, _, rfl, x67, ?_, ?_⟩
        · exact (m40.trans n4062).new m67 fun k hk => by have := n62 k hk; omega
        · intro k hk
          rcases n67 k hk with hk | hk
          · have := n62 k hk; omega
          · omega
    · intro w71 e0
      have m71 : Mod no w40 w71 := by subst e0; exact Mod.alloc _ _
      have b71 : Xc w71 w40.heap.size x := by subst e0; exact new_at _ _
      clear e0
      have h1 := m71.at' h1
      refine ⟨by rw [cl2 h1]; rfl, ?_⟩
      intro w72 e0
      have m72 : Mod no w71 w72 := by subst e0; exact Mod.alloc _ _
      have e72 : w72.heap[w71.heap.size]? = some (.cells #[] 33 (0, 0)) := by subst e0; exact new_at _ _
      clear e0
      have h1 := m72.at' h1
      have m4072 := m71.trans m72
      have b72 := m4072.at' b40
      have g2 := m71.size
      have g3 := m72.size
      have l71 := lt_of_heap b71
      obtain ⟨p, c2, w74, hr, x74, m74, n74⟩ := copyRow (L := excL) (P := Tryz.prog) (ty := 26) hok e72 (h2.no m4072) (by omega)
      have n4074 : Mod no w40 w74 := m4072.new m74 fun k hk => by cases hk; exact g2
      have b74 := n4074.at' b40
      have g4 := m74.size
      have x' := m74.at (m72.at' b71) (fun hS => by have : w40.heap.size = w71.heap.size := hS; omega)
      obtain ⟨p2, c3, w79, hr2, x79, m79, n79⟩ := pushX x74 x' (by omega)
      refine ⟨by rw [cl2 h1]; rfl, by rw [cl1 b72]; rfl, by rw [cl1 b72]; rfl, by rw [cl1 b72]; rfl, _, w74, hr, _, _, _, rfl, by rw [cl1 b74]; rfl, by rw [cl1 b74]; rfl, by rw [cl1 b74]; rfl, _, w79, hr2, _, _, _, rfl, x79, ?_, ?_⟩
      · exact (m40.trans n4074).new m79 fun k hk => by have := n74 k hk; omega
      · intro k hk
        rcases n79 k hk with hk | hk
        · have := n74 k hk; omega
        · omega
  rintro _ p q s w87 ⟨x87, m87, n87⟩
  have hql := x87.len.1
  rw [List.length_append, List.length_singleton, hxl] at hql
  subst hql
  obtain ⟨g, rfl, _⟩ := Row.get x87 (i := 0) (by simp)
  have hgn := n87 g rfl
  have hcl : IntKind.i64.wrap (((l + 1 : Nat) : Int) - 1) = (l : Int) := by rw [wrap64 (by omega) (by omega)]; omega
  rw [hcl]
  clear hcl
  refine ⟨fun y w' => ∃ i : Nat, y = i ∧ i ≤ l ∧ Rx excL 33 w' (some ⟨g, 0, none⟩) (l + 1) s (X.take i ++ x :: X.drop i) ∧ Mod no w25 w' ∧ ∀ y ∈ X.drop i, x < y, fun y _ => y.toNat,
    ⟨l, rfl, Nat.le_refl _, by rw [List.take_of_length_le (by omega), List.drop_eq_nil_of_le (by omega)]; exact x87, m87, fun y hy => by rw [← hxl, List.drop_length] at hy; cases hy⟩, ?_⟩
  rintro _ _ w92 ⟨i, rfl, hi, x92, m92, hgt⟩
  intro w93 e0
  have m93 : Mod no w92 w93 := by subst e0; exact Mod.drew _
  clear e0
  have x93 := x92.no m93
  have m93' := m92.trans m93
  have done : (∀ j y, j + 1 = i → X[j]? = some y → ¬ x < y) → ∃ v122 : Value, w93.cell? (Addr.add (Addr.add ⟨r, 0, none⟩ 0) 0) = some v122 := fun _ => ⟨_, by rw [cl2 (m93'.at' h1)]; rfl⟩
  have fin : (∀ j y, j + 1 = i → X[j]? = some y → ¬ x < y) → ∀ w', w' = w93.setCell (Addr.add (Addr.add ⟨r, 0, none⟩ 0) 0) (.slice (some ⟨g, 0, none⟩) (l + 1) s) → R (.int .i64 0) w' := by
    intro hmin w' e0
    have h1' := m93'.at' h1
    have mr : Mod (on r) w93 w' := by subst e0; exact Mod.set2 _ _ _ _ _
    have br : w'.heap[r]? = some (.cells #[.slice (some ⟨g, 0, none⟩) (l + 1) s, .slice a' l' c'] 29 (0, 0)) := by subst e0; rw [set2 h1']; rfl
    clear e0
    have h' := h w' (X.take i ++ x :: X.drop i) (by
      rw [AddedX, if_pos (by rw [hg, hf, decide_eq_true (show X.length < 8 by omega)]; rfl)]
      exact ⟨i, by omega, rfl, hgt, hmin⟩)
      ⟨_, _, _, a', l', c', br, x93.mod mr (fun k hk hS => by have e1 := rowB_eq hk; have e2 : k = r := hS; omega), (h3.no m93').mod mr (fun k hk hS => by cases hS; exact h5 hk), fun hk => by have e1 := rowB_eq hk; omega, h5⟩ ((m25.trans m93').no_trans mr)
    rw [declR, hg, hf] at h'
    simp only [if_true] at h'
    rw [if_neg (by omega)] at h'
    exact h'
  have fz : w93.frozen? (Addr.add (Addr.add ⟨r, 0, none⟩ 0) 0) = false := fz2 (m93'.at' h1) _ _
  refine ifK_dec (fun hpos => ?_) (fun hz => ?_)
  · obtain ⟨j, rfl⟩ : ∃ j, i = j + 1 := ⟨i - 1, by omega⟩
    have ej : IntKind.i64.wrap (((j + 1 : Nat) : Int) - 1) = (j : Int) := by rw [wrap64 (by omega) (by omega)]; omega
    rw [ej]
    clear ej
    have hjX : j < X.length := by omega
    have hst := ins_step (x := x) (X := X) (i := j) (by omega)
    rw [hst] at x93
    have hP : (X.take j).length = j := by rw [List.length_take]; omega
    have a1 : at0 (X.take j ++ X[j] :: x :: X.drop (j + 1)) j = X[j] := at0_mid _ _ _ hP
    have a2 : at0 (X.take j ++ X[j] :: x :: X.drop (j + 1)) (j + 1) = x := at0_mid1 _ _ _ _ (by omega)
    refine x93.name (by omega) (x93.name (by omega) ?_)
    rw [a1, a2, lt_bool, toList_beq]
    refine ifK_of (fun hc => ?_) (fun hc => ?_)
    · have hlt : x < X[j] := by
        simp only [Bool.not_eq_true', Bool.or_eq_false_iff, decide_eq_false_iff_not] at hc
        exact Classical.byContradiction fun hn => hc.2 (str_total hc.1 hn)
      intro w98 e0
      have m98 : Mod no w93 w98 := by subst e0; exact Mod.drew _
      clear e0
      have x98 := x93.no m98
      refine x98.cellX (by omega) (x98.cellX (by omega) ?_)
      rw [a1, a2]
      refine ⟨_, rfl, by omega, by omega, ?_⟩
      rw [Int.toNat_natCast]
      refine putAt x98 rfl (by omega) x rfl fun w113 m113 x113 => ?_
      refine ⟨_, rfl, by omega, by omega, ?_⟩
      rw [Int.toNat_natCast]
      refine putAt x113 rfl (by omega) X[j] rfl fun w120 m120 x120 => ?_
      have hsw : ((X.take j ++ X[j] :: x :: X.drop (j + 1)).set j x).set (j + 1) X[j] = X.take j ++ x :: X.drop j := by
        have := swap_mid (X.take j) X[j] x (X.drop (j + 1))
        rw [hP] at this
        rw [this, ← List.drop_eq_getElem_cons hjX]
      rw [hsw] at x120
      refine ⟨⟨j, rfl, by omega, x120, (m93'.trans m98).new (m113.trans m120) fun k hk => by cases hk; exact hgn, fun y hy => ?_⟩, by simp only; omega⟩
      rw [List.drop_eq_getElem_cons hjX] at hy
      rcases List.mem_cons.1 hy with rfl | hy
      · exact hlt
      · exact hgt y hy
    · have hmin : ∀ j' y, j' + 1 = j + 1 → X[j']? = some y → ¬ x < y := by
        intro j' y he hy hlt
        obtain rfl : j' = j := by omega
        rw [List.getElem?_eq_getElem hjX] at hy
        cases hy
        simp only [Bool.not_eq_false', Bool.or_eq_true, decide_eq_true_eq] at hc
        rcases hc with hc | hc
        · exact str_asym hlt hc
        · have hlt : x.n < (X[j']).n := hlt
          rw [hc] at hlt
          exact str_irr _ hlt
      exact ⟨done hmin, fz, fin hmin⟩
  · have hmin : ∀ j y, j + 1 = i → X[j]? = some y → ¬ x < y := fun j y he => by omega
    exact ⟨done hmin, fz, fin hmin⟩
end Go.Proofs.YtehhhkcemmfjpaaGreatDoor

/- The formulas of functions, printed by a program of mine (gen.py) out of the translation. -/
namespace Go.Proofs.YtehhhkcemmfjpaaGreatDoor
open Go Go.Proofs.YtehhhkcemmfjpaaGreatDoor.St
open _root_.Go.Value (string int bool slice pointer agg tuple map func nilFunc iface)
open _root_.Go.World (cell? frozen? setCell alloc drew)
open _root_.Go.Addr (add)
open _root_.Go.Obj (cells)
open _root_.Go.IntKind (wrap i64 u64 i32 u32 u8)
set_option maxRecDepth 100000

/-- (*staith/staithref07.Table).Bind -/
noncomputable def C39 : Code := (Tryz.f39.body).getD .skip
def pl39 : Nat → Plan
  | 12 => (.quiet 1 (.quiet 2 (.quiet 3 (.quiet 4 (.quiet 6 (.fork (.eff 0 [4, 6] (.fork (.eff 5 [6] (.eff 7 [4] (.eff 8 [] (.quiet 9 .done)))) (.eff 7 [4] (.eff 5 [6] (.eff 8 [] (.quiet 9 .done)))))) (.eff 7 [4] (.eff 0 [4, 6] (.eff 5 [6] (.eff 8 [] (.quiet 9 .done)))))))))))
  | 14 => (.quiet 0 (.quiet 1 (.quiet 2 (.quiet 3 (.quiet 4 (.quiet 5 (.quiet 6 (.quiet 7 (.quiet 8 (.quiet 9 (.quiet 10 (.quiet 11 (.eff 12 [] (.quiet 13 .done))))))))))))))
  | 16 => (.quiet 0 (.quiet 1 (.quiet 2 (.quiet 3 (.quiet 4 (.quiet 5 (.quiet 6 (.quiet 7 (.quiet 8 (.quiet 9 (.quiet 10 (.quiet 11 (.quiet 12 (.quiet 13 (.quiet 14 (.eff 15 [] (.quiet 16 (.eff 17 [] .done))))))))))))))))))
  | _ => .done
def ls39 : Nat → List (Nat × LT)
  | 4 => [(0, .agg []), (5, (.one .ptr)), (6, (.one .bool))]
  | 5 => [(0, .agg [])]
  | 14 => [(0, .agg []), (7, (.one .slice))]
  | 17 => [(8, (.one (.int .i64)))]
  | _ => []
def W39 (t : Option Addr) (b0_ : ByteArray) (b1_ : ByteArray) (b2_ : ByteArray) (w : World) (R : Value → World → Prop) : Prop :=
  (atW (alloc w (cells (Array.mk [string b0_, string b1_, string b2_]) 35 (0, 0))) (fun w0 =>
(∃ s1 : ByteArray, ((cell? w0 (add (nw w) 1) = some (string s1)) ∧ (Ca Tryz.prog (71) (Array.mk [string s1]) (w0) (fun v2 => (fun w3 =>
(∃ b4 : Bool, ((v2 = bool b4) ∧ (ifK (!b4)
(R (int i64 2) (w3))
(∃ z5 : Option Addr → Bool → World → Prop, ((∃ s6 : ByteArray, ((cell? w3 (add (nw w) 0) = some (string s6)) ∧ (Ca Tryz.prog (43) (Array.mk [pointer t, string s6]) (w3) (fun v7 => (fun w8 =>
(∃ s9 : ByteArray, (∃ x10 : Int, (∃ b11 : Bool, (∃ b12 : Bool, ((v7 = tuple (Array.mk (List.reverse [bool b12, agg (Array.mk (List.reverse [bool b11, int i64 x10, string s9]))]))) ∧ (atW (alloc w8 (cells (Array.mk [string (ByteArray.mk #[]), int i64 0, bool false]) 33 (0, 0))) (fun w13 =>
(st1 (add (nw w8) 0) (string s9) w13 (fun w15 =>
(st1 (add (nw w8) 1) (int i64 x10) w15 (fun w17 =>
(st1 (add (nw w8) 2) (bool b11) w17 (fun w19 =>
(z5 (some (nw w8)) (b12) (w19)))))))))))))))))))) ∧ (∀ (_ : Nat → Value), (∀ (p21 : Option Addr), (∀ (b22 : Bool), (∀ (w23 : World), ((z5 (p21) (b22) (w23)) → (∃ z24 : World → Prop, ((ifK (!b22)
(R (int i64 3) (w23))
(onP (p21) (fun a25 =>
(∃ x26 : Int, ((cell? w23 (add a25 1) = some (int i64 x26)) ∧ (∃ s27 : ByteArray, ((cell? w23 (add (nw w) 2) = some (string s27)) ∧ (Ca Tryz.prog (72) (Array.mk [int i64 x26, string s27]) (w23) (fun v28 => (fun w29 =>
(∃ b30 : Bool, ((v28 = bool b30) ∧ (ifK (!b30)
(R (int i64 2) (w29))
(∃ s31 : ByteArray, ((cell? w29 (add (nw w) 0) = some (string s31)) ∧ (∃ s32 : ByteArray, ((cell? w29 (add (nw w) 1) = some (string s32)) ∧ (∃ s33 : ByteArray, ((cell? w29 (add (nw w) 2) = some (string s33)) ∧ (Ca Tryz.prog (20) (Array.mk [pointer t, agg (Array.mk (List.reverse [string s33, string s32, string s31]))]) (w29) (fun v34 => (fun w35 =>
(∃ b36 : Bool, ((v34 = bool b36) ∧ (ifK (b36)
(R (int i64 0) (w35))
(onP (t) (fun a37 =>
(∃ p38 : Option Addr, (∃ n39 : Nat, (∃ n40 : Nat, ((cell? w35 (add a37 1) = some (slice p38 n39 n40)) ∧ (ifK (decide ((↑n39 : Int) ≥ 32))
(R (int i64 5) (w35))
(z24 (w35)))))))))))))))))))))))))))))))))) ∧ (∀ (_ : Nat → Value), (∀ (w42 : World), ((z24 (w42)) → (∃ z43 : Option Addr → Nat → Nat → World → Prop, ((atW (drew w42) (fun w44 =>
(onP (t) (fun a45 =>
(∃ p46 : Option Addr, (∃ n47 : Nat, (∃ n48 : Nat, ((cell? w44 (add a45 1) = some (slice p46 n47 n48)) ∧ (∃ s49 : ByteArray, ((cell? w44 (add (nw w) 0) = some (string s49)) ∧ (∃ s50 : ByteArray, ((cell? w44 (add (nw w) 1) = some (string s50)) ∧ (∃ s51 : ByteArray, ((cell? w44 (add (nw w) 2) = some (string s51)) ∧ ((atW (alloc w44 (cells (Array.mk []) 35 (0, 0))) (fun w52 =>
((cell? w52 (add (add a45 1) 0) = some (slice p46 n47 n48)) ∧ ((cell? w52 (add (nw w) 0) = some (string s49)) ∧ ((cell? w52 (add (nw w) 1) = some (string s50)) ∧ ((cell? w52 (add (nw w) 2) = some (string s51)) ∧ ((∃ v53 : Value, (∃ w54 : World, ((Sem.run Tryz.prog (Builtin.append_ (Array.mk [27, 27]) 27 (Array.mk [slice (some (nw w44)) 0 0, slice p46 n47 n48])) w52 = Result.ok v53 w54) ∧ (∃ p55 : Option Addr, (∃ n56 : Nat, (∃ n57 : Nat, ((v53 = slice p55 n56 n57) ∧ ((cell? w54 (add (nw w) 0) = some (string s49)) ∧ ((cell? w54 (add (nw w) 1) = some (string s50)) ∧ ((cell? w54 (add (nw w) 2) = some (string s51)) ∧ (atW (alloc w54 (cells (Array.mk [string s49, string s50, string s51]) 35 (0, 0))) (fun w58 =>
((cell? w58 (add (add a45 1) 0) = some (slice p46 n47 n48)) ∧ (∃ v59 : Value, (∃ w60 : World, ((Sem.run Tryz.prog (Builtin.append_ (Array.mk [27, 27]) 27 (Array.mk [slice p55 n56 n57, slice (some (nw w54)) 1 1])) w58 = Result.ok v59 w60) ∧ (∃ p61 : Option Addr, (∃ n62 : Nat, (∃ n63 : Nat, ((v59 = slice p61 n62 n63) ∧ (z43 (p61) (n62) (n63) (w60)))))))))))))))))))))) ∧ (atW (alloc w52 (cells (Array.mk [string s49, string s50, string s51]) 35 (0, 0))) (fun w64 =>
((cell? w64 (add (add a45 1) 0) = some (slice p46 n47 n48)) ∧ (∃ v65 : Value, (∃ w66 : World, ((Sem.run Tryz.prog (Builtin.append_ (Array.mk [27, 27]) 27 (Array.mk [slice (some (nw w44)) 0 0, slice p46 n47 n48])) w64 = Result.ok v65 w66) ∧ (∃ p67 : Option Addr, (∃ n68 : Nat, (∃ n69 : Nat, ((v65 = slice p67 n68 n69) ∧ ((cell? w66 (add (nw w) 0) = some (string s49)) ∧ ((cell? w66 (add (nw w) 1) = some (string s50)) ∧ ((cell? w66 (add (nw w) 2) = some (string s51)) ∧ (∃ v70 : Value, (∃ w71 : World, ((Sem.run Tryz.prog (Builtin.append_ (Array.mk [27, 27]) 27 (Array.mk [slice p67 n68 n69, slice (some (nw w52)) 1 1])) w66 = Result.ok v70 w71) ∧ (∃ p72 : Option Addr, (∃ n73 : Nat, (∃ n74 : Nat, ((v70 = slice p72 n73 n74) ∧ (z43 (p72) (n73) (n74) (w71))))))))))))))))))))))))))))) ∧ (atW (alloc w44 (cells (Array.mk [string s49, string s50, string s51]) 35 (0, 0))) (fun w75 =>
((cell? w75 (add (add a45 1) 0) = some (slice p46 n47 n48)) ∧ (atW (alloc w75 (cells (Array.mk []) 35 (0, 0))) (fun w76 =>
((cell? w76 (add (add a45 1) 0) = some (slice p46 n47 n48)) ∧ ((cell? w76 (add (nw w) 0) = some (string s49)) ∧ ((cell? w76 (add (nw w) 1) = some (string s50)) ∧ ((cell? w76 (add (nw w) 2) = some (string s51)) ∧ (∃ v77 : Value, (∃ w78 : World, ((Sem.run Tryz.prog (Builtin.append_ (Array.mk [27, 27]) 27 (Array.mk [slice (some (nw w75)) 0 0, slice p46 n47 n48])) w76 = Result.ok v77 w78) ∧ (∃ p79 : Option Addr, (∃ n80 : Nat, (∃ n81 : Nat, ((v77 = slice p79 n80 n81) ∧ ((cell? w78 (add (nw w) 0) = some (string s49)) ∧ ((cell? w78 (add (nw w) 1) = some (string s50)) ∧ ((cell? w78 (add (nw w) 2) = some (string s51)) ∧ (∃ v82 : Value, (∃ w83 : World, ((Sem.run Tryz.prog (Builtin.append_ (Array.mk [27, 27]) 27 (Array.mk [slice p79 n80 n81, slice (some (nw w44)) 1 1])) w78 = Result.ok v82 w83) ∧ (∃ p84 : Option Addr, (∃ n85 : Nat, (∃ n86 : Nat, ((v82 = slice p84 n85 n86) ∧ (z43 (p84) (n85) (n86) (w83))))))))))))))))))))))))))))))))))))))))))) ∧ (∀ (_ : Nat → Value), (∀ (p88 : Option Addr), (∀ (n89 : Nat), (∀ (n90 : Nat), (∀ (w91 : World), ((z43 (p88) (n89) (n90) (w91)) → (∃ z92 : Int → World → Prop, (∃ z93 : Int → World → Nat, ((z92 (wrap i64 ((↑n89 : Int) - 1)) (w91)) ∧ (∀ (_ : Nat → Value), (∀ (x95 : Int), (∀ (w96 : World), ((z92 (x95) (w96)) → (atW (drew w96) (fun w97 =>
(ifK (decide (x95 > 0))
(∃ a98 : Addr, ((p88 = some a98) ∧ (((0 : Int) ≤ x95) ∧ (((x95 : Int) < (↑n89 : Int)) ∧ (∃ s99 : ByteArray, ((cell? w97 (add (add a98 (Int.toNat x95 * 3)) 0) = some (string s99)) ∧ (∃ s100 : ByteArray, ((cell? w97 (add (add a98 (Int.toNat x95 * 3)) 1) = some (string s100)) ∧ (∃ s101 : ByteArray, ((cell? w97 (add (add a98 (Int.toNat x95 * 3)) 2) = some (string s101)) ∧ (∃ a102 : Addr, ((p88 = some a102) ∧ (((0 : Int) ≤ wrap i64 (x95 - 1)) ∧ (((wrap i64 (x95 - 1) : Int) < (↑n89 : Int)) ∧ (∃ s103 : ByteArray, ((cell? w97 (add (add a102 (Int.toNat (wrap i64 (x95 - 1)) * 3)) 0) = some (string s103)) ∧ (∃ s104 : ByteArray, ((cell? w97 (add (add a102 (Int.toNat (wrap i64 (x95 - 1)) * 3)) 1) = some (string s104)) ∧ (∃ s105 : ByteArray, ((cell? w97 (add (add a102 (Int.toNat (wrap i64 (x95 - 1)) * 3)) 2) = some (string s105)) ∧ (Ca Tryz.prog (73) (Array.mk [agg (Array.mk (List.reverse [string s101, string s100, string s99])), agg (Array.mk (List.reverse [string s105, string s104, string s103]))]) (w97) (fun v106 => (fun w107 =>
(∃ b108 : Bool, ((v106 = bool b108) ∧ (ifK (b108)
(atW (drew w107) (fun w109 =>
(∃ a110 : Addr, ((p88 = some a110) ∧ (((0 : Int) ≤ x95) ∧ (((x95 : Int) < (↑n89 : Int)) ∧ (∃ s111 : ByteArray, ((cell? w109 (add (add a110 (Int.toNat x95 * 3)) 0) = some (string s111)) ∧ (∃ s112 : ByteArray, ((cell? w109 (add (add a110 (Int.toNat x95 * 3)) 1) = some (string s112)) ∧ (∃ s113 : ByteArray, ((cell? w109 (add (add a110 (Int.toNat x95 * 3)) 2) = some (string s113)) ∧ (∃ a114 : Addr, ((p88 = some a114) ∧ (((0 : Int) ≤ wrap i64 (x95 - 1)) ∧ (((wrap i64 (x95 - 1) : Int) < (↑n89 : Int)) ∧ (∃ s115 : ByteArray, ((cell? w109 (add (add a114 (Int.toNat (wrap i64 (x95 - 1)) * 3)) 0) = some (string s115)) ∧ (∃ s116 : ByteArray, ((cell? w109 (add (add a114 (Int.toNat (wrap i64 (x95 - 1)) * 3)) 1) = some (string s116)) ∧ (∃ s117 : ByteArray, ((cell? w109 (add (add a114 (Int.toNat (wrap i64 (x95 - 1)) * 3)) 2) = some (string s117)) ∧ (∃ a118 : Addr, ((p88 = some a118) ∧ (((0 : Int) ≤ wrap i64 (x95 - 1)) ∧ (((wrap i64 (x95 - 1) : Int) < (↑n89 : Int)) ∧ (st1 (add (add a118 (Int.toNat (wrap i64 (x95 - 1)) * 3)) 0) (string s111) w109 (fun w120 =>
(st1 (add (add a118 (Int.toNat (wrap i64 (x95 - 1)) * 3)) 1) (string s112) w120 (fun w122 =>
(st1 (add (add a118 (Int.toNat (wrap i64 (x95 - 1)) * 3)) 2) (string s113) w122 (fun w124 =>
(∃ a125 : Addr, ((p88 = some a125) ∧ (((0 : Int) ≤ x95) ∧ (((x95 : Int) < (↑n89 : Int)) ∧ (st1 (add (add a125 (Int.toNat x95 * 3)) 0) (string s115) w124 (fun w127 =>
(st1 (add (add a125 (Int.toNat x95 * 3)) 1) (string s116) w127 (fun w129 =>
(st1 (add (add a125 (Int.toNat x95 * 3)) 2) (string s117) w129 (fun w131 =>
((z92 (wrap i64 (x95 - 1)) (w131)) ∧ (z93 (wrap i64 (x95 - 1)) w131 < z93 x95 w96))))))))))))))))))))))))))))))))))))))))))))
(onP (t) (fun a132 =>
(st1 (add (add a132 1) 0) (slice p88 n89 n90) w107 (fun w134 =>
(R (int i64 0) (w134))))))))))))))))))))))))))))))))
(onP (t) (fun a135 =>
(st1 (add (add a135 1) 0) (slice p88 n89 n90) w97 (fun w137 =>
(R (int i64 0) (w137))))))))))))))))))))))))))))))))))))))))))))))
theorem ca39 (t : Option Addr) (b0_ : ByteArray) (b1_ : ByteArray) (b2_ : ByteArray) (w : World) (R : Value → World → Prop) (h : W39 t b0_ b1_ b2_ w R) : Ca Tryz.prog 39 ⟨[(.pointer t), (.agg ⟨[(.string b0_), (.string b1_), (.string b2_)]⟩)]⟩ w R :=
  caB (fn := Tryz.f39) (pl := pl39) (ls := ls39) Tryz.func39 (by kernel_rfl) (by kernel_rfl) h

/-- staith/staithlaw07.light -/
noncomputable def C11 : Code := (Tryz.f11.body).getD .skip
def pl11 : Nat → Plan := fun _ => .done
def ls11 : Nat → List (Nat × LT)
  | 4 => [(3, (.one (.int .i64))), (8, (.one (.int .i64)))]
  | _ => []
def W11 (actsa : Option Addr) (actsl : Nat) (_actsc : Nat) (w : World) (R : Value → World → Prop) : Prop :=
  (∃ z0 : Int → Int → World → Prop, (∃ z1 : Int → Int → World → Nat, ((z0 (0) (0) (w)) ∧ (∀ (_ : Nat → Value), (∀ (x3 : Int), (∀ (x4 : Int), (∀ (w5 : World), ((z0 (x3) (x4) (w5)) → (ifK (decide (x4 < (↑actsl : Int)))
(∃ a6 : Addr, ((actsa = some a6) ∧ (((0 : Int) ≤ x4) ∧ (((x4 : Int) < (↑actsl : Int)) ∧ (∃ x7 : Int, ((cell? w5 (add (add a6 (Int.toNat x4 * 7)) 0) = some (int i64 x7)) ∧ (∃ s8 : ByteArray, ((cell? w5 (add (add a6 (Int.toNat x4 * 7)) 1) = some (string s8)) ∧ (∃ x9 : Int, ((cell? w5 (add (add a6 (Int.toNat x4 * 7)) 2) = some (int i64 x9)) ∧ (∃ b10 : Bool, ((cell? w5 (add (add a6 (Int.toNat x4 * 7)) 3) = some (bool b10)) ∧ (∃ s11 : ByteArray, ((cell? w5 (add (add a6 (Int.toNat x4 * 7)) 4) = some (string s11)) ∧ (∃ s12 : ByteArray, ((cell? w5 (add (add a6 (Int.toNat x4 * 7)) 5) = some (string s12)) ∧ (∃ s13 : ByteArray, ((cell? w5 (add (add a6 (Int.toNat x4 * 7)) 6) = some (string s13)) ∧ (atW (alloc w5 (cells (Array.mk [int i64 0, string (ByteArray.mk #[]), int i64 0, bool false, string (ByteArray.mk #[]), string (ByteArray.mk #[]), string (ByteArray.mk #[])]) 37 (0, 0))) (fun w14 =>
(st1 (add (nw w5) 0) (int i64 x7) w14 (fun w16 =>
(st1 (add (nw w5) 1) (string s8) w16 (fun w18 =>
(st1 (add (nw w5) 2) (int i64 x9) w18 (fun w20 =>
(st1 (add (nw w5) 3) (bool b10) w20 (fun w22 =>
(st1 (add (nw w5) 4) (string s11) w22 (fun w24 =>
(st1 (add (nw w5) 5) (string s12) w24 (fun w26 =>
(st1 (add (nw w5) 6) (string s13) w26 (fun w28 =>
(∃ s29 : ByteArray, ((cell? w28 (add (add (nw w5) 1) 0) = some (string s29)) ∧ (∃ s30 : ByteArray, ((cell? w28 (add (add (nw w5) 4) 0) = some (string s30)) ∧ (∃ s31 : ByteArray, ((cell? w28 (add (add (nw w5) 4) 1) = some (string s31)) ∧ (∃ s32 : ByteArray, ((cell? w28 (add (add (nw w5) 4) 2) = some (string s32)) ∧ (((100 : Int) ≠ 0) ∧ (ifK (decide (wrap i64 (x3 + wrap i64 (1 + wrap i64 (Int.tdiv (wrap i64 (wrap i64 (wrap i64 ((↑(ByteArray.size s29) : Int) + (↑(ByteArray.size s30) : Int)) + (↑(ByteArray.size s31) : Int)) + (↑(ByteArray.size s32) : Int))) 100))) > 300))
(R (bool false) (w28))
((z0 (wrap i64 (x3 + wrap i64 (1 + wrap i64 (Int.tdiv (wrap i64 (wrap i64 (wrap i64 ((↑(ByteArray.size s29) : Int) + (↑(ByteArray.size s30) : Int)) + (↑(ByteArray.size s31) : Int)) + (↑(ByteArray.size s32) : Int))) 100)))) (wrap i64 (x4 + 1)) (w28)) ∧ (z1 (wrap i64 (x3 + wrap i64 (1 + wrap i64 (Int.tdiv (wrap i64 (wrap i64 (wrap i64 ((↑(ByteArray.size s29) : Int) + (↑(ByteArray.size s30) : Int)) + (↑(ByteArray.size s31) : Int)) + (↑(ByteArray.size s32) : Int))) 100)))) (wrap i64 (x4 + 1)) w28 < z1 x3 x4 w5))))))))))))))))))))))))))))))))))))))))))))))
(R (bool true) (w5)))))))))))
theorem ca11 (actsa : Option Addr) (actsl : Nat) (actsc : Nat) (w : World) (R : Value → World → Prop) (h : W11 actsa actsl actsc w R) : Ca Tryz.prog 11 ⟨[(.slice actsa actsl actsc)]⟩ w R :=
  caB (fn := Tryz.f11) (pl := pl11) (ls := ls11) Tryz.func11 (by kernel_rfl) (by kernel_rfl) h

/-- staith/staithlaw07.act -/
noncomputable def C13 : Code := (Tryz.f13.body).getD .skip
def pl13 : Nat → Plan
  | 3 => (.quiet 0 (.quiet 1 (.quiet 2 (.quiet 4 (.quiet 5 (.quiet 6 (.eff 3 [6] (.eff 7 [] (.quiet 8 (.quiet 9 (.quiet 10 (.quiet 11 (.quiet 13 (.quiet 14 (.eff 12 [14] (.eff 15 [] (.quiet 16 (.quiet 17 (.quiet 18 .done)))))))))))))))))))
  | 5 => (.quiet 0 (.quiet 1 (.quiet 2 (.quiet 3 (.quiet 5 (.quiet 6 (.quiet 7 (.quiet 8 (.eff 4 [8] (.eff 9 [] (.quiet 10 (.quiet 11 .done))))))))))))
  | 7 => (.quiet 0 (.quiet 1 (.quiet 2 (.quiet 4 (.quiet 5 (.quiet 6 (.eff 3 [6] (.eff 7 [] (.quiet 8 (.quiet 9 .done))))))))))
  | 9 => (.quiet 0 (.quiet 1 (.quiet 2 (.quiet 4 (.quiet 5 (.quiet 6 (.eff 3 [6] (.eff 7 [] (.quiet 8 (.quiet 9 .done))))))))))
  | 11 => (.quiet 0 (.quiet 1 (.quiet 2 (.quiet 3 (.quiet 5 (.quiet 6 (.quiet 7 (.quiet 8 (.eff 4 [8] (.eff 9 [] (.quiet 10 (.quiet 11 .done))))))))))))
  | _ => .done
def ls13 : Nat → List (Nat × LT) := fun _ => []
def W13 (t : Option Addr) (r : Option Addr) (a0_ : Int) (a1_ : ByteArray) (a2_ : Int) (a3_ : Bool) (a4_ : ByteArray) (a5_ : ByteArray) (a6_ : ByteArray) (w : World) (R : Value → World → Prop) : Prop :=
  (atW (alloc w (cells (Array.mk [int i64 a0_, string a1_, int i64 a2_, bool a3_, string a4_, string a5_, string a6_]) 37 (0, 0))) (fun w0 =>
(∃ x1 : Int, ((cell? w0 (add (nw w) 0) = some (int i64 x1)) ∧ (ifK (x1 == 0)
(atW (drew w0) (fun w2 =>
(∃ s3 : ByteArray, ((cell? w2 (add (add (nw w) 1) 0) = some (string s3)) ∧ (∃ x4 : Int, ((cell? w2 (add (add (nw w) 1) 1) = some (int i64 x4)) ∧ (∃ b5 : Bool, ((cell? w2 (add (add (nw w) 1) 2) = some (bool b5)) ∧ (∃ s6 : ByteArray, ((cell? w2 (add (add (nw w) 1) 0) = some (string s6)) ∧ (∃ x7 : Int, ((cell? w2 (add (add (nw w) 1) 1) = some (int i64 x7)) ∧ (∃ b8 : Bool, ((cell? w2 (add (add (nw w) 1) 2) = some (bool b8)) ∧ (Ca Tryz.prog (35) (Array.mk [pointer t, agg (Array.mk (List.reverse [bool b5, int i64 x4, string s3]))]) (w2) (fun v9 => (fun w10 =>
(∃ x11 : Int, ((v9 = int i64 x11) ∧ ((cell? w10 (add (add (nw w) 1) 0) = some (string s6)) ∧ ((cell? w10 (add (add (nw w) 1) 1) = some (int i64 x7)) ∧ ((cell? w10 (add (add (nw w) 1) 2) = some (bool b8)) ∧ (Ca Tryz.prog (36) (Array.mk [pointer r, agg (Array.mk (List.reverse [bool b8, int i64 x7, string s6]))]) (w10) (fun v12 => (fun w13 =>
(∃ x14 : Int, ((v12 = int i64 x14) ∧ (ifK (x11 == x14)
(∃ s15 : ByteArray, ((cell? w13 (add (add (nw w) 1) 0) = some (string s15)) ∧ (∃ x16 : Int, ((cell? w13 (add (add (nw w) 1) 1) = some (int i64 x16)) ∧ (∃ b17 : Bool, ((cell? w13 (add (add (nw w) 1) 2) = some (bool b17)) ∧ (∃ s18 : ByteArray, ((cell? w13 (add (add (nw w) 1) 0) = some (string s18)) ∧ (∃ x19 : Int, ((cell? w13 (add (add (nw w) 1) 1) = some (int i64 x19)) ∧ (∃ b20 : Bool, ((cell? w13 (add (add (nw w) 1) 2) = some (bool b20)) ∧ (Ca Tryz.prog (18) (Array.mk [agg (Array.mk (List.reverse [bool b17, int i64 x16, string s15]))]) (w13) (fun v21 => (fun w22 =>
(∃ b23 : Bool, ((v21 = bool b23) ∧ ((cell? w22 (add (add (nw w) 1) 0) = some (string s18)) ∧ ((cell? w22 (add (add (nw w) 1) 1) = some (int i64 x19)) ∧ ((cell? w22 (add (add (nw w) 1) 2) = some (bool b20)) ∧ (Ca Tryz.prog (37) (Array.mk [agg (Array.mk (List.reverse [bool b20, int i64 x19, string s18]))]) (w22) (fun v24 => (fun w25 =>
(∃ b26 : Bool, ((v24 = bool b26) ∧ (R (bool (b23 == b26)) (w25)))))))))))))))))))))))))))
(R (bool false) (w13))))))))))))))))))))))))))))))
(ifK (x1 == 1)
(atW (drew w0) (fun w27 =>
(∃ s28 : ByteArray, ((cell? w27 (add (add (nw w) 1) 0) = some (string s28)) ∧ (∃ s29 : ByteArray, ((cell? w27 (add (add (nw w) 1) 0) = some (string s29)) ∧ (Ca Tryz.prog (23) (Array.mk [pointer t, string s28]) (w27) (fun v30 => (fun w31 =>
(∃ x32 : Int, ((v30 = int i64 x32) ∧ ((cell? w31 (add (add (add (nw w) 1) 0) 0) = some (string s29)) ∧ (Ca Tryz.prog (38) (Array.mk [pointer r, string s29]) (w31) (fun v33 => (fun w34 =>
(∃ x35 : Int, ((v33 = int i64 x35) ∧ (R (bool (x32 == x35)) (w34)))))))))))))))))))
(ifK (x1 == 2)
(atW (drew w0) (fun w36 =>
(∃ s37 : ByteArray, ((cell? w36 (add (add (nw w) 4) 0) = some (string s37)) ∧ (∃ s38 : ByteArray, ((cell? w36 (add (add (nw w) 4) 1) = some (string s38)) ∧ (∃ s39 : ByteArray, ((cell? w36 (add (add (nw w) 4) 2) = some (string s39)) ∧ (∃ s40 : ByteArray, ((cell? w36 (add (add (nw w) 4) 0) = some (string s40)) ∧ (∃ s41 : ByteArray, ((cell? w36 (add (add (nw w) 4) 1) = some (string s41)) ∧ (∃ s42 : ByteArray, ((cell? w36 (add (add (nw w) 4) 2) = some (string s42)) ∧ (Ca Tryz.prog (21) (Array.mk [pointer t, agg (Array.mk (List.reverse [string s39, string s38, string s37]))]) (w36) (fun v43 => (fun w44 =>
(∃ x45 : Int, ((v43 = int i64 x45) ∧ ((cell? w44 (add (add (nw w) 4) 0) = some (string s40)) ∧ ((cell? w44 (add (add (nw w) 4) 1) = some (string s41)) ∧ ((cell? w44 (add (add (nw w) 4) 2) = some (string s42)) ∧ (Ca Tryz.prog (39) (Array.mk [pointer r, agg (Array.mk (List.reverse [string s42, string s41, string s40]))]) (w44) (fun v46 => (fun w47 =>
(∃ x48 : Int, ((v46 = int i64 x48) ∧ (R (bool (x45 == x48)) (w47)))))))))))))))))))))))))))))
(ifK (x1 == 3)
(atW (drew w0) (fun w49 =>
(∃ s50 : ByteArray, ((cell? w49 (add (add (nw w) 4) 0) = some (string s50)) ∧ (∃ s51 : ByteArray, ((cell? w49 (add (add (nw w) 4) 1) = some (string s51)) ∧ (∃ s52 : ByteArray, ((cell? w49 (add (add (nw w) 4) 2) = some (string s52)) ∧ (∃ s53 : ByteArray, ((cell? w49 (add (add (nw w) 4) 0) = some (string s53)) ∧ (∃ s54 : ByteArray, ((cell? w49 (add (add (nw w) 4) 1) = some (string s54)) ∧ (∃ s55 : ByteArray, ((cell? w49 (add (add (nw w) 4) 2) = some (string s55)) ∧ (Ca Tryz.prog (22) (Array.mk [pointer t, agg (Array.mk (List.reverse [string s52, string s51, string s50]))]) (w49) (fun v56 => (fun w57 =>
(∃ x58 : Int, ((v56 = int i64 x58) ∧ ((cell? w57 (add (add (nw w) 4) 0) = some (string s53)) ∧ ((cell? w57 (add (add (nw w) 4) 1) = some (string s54)) ∧ ((cell? w57 (add (add (nw w) 4) 2) = some (string s55)) ∧ (Ca Tryz.prog (40) (Array.mk [pointer r, agg (Array.mk (List.reverse [string s55, string s54, string s53]))]) (w57) (fun v59 => (fun w60 =>
(∃ x61 : Int, ((v59 = int i64 x61) ∧ (R (bool (x58 == x61)) (w60)))))))))))))))))))))))))))))
(ifK (x1 == 4)
(atW (drew w0) (fun w62 =>
(∃ s63 : ByteArray, ((cell? w62 (add (add (nw w) 4) 1) = some (string s63)) ∧ (∃ s64 : ByteArray, ((cell? w62 (add (add (nw w) 4) 1) = some (string s64)) ∧ (Ca Tryz.prog (41) (Array.mk [pointer t, string s63]) (w62) (fun v65 => (fun w66 =>
(∃ x67 : Int, ((v65 = int i64 x67) ∧ ((cell? w66 (add (add (add (nw w) 4) 1) 0) = some (string s64)) ∧ (Ca Tryz.prog (42) (Array.mk [pointer r, string s64]) (w66) (fun v68 => (fun w69 =>
(∃ x70 : Int, ((v68 = int i64 x70) ∧ (R (bool (x67 == x70)) (w69)))))))))))))))))))
(ifK (x1 == 5)
(∃ s71 : ByteArray, ((cell? w0 (add (add (nw w) 1) 0) = some (string s71)) ∧ (Ca Tryz.prog (17) (Array.mk [pointer t, string s71]) (w0) (fun v72 => (fun w73 =>
(∃ s74 : ByteArray, (∃ x75 : Int, (∃ b76 : Bool, (∃ b77 : Bool, ((v72 = tuple (Array.mk (List.reverse [bool b77, agg (Array.mk (List.reverse [bool b76, int i64 x75, string s74]))]))) ∧ (atW (alloc w73 (cells (Array.mk [string (ByteArray.mk #[]), int i64 0, bool false]) 33 (0, 0))) (fun w78 =>
(st1 (add (nw w73) 0) (string s74) w78 (fun w80 =>
(st1 (add (nw w73) 1) (int i64 x75) w80 (fun w82 =>
(st1 (add (nw w73) 2) (bool b76) w82 (fun w84 =>
(∃ s85 : ByteArray, ((cell? w84 (add (add (nw w) 1) 0) = some (string s85)) ∧ (Ca Tryz.prog (43) (Array.mk [pointer r, string s85]) (w84) (fun v86 => (fun w87 =>
(∃ s88 : ByteArray, (∃ x89 : Int, (∃ b90 : Bool, (∃ b91 : Bool, ((v86 = tuple (Array.mk (List.reverse [bool b91, agg (Array.mk (List.reverse [bool b90, int i64 x89, string s88]))]))) ∧ (atW (alloc w87 (cells (Array.mk [string (ByteArray.mk #[]), int i64 0, bool false]) 33 (0, 0))) (fun w92 =>
(st1 (add (nw w87) 0) (string s88) w92 (fun w94 =>
(st1 (add (nw w87) 1) (int i64 x89) w94 (fun w96 =>
(st1 (add (nw w87) 2) (bool b90) w96 (fun w98 =>
(∃ s99 : ByteArray, ((cell? w98 (add (nw w73) 0) = some (string s99)) ∧ (∃ x100 : Int, ((cell? w98 (add (nw w73) 1) = some (int i64 x100)) ∧ (∃ b101 : Bool, ((cell? w98 (add (nw w73) 2) = some (bool b101)) ∧ (∃ s102 : ByteArray, ((cell? w98 (add (nw w87) 0) = some (string s102)) ∧ (∃ x103 : Int, ((cell? w98 (add (nw w87) 1) = some (int i64 x103)) ∧ (∃ b104 : Bool, ((cell? w98 (add (nw w87) 2) = some (bool b104)) ∧ (eqA Tryz.prog 33 (agg (Array.mk (List.reverse [bool b101, int i64 x100, string s99]))) (agg (Array.mk (List.reverse [bool b104, int i64 x103, string s102]))) (w98) (fun b105 => (fun w106 =>
(ifK (b105)
(R (bool (b77 == b91)) (w106))
(R (bool false) (w106))))))))))))))))))))))))))))))))))))))))))))))))))))))
(R (bool true) (w0))))))))))))
theorem ca13 (t : Option Addr) (r : Option Addr) (a0_ : Int) (a1_ : ByteArray) (a2_ : Int) (a3_ : Bool) (a4_ : ByteArray) (a5_ : ByteArray) (a6_ : ByteArray) (w : World) (R : Value → World → Prop) (h : W13 t r a0_ a1_ a2_ a3_ a4_ a5_ a6_ w R) : Ca Tryz.prog 13 ⟨[(.pointer t), (.pointer r), (.agg ⟨[(.int .i64 a0_), (.string a1_), (.int .i64 a2_), (.bool a3_), (.string a4_), (.string a5_), (.string a6_)]⟩)]⟩ w R :=
  caB (fn := Tryz.f13) (pl := pl13) (ls := ls13) Tryz.func13 (by kernel_rfl) (by kernel_rfl) h

/-- staith/staithlaw07.BindActs -/
noncomputable def C3 : Code := (Tryz.f3.body).getD .skip
def pl3 : Nat → Plan := fun _ => .done
def ls3 : Nat → List (Nat × LT)
  | 7 => [(24, (.one (.int .i64)))]
  | _ => []
def W3 (actsa : Option Addr) (actsl : Nat) (actsc : Nat) (w : World) (R : Value → World → Prop) : Prop :=
  (Ca Tryz.prog (10) (Array.mk []) (w) (fun v0 => (fun w1 =>
(∃ p2 : Option Addr, ((v0 = pointer p2) ∧ (atW (alloc w1 (cells (Array.mk [slice none 0 0, slice none 0 0]) 29 (0, 0))) (fun w3 =>
(ifK (Option.isNone p2)
(ifK (!Option.isNone p2)
(Ca Tryz.prog (12) (Array.mk []) (w3) (fun v4 => (fun w5 =>
(∃ b6 : Bool, ((v4 = bool b6) ∧ (R (bool b6) (w5)))))))
(R (bool false) (w3)))
(Ca Tryz.prog (11) (Array.mk [slice actsa actsl actsc]) (w3) (fun v7 => (fun w8 =>
(∃ b9 : Bool, ((v7 = bool b9) ∧ (ifK (!b9)
(ifK (!Option.isNone p2)
(Ca Tryz.prog (12) (Array.mk []) (w8) (fun v10 => (fun w11 =>
(∃ b12 : Bool, ((v10 = bool b12) ∧ (R (bool b12) (w11)))))))
(R (bool false) (w8)))
(∃ z13 : Int → World → Prop, (∃ z14 : Int → World → Nat, ((z13 (0) (w8)) ∧ (∀ (_ : Nat → Value), (∀ (x16 : Int), (∀ (w17 : World), ((z13 (x16) (w17)) → (ifK (decide (x16 < (↑actsl : Int)))
(∃ a18 : Addr, ((actsa = some a18) ∧ (((0 : Int) ≤ x16) ∧ (((x16 : Int) < (↑actsl : Int)) ∧ (∃ x19 : Int, ((cell? w17 (add (add a18 (Int.toNat x16 * 7)) 0) = some (int i64 x19)) ∧ (∃ s20 : ByteArray, ((cell? w17 (add (add a18 (Int.toNat x16 * 7)) 1) = some (string s20)) ∧ (∃ x21 : Int, ((cell? w17 (add (add a18 (Int.toNat x16 * 7)) 2) = some (int i64 x21)) ∧ (∃ b22 : Bool, ((cell? w17 (add (add a18 (Int.toNat x16 * 7)) 3) = some (bool b22)) ∧ (∃ s23 : ByteArray, ((cell? w17 (add (add a18 (Int.toNat x16 * 7)) 4) = some (string s23)) ∧ (∃ s24 : ByteArray, ((cell? w17 (add (add a18 (Int.toNat x16 * 7)) 5) = some (string s24)) ∧ (∃ s25 : ByteArray, ((cell? w17 (add (add a18 (Int.toNat x16 * 7)) 6) = some (string s25)) ∧ (atW (alloc w17 (cells (Array.mk [int i64 0, string (ByteArray.mk #[]), int i64 0, bool false, string (ByteArray.mk #[]), string (ByteArray.mk #[]), string (ByteArray.mk #[])]) 37 (0, 0))) (fun w26 =>
(st1 (add (nw w17) 0) (int i64 x19) w26 (fun w28 =>
(st1 (add (nw w17) 1) (string s20) w28 (fun w30 =>
(st1 (add (nw w17) 2) (int i64 x21) w30 (fun w32 =>
(st1 (add (nw w17) 3) (bool b22) w32 (fun w34 =>
(st1 (add (nw w17) 4) (string s23) w34 (fun w36 =>
(st1 (add (nw w17) 5) (string s24) w36 (fun w38 =>
(st1 (add (nw w17) 6) (string s25) w38 (fun w40 =>
(∃ x41 : Int, ((cell? w40 (add (nw w17) 0) = some (int i64 x41)) ∧ (∃ s42 : ByteArray, ((cell? w40 (add (nw w17) 1) = some (string s42)) ∧ (∃ x43 : Int, ((cell? w40 (add (nw w17) 2) = some (int i64 x43)) ∧ (∃ b44 : Bool, ((cell? w40 (add (nw w17) 3) = some (bool b44)) ∧ (∃ s45 : ByteArray, ((cell? w40 (add (nw w17) 4) = some (string s45)) ∧ (∃ s46 : ByteArray, ((cell? w40 (add (nw w17) 5) = some (string s46)) ∧ (∃ s47 : ByteArray, ((cell? w40 (add (nw w17) 6) = some (string s47)) ∧ (Ca Tryz.prog (13) (Array.mk [pointer p2, pointer (some (nw w1)), agg (Array.mk (List.reverse [string s47, string s46, string s45, bool b44, int i64 x43, string s42, int i64 x41]))]) (w40) (fun v48 => (fun w49 =>
(∃ b50 : Bool, ((v48 = bool b50) ∧ (ifK (!b50)
(R (bool false) (w49))
(Ca Tryz.prog (15) (Array.mk [pointer p2]) (w49) (fun v51 => (fun w52 =>
(∃ p53 : Option Addr, (∃ n54 : Nat, (∃ n55 : Nat, ((v51 = slice p53 n54 n55) ∧ (Ca Tryz.prog (16) (Array.mk [pointer p2]) (w52) (fun v56 => (fun w57 =>
(∃ p58 : Option Addr, (∃ n59 : Nat, (∃ n60 : Nat, ((v56 = slice p58 n59 n60) ∧ (Ca Tryz.prog (14) (Array.mk [slice p53 n54 n55, slice p58 n59 n60, pointer (some (nw w1))]) (w57) (fun v61 => (fun w62 =>
(∃ b63 : Bool, ((v61 = bool b63) ∧ (ifK (!b63)
(R (bool false) (w62))
((z13 (wrap i64 (x16 + 1)) (w62)) ∧ (z14 (wrap i64 (x16 + 1)) w62 < z14 x16 w17))))))))))))))))))))))))))))))))))))))))))))))))))))))))))))))))))))))))))))
(Ca Tryz.prog (12) (Array.mk []) (w17) (fun v64 => (fun w65 =>
(∃ b66 : Bool, ((v64 = bool b66) ∧ (R (bool b66) (w65)))))))))))))))))))))))))))))
theorem ca3 (actsa : Option Addr) (actsl : Nat) (actsc : Nat) (w : World) (R : Value → World → Prop) (h : W3 actsa actsl actsc w R) : Ca Tryz.prog 3 ⟨[(.slice actsa actsl actsc)]⟩ w R :=
  caB (fn := Tryz.f3) (pl := pl3) (ls := ls3) Tryz.func3 (by kernel_rfl) (by kernel_rfl) h

/-- staith/staithlaw07.BindHolds -/
noncomputable def C4 : Code := (Tryz.f4.body).getD .skip
def pl4 : Nat → Plan
  | 15 => (.quiet 0 (.quiet 1 (.quiet 2 (.quiet 3 (.quiet 4 (.eff 5 [] (.quiet 6 (.quiet 7 (.quiet 8 (.quiet 9 (.quiet 10 (.quiet 11 (.quiet 12 (.quiet 13 (.quiet 14 (.quiet 15 (.quiet 16 (.quiet 17 (.quiet 18 (.quiet 19 (.quiet 20 (.quiet 21 (.quiet 22 (.quiet 23 (.eff 24 [] (.quiet 25 (.quiet 26 .done)))))))))))))))))))))))))))
  | 22 => (.quiet 0 (.quiet 1 (.quiet 2 (.quiet 3 (.quiet 4 (.quiet 5 (.quiet 6 (.quiet 7 (.quiet 8 (.quiet 9 (.quiet 10 (.quiet 11 (.eff 12 [] (.quiet 13 (.quiet 14 .done)))))))))))))))
  | _ => .done
def ls4 : Nat → List (Nat × LT)
  | 7 => [(34, (.one (.int .i64)))]
  | 19 => [(56, (.one (.int .i64)))]
  | 28 => [(98, (.one (.int .i64)))]
  | _ => []
def W4 (actsa : Option Addr) (actsl : Nat) (actsc : Nat) (w : World) (R : Value → World → Prop) : Prop :=
  (Ca Tryz.prog (10) (Array.mk []) (w) (fun v0 => (fun w1 =>
(∃ p2 : Option Addr, ((v0 = pointer p2) ∧ (atW (alloc w1 (cells (Array.mk [slice none 0 0, slice none 0 0]) 29 (0, 0))) (fun w3 =>
(ifK (Option.isNone p2)
(ifK (!Option.isNone p2)
(Ca Tryz.prog (12) (Array.mk []) (w3) (fun v4 => (fun w5 =>
(∃ b6 : Bool, ((v4 = bool b6) ∧ (R (bool b6) (w5)))))))
(R (bool false) (w3)))
(Ca Tryz.prog (11) (Array.mk [slice actsa actsl actsc]) (w3) (fun v7 => (fun w8 =>
(∃ b9 : Bool, ((v7 = bool b9) ∧ (ifK (!b9)
(ifK (!Option.isNone p2)
(Ca Tryz.prog (12) (Array.mk []) (w8) (fun v10 => (fun w11 =>
(∃ b12 : Bool, ((v10 = bool b12) ∧ (R (bool b12) (w11)))))))
(R (bool false) (w8)))
(∃ z13 : Int → World → Prop, (∃ z14 : Int → World → Nat, ((z13 (0) (w8)) ∧ (∀ (_ : Nat → Value), (∀ (x16 : Int), (∀ (w17 : World), ((z13 (x16) (w17)) → (ifK (decide (x16 < (↑actsl : Int)))
(∃ a18 : Addr, ((actsa = some a18) ∧ (((0 : Int) ≤ x16) ∧ (((x16 : Int) < (↑actsl : Int)) ∧ (∃ x19 : Int, ((cell? w17 (add (add a18 (Int.toNat x16 * 7)) 0) = some (int i64 x19)) ∧ (∃ s20 : ByteArray, ((cell? w17 (add (add a18 (Int.toNat x16 * 7)) 1) = some (string s20)) ∧ (∃ x21 : Int, ((cell? w17 (add (add a18 (Int.toNat x16 * 7)) 2) = some (int i64 x21)) ∧ (∃ b22 : Bool, ((cell? w17 (add (add a18 (Int.toNat x16 * 7)) 3) = some (bool b22)) ∧ (∃ s23 : ByteArray, ((cell? w17 (add (add a18 (Int.toNat x16 * 7)) 4) = some (string s23)) ∧ (∃ s24 : ByteArray, ((cell? w17 (add (add a18 (Int.toNat x16 * 7)) 5) = some (string s24)) ∧ (∃ s25 : ByteArray, ((cell? w17 (add (add a18 (Int.toNat x16 * 7)) 6) = some (string s25)) ∧ (atW (alloc w17 (cells (Array.mk [int i64 0, string (ByteArray.mk #[]), int i64 0, bool false, string (ByteArray.mk #[]), string (ByteArray.mk #[]), string (ByteArray.mk #[])]) 37 (0, 0))) (fun w26 =>
(st1 (add (nw w17) 0) (int i64 x19) w26 (fun w28 =>
(st1 (add (nw w17) 1) (string s20) w28 (fun w30 =>
(st1 (add (nw w17) 2) (int i64 x21) w30 (fun w32 =>
(st1 (add (nw w17) 3) (bool b22) w32 (fun w34 =>
(st1 (add (nw w17) 4) (string s23) w34 (fun w36 =>
(st1 (add (nw w17) 5) (string s24) w36 (fun w38 =>
(st1 (add (nw w17) 6) (string s25) w38 (fun w40 =>
(∃ x41 : Int, ((cell? w40 (add (nw w17) 0) = some (int i64 x41)) ∧ (∃ s42 : ByteArray, ((cell? w40 (add (nw w17) 1) = some (string s42)) ∧ (∃ x43 : Int, ((cell? w40 (add (nw w17) 2) = some (int i64 x43)) ∧ (∃ b44 : Bool, ((cell? w40 (add (nw w17) 3) = some (bool b44)) ∧ (∃ s45 : ByteArray, ((cell? w40 (add (nw w17) 4) = some (string s45)) ∧ (∃ s46 : ByteArray, ((cell? w40 (add (nw w17) 5) = some (string s46)) ∧ (∃ s47 : ByteArray, ((cell? w40 (add (nw w17) 6) = some (string s47)) ∧ (Ca Tryz.prog (13) (Array.mk [pointer p2, pointer (some (nw w1)), agg (Array.mk (List.reverse [string s47, string s46, string s45, bool b44, int i64 x43, string s42, int i64 x41]))]) (w40) (fun v48 => (fun w49 =>
(∃ b50 : Bool, ((v48 = bool b50) ∧ (Ca Tryz.prog (15) (Array.mk [pointer p2]) (w49) (fun v51 => (fun w52 =>
(∃ p53 : Option Addr, (∃ n54 : Nat, (∃ n55 : Nat, ((v51 = slice p53 n54 n55) ∧ (Ca Tryz.prog (16) (Array.mk [pointer p2]) (w52) (fun v56 => (fun w57 =>
(∃ p58 : Option Addr, (∃ n59 : Nat, (∃ n60 : Nat, ((v56 = slice p58 n59 n60) ∧ (ifK (decide ((↑n54 : Int) > 8))
(R (bool false) (w57))
(ifK (decide ((↑n59 : Int) > 32))
(R (bool false) (w57))
(∃ z61 : Int → World → Prop, (∃ z62 : Int → World → Nat, ((z61 (0) (w57)) ∧ (∀ (_ : Nat → Value), (∀ (x64 : Int), (∀ (w65 : World), ((z61 (x64) (w65)) → (ifK (decide (x64 < (↑n54 : Int)))
(∃ a66 : Addr, ((p53 = some a66) ∧ (((0 : Int) ≤ x64) ∧ (((x64 : Int) < (↑n54 : Int)) ∧ (∃ s67 : ByteArray, ((cell? w65 (add (add a66 (Int.toNat x64 * 3)) 0) = some (string s67)) ∧ (∃ x68 : Int, ((cell? w65 (add (add a66 (Int.toNat x64 * 3)) 1) = some (int i64 x68)) ∧ (∃ b69 : Bool, ((cell? w65 (add (add a66 (Int.toNat x64 * 3)) 2) = some (bool b69)) ∧ (atW (alloc w65 (cells (Array.mk [string (ByteArray.mk #[]), int i64 0, bool false]) 33 (0, 0))) (fun w70 =>
(st1 (add (nw w65) 0) (string s67) w70 (fun w72 =>
(st1 (add (nw w65) 1) (int i64 x68) w72 (fun w74 =>
(st1 (add (nw w65) 2) (bool b69) w74 (fun w76 =>
(∃ s77 : ByteArray, ((cell? w76 (add (nw w65) 0) = some (string s77)) ∧ (Ca Tryz.prog (17) (Array.mk [pointer p2, string s77]) (w76) (fun v78 => (fun w79 =>
(∃ s80 : ByteArray, (∃ x81 : Int, (∃ b82 : Bool, (∃ b83 : Bool, ((v78 = tuple (Array.mk (List.reverse [bool b83, agg (Array.mk (List.reverse [bool b82, int i64 x81, string s80]))]))) ∧ (atW (alloc w79 (cells (Array.mk [string (ByteArray.mk #[]), int i64 0, bool false]) 33 (0, 0))) (fun w84 =>
(st1 (add (nw w79) 0) (string s80) w84 (fun w86 =>
(st1 (add (nw w79) 1) (int i64 x81) w86 (fun w88 =>
(st1 (add (nw w79) 2) (bool b82) w88 (fun w90 =>
(atW (drew w90) (fun w91 =>
(ifK (!b83)
(R (bool false) (w91))
(∃ s92 : ByteArray, ((cell? w91 (add (nw w65) 0) = some (string s92)) ∧ (∃ x93 : Int, ((cell? w91 (add (nw w65) 1) = some (int i64 x93)) ∧ (∃ b94 : Bool, ((cell? w91 (add (nw w65) 2) = some (bool b94)) ∧ (∃ s95 : ByteArray, ((cell? w91 (add (nw w79) 0) = some (string s95)) ∧ (∃ x96 : Int, ((cell? w91 (add (nw w79) 1) = some (int i64 x96)) ∧ (∃ b97 : Bool, ((cell? w91 (add (nw w79) 2) = some (bool b97)) ∧ (eqA Tryz.prog 33 (agg (Array.mk (List.reverse [bool b94, int i64 x93, string s92]))) (agg (Array.mk (List.reverse [bool b97, int i64 x96, string s95]))) (w91) (fun b98 => (fun w99 =>
(ifK (!b98)
(R (bool false) (w99))
(ifK (decide (x64 > 0))
(∃ a100 : Addr, ((p53 = some a100) ∧ (((0 : Int) ≤ wrap i64 (x64 - 1)) ∧ (((wrap i64 (x64 - 1) : Int) < (↑n54 : Int)) ∧ (∃ s101 : ByteArray, ((cell? w99 (add (add a100 (Int.toNat (wrap i64 (x64 - 1)) * 3)) 0) = some (string s101)) ∧ (∃ s102 : ByteArray, ((cell? w99 (add (nw w65) 0) = some (string s102)) ∧ (ifK (!Op.bytesLess (ByteArray.toList s101) (ByteArray.toList s102))
(R (bool false) (w99))
(∃ s103 : ByteArray, ((cell? w99 (add (nw w65) 0) = some (string s103)) ∧ (∃ x104 : Int, ((cell? w99 (add (nw w65) 1) = some (int i64 x104)) ∧ (∃ b105 : Bool, ((cell? w99 (add (nw w65) 2) = some (bool b105)) ∧ (Ca Tryz.prog (18) (Array.mk [agg (Array.mk (List.reverse [bool b105, int i64 x104, string s103]))]) (w99) (fun v106 => (fun w107 =>
(∃ b108 : Bool, ((v106 = bool b108) ∧ (ifK (!b108)
(R (bool false) (w107))
((z61 (wrap i64 (x64 + 1)) (w107)) ∧ (z62 (wrap i64 (x64 + 1)) w107 < z62 x64 w65)))))))))))))))))))))))
(∃ s109 : ByteArray, ((cell? w99 (add (nw w65) 0) = some (string s109)) ∧ (∃ x110 : Int, ((cell? w99 (add (nw w65) 1) = some (int i64 x110)) ∧ (∃ b111 : Bool, ((cell? w99 (add (nw w65) 2) = some (bool b111)) ∧ (Ca Tryz.prog (18) (Array.mk [agg (Array.mk (List.reverse [bool b111, int i64 x110, string s109]))]) (w99) (fun v112 => (fun w113 =>
(∃ b114 : Bool, ((v112 = bool b114) ∧ (ifK (!b114)
(R (bool false) (w113))
((z61 (wrap i64 (x64 + 1)) (w113)) ∧ (z62 (wrap i64 (x64 + 1)) w113 < z62 x64 w65))))))))))))))))))))))))))))))))))))))))))))))))))))))))))))))))))))))
(∃ z115 : Int → World → Prop, (∃ z116 : Int → World → Nat, ((z115 (0) (w65)) ∧ (∀ (_ : Nat → Value), (∀ (x118 : Int), (∀ (w119 : World), ((z115 (x118) (w119)) → (ifK (decide (x118 < (↑n59 : Int)))
(∃ a120 : Addr, ((p58 = some a120) ∧ (((0 : Int) ≤ x118) ∧ (((x118 : Int) < (↑n59 : Int)) ∧ (∃ s121 : ByteArray, ((cell? w119 (add (add a120 (Int.toNat x118 * 3)) 0) = some (string s121)) ∧ (∃ s122 : ByteArray, ((cell? w119 (add (add a120 (Int.toNat x118 * 3)) 1) = some (string s122)) ∧ (∃ s123 : ByteArray, ((cell? w119 (add (add a120 (Int.toNat x118 * 3)) 2) = some (string s123)) ∧ (atW (alloc w119 (cells (Array.mk [string (ByteArray.mk #[]), string (ByteArray.mk #[]), string (ByteArray.mk #[])]) 35 (0, 0))) (fun w124 =>
(st1 (add (nw w119) 0) (string s121) w124 (fun w126 =>
(st1 (add (nw w119) 1) (string s122) w126 (fun w128 =>
(st1 (add (nw w119) 2) (string s123) w128 (fun w130 =>
(∃ s131 : ByteArray, ((cell? w130 (add (nw w119) 0) = some (string s131)) ∧ (Ca Tryz.prog (17) (Array.mk [pointer p2, string s131]) (w130) (fun v132 => (fun w133 =>
(∃ s134 : ByteArray, (∃ x135 : Int, (∃ b136 : Bool, (∃ b137 : Bool, ((v132 = tuple (Array.mk (List.reverse [bool b137, agg (Array.mk (List.reverse [bool b136, int i64 x135, string s134]))]))) ∧ (atW (alloc w133 (cells (Array.mk [string (ByteArray.mk #[]), int i64 0, bool false]) 33 (0, 0))) (fun w138 =>
(st1 (add (nw w133) 0) (string s134) w138 (fun w140 =>
(st1 (add (nw w133) 1) (int i64 x135) w140 (fun w142 =>
(st1 (add (nw w133) 2) (bool b136) w142 (fun w144 =>
(atW (drew w144) (fun w145 =>
(ifK (!b137)
(R (bool false) (w145))
(ifK (decide (x118 > 0))
(∃ a146 : Addr, ((p58 = some a146) ∧ (((0 : Int) ≤ wrap i64 (x118 - 1)) ∧ (((wrap i64 (x118 - 1) : Int) < (↑n59 : Int)) ∧ (∃ s147 : ByteArray, ((cell? w145 (add (add a146 (Int.toNat (wrap i64 (x118 - 1)) * 3)) 0) = some (string s147)) ∧ (∃ s148 : ByteArray, ((cell? w145 (add (add a146 (Int.toNat (wrap i64 (x118 - 1)) * 3)) 1) = some (string s148)) ∧ (∃ s149 : ByteArray, ((cell? w145 (add (add a146 (Int.toNat (wrap i64 (x118 - 1)) * 3)) 2) = some (string s149)) ∧ (∃ s150 : ByteArray, ((cell? w145 (add (nw w119) 0) = some (string s150)) ∧ (∃ s151 : ByteArray, ((cell? w145 (add (nw w119) 1) = some (string s151)) ∧ (∃ s152 : ByteArray, ((cell? w145 (add (nw w119) 2) = some (string s152)) ∧ (eqA Tryz.prog 35 (agg (Array.mk (List.reverse [string s149, string s148, string s147]))) (agg (Array.mk (List.reverse [string s152, string s151, string s150]))) (w145) (fun b153 => (fun w154 =>
(ifK (b153)
(R (bool false) (w154))
((z115 (wrap i64 (x118 + 1)) (w154)) ∧ (z116 (wrap i64 (x118 + 1)) w154 < z116 x118 w119))))))))))))))))))))))
((z115 (wrap i64 (x118 + 1)) (w145)) ∧ (z116 (wrap i64 (x118 + 1)) w145 < z116 x118 w119))))))))))))))))))))))))))))))))))))))))))
((z13 (wrap i64 (x16 + 1)) (w119)) ∧ (z14 (wrap i64 (x16 + 1)) w119 < z14 x16 w17)))))))))))))))))))))))))))))))))))))))))))))))))))))))))))))))))))))))))))))))))))))))
(Ca Tryz.prog (12) (Array.mk []) (w17) (fun v155 => (fun w156 =>
(∃ b157 : Bool, ((v155 = bool b157) ∧ (R (bool b157) (w156)))))))))))))))))))))))))))))
theorem ca4 (actsa : Option Addr) (actsl : Nat) (actsc : Nat) (w : World) (R : Value → World → Prop) (h : W4 actsa actsl actsc w R) : Ca Tryz.prog 4 ⟨[(.slice actsa actsl actsc)]⟩ w R :=
  caB (fn := Tryz.f4) (pl := pl4) (ls := ls4) Tryz.func4 (by kernel_rfl) (by kernel_rfl) h
end Go.Proofs.YtehhhkcemmfjpaaGreatDoor

/- The reference's Bind. -/
namespace Go.Proofs.YtehhhkcemmfjpaaGreatDoor
open Go Go.Proofs.YtehhhkcemmfjpaaGreatDoor Go.Proofs.YtehhhkcemmfjpaaGreatDoor.St

def AddedB (b : Bnd) (X : List Exc) (C C' : List Bnd) : Prop := if nameB b.q = true ∧ hx b.x X = true ∧ mayB (fx b.x X) b.p = true ∧ b ∉ C ∧ C.length < 32 then Inb b C C' else C' = C
theorem bindRef_ok {w : World} {r : Nat} {X : List Exc} {B : List Bnd} (hR : RTb w r X B) (x : Bnd) (hlx : X.length < 1000000000) (hl : B.length < 1000000000) (hkind : hx x.x X = true → (fx x.x X).k = 1 ∨ (fx x.x X).k = 2 ∨ (fx x.x X).k = 3) (R : Value → World → Prop)
    (h : ∀ w' C', AddedB x X B C' → RTb w' r X C' → Mod (on r) w w' → R (.int .i64 (bindR x X B)) w') :
    Ca Tryz.prog 39 #[.pointer (some ⟨r, 0, none⟩), .agg ⟨x.cs⟩] w R := by
  refine (ca39 (some ⟨r, 0, none⟩) x.x x.q x.p w R ?_ : Ca _ _ _ _ _)
  intro w0 e0
  have m0 : Mod no w w0 := by subst e0; exact Mod.alloc _ _
  have b0 : Bc w0 w.heap.size x := by subst e0; exact new_at _ _
  clear e0
  have same : ∀ w', Mod no w w' → ¬ (nameB x.q = true ∧ hx x.x X = true ∧ mayB (fx x.x X) x.p = true ∧ x ∉ B ∧ B.length < 32) → R (.int .i64 (bindR x X B)) w' := fun w' m hc => h w' B (by rw [AddedB, if_neg hc]) (hR.no m) m.of_no
  refine ⟨_, by rw [cl1 b0]; rfl, nameR_ok _ _ _ ⟨_, rfl, ifK_of (fun hn => ?_) (fun hn => ?_)⟩⟩
  · have hn : nameB x.q = false := by simpa using hn
    have h' := same w0 m0 (fun hc => by rw [hn] at hc; cases hc.1)
    rw [bindR, if_pos hn] at h'
    exact h'
  have hn : nameB x.q = true := by simpa using hn
  have hR0 := hR.no m0
  refine ⟨fun p b w' => ∃ k, p = some ⟨k, 0, none⟩ ∧ Xc w' k (fx x.x X) ∧ b = hx x.x X ∧ Mod no w w' ∧ Bc w' w.heap.size x, ?_, ?_⟩
  · refine ⟨_, by rw [cl1 b0]; rfl, findR_ok hR0 x.x hlx _ fun w10 m10 => ⟨_, _, _, _, rfl, ?_⟩⟩
    intro w15 e0
    have m15 : Mod no w10 w15 := by subst e0; exact Mod.alloc _ _
    have b15 : Xc w15 w10.heap.size exc0 := by subst e0; exact new_at _ _
    clear e0
    refine put3 b15 fun w21 m21 b21 => ⟨_, rfl, b21, rfl, ?_⟩
    have m1021 : Mod no w10 w21 := m15.new m21 fun k hk => by cases hk; exact Nat.le_refl _
    exact ⟨(m0.trans m10).trans m1021, m1021.at' (m10.at' b0)⟩
  rintro _ _ _ w23 ⟨k, rfl, bk, rfl, m23, b23⟩
  refine ⟨fun w' => nameB x.q = true ∧ hx x.x X = true ∧ mayB (fx x.x X) x.p = true ∧ x ∉ B ∧ B.length < 32 ∧ Mod no w w' ∧ Bc w' w.heap.size x, ?_, ?_⟩
  · refine ifK_of (fun hh => ?_) (fun hh => ?_)
    · have hh : hx x.x X = false := by simpa using hh
      have h' := same w23 m23 (fun hc => by rw [hh] at hc; cases hc.2.1)
      rw [bindR, if_neg (by rw [hn]; decide), if_pos hh] at h'
      exact h'
    have hh : hx x.x X = true := by simpa using hh
    refine ⟨_, by rw [cl1 bk]; rfl, _, by rw [cl1 b23]; rfl, mayR_ok (fx x.x X) (hkind hh) x.p w23 _ fun w29 m29 => ⟨_, rfl, ifK_of (fun hm => ?_) (fun hm => ?_)⟩⟩
    · have hm : mayB (fx x.x X) x.p = false := by simpa using hm
      have h' := same w29 (m23.trans m29) (fun hc => by rw [hm] at hc; cases hc.2.2.1)
      rw [bindR, if_neg (by rw [hn]; decide), if_neg (by rw [hh]; decide), if_pos hm] at h'
      exact h'
    have hm : mayB (fx x.x X) x.p = true := by simpa using hm
    have b29 := m29.at' b23
    have m029 := m23.trans m29
    refine ⟨_, by rw [cl1 b29]; rfl, _, by rw [cl1 b29]; rfl, _, by rw [cl1 b29]; rfl, (hasR_ok (hR.no m029) x hl _ fun w35 m35 => ⟨_, rfl, ?_⟩ : Ca _ _ _ _ _)⟩
    have m035 := m029.trans m35
    refine ifK_dec (fun hb => ?_) (fun hb => ?_)
    · have h' := same w35 m035 (fun hc => hc.2.2.2.1 hb)
      rw [bindR, if_neg (by rw [hn]; decide), if_neg (by rw [hh]; decide), if_neg (by rw [hm]; decide), if_pos hb] at h'
      exact h'
    obtain ⟨a, l, c, a', l', c', h1, h2, h3, h4, h5⟩ := (hR.no m035).ex
    have hxl := h3.len.1
    refine ⟨a', l', c', by rw [cl1 h1]; rfl, ifK_dec (fun hge => ?_) (fun hlt => ⟨hn, hh, hm, hb, by omega, m035, m35.at' b29⟩)⟩
    have h' := same w35 m035 (fun hc => by omega)
    rw [bindR, if_neg (by rw [hn]; decide), if_neg (by rw [hh]; decide), if_neg (by rw [hm]; decide), if_neg hb, if_pos (by omega)] at h'
    exact h'
  rintro _ w25 ⟨_, hh, hm, hb, hlt, m25, b25⟩
  have hR25 := hR.no m25
  obtain ⟨a', l', c', a, l, c, h1, h3, h2, h5, h4⟩ := hR25.ex
  have hxl := h2.len.1
  have hrlt : r < w.heap.size := by obtain ⟨_, _, _, _, _, _, hh, _⟩ := hR.ex; exact lt_of_heap hh
  have g0 := m25.size
  have hok : laidOk Tryz.prog 27 35 bndL.s = true := by kernel_rfl
  refine ⟨fun p q s w' => Rx bndL 35 w' p q s (B ++ [x]) ∧ Mod no w25 w' ∧ (∀ k, rowB p k → w25.heap.size ≤ k), ?_, ?_⟩
  · intro w40 e0
    have m40 : Mod no w25 w40 := by subst e0; exact Mod.drew _
    clear e0
    have b40 := m40.at' b25
    have h1 := m40.at' h1
    have h40 := h1
    have g1 := m40.size
    have h2 := h2.no m40
    refine ⟨a, l, c, by rw [cl1 h1]; rfl, _, by rw [cl1 b40]; rfl, _, by rw [cl1 b40]; rfl, _, by rw [cl1 b40]; rfl, ⟨?_, ?_⟩⟩
    · intro w48 e0
      have m48 : Mod no w40 w48 := by subst e0; exact Mod.alloc _ _
      have e48 : w48.heap[w40.heap.size]? = some (.cells #[] 35 (0, 0)) := by subst e0; exact new_at _ _
      clear e0
      have h1 := m48.at' h1
      have b48 := m48.at' b40
      have g2 := m48.size
      have h2 := h2.no m48
      have l48 := lt_of_heap e48
      refine ⟨by rw [cl2 h1]; rfl, by rw [cl1 b48]; rfl, by rw [cl1 b48]; rfl, by rw [cl1 b48]; rfl, ⟨?_, ?_⟩⟩
      · obtain ⟨p, c2, w50, hr, x50, m50, n50⟩ := copyRow (L := bndL) (P := Tryz.prog) (ty := 27) hok e48 h2 (by omega)
        have n4050 : Mod no w40 w50 := m48.new m50 fun k hk => by cases hk; exact Nat.le_refl _
        have b50 := n4050.at' b40
        have g3 := m50.size
        refine ⟨_, w50, hr, _, _, _, rfl, by rw [cl1 b50]; rfl, by rw [cl1 b50]; rfl, by rw [cl1 b50]; rfl, ?_⟩
        intro w54 e0
        have m54 : Mod no w50 w54 := by subst e0; exact Mod.alloc _ _
        have b54 : Bc w54 w50.heap.size x := by subst e0; exact new_at _ _
        clear e0
        have h1 := (n4050.trans m54).at' h40
        obtain ⟨p2, c3, w56, hr, x56, m56, n56⟩ := pushB (Rx.no x50 m54) b54 (by omega)
        have g4 := m54.size
        refine ⟨by rw [cl2 h1]; rfl, _, w56, hr, _, _, _, rfl, x56, ?_, ?_⟩
        · exact ((m40.trans n4050).trans m54).new m56 fun k hk => by have := n50 k hk; omega
        · intro k hk
          rcases n56 k hk with hk | hk
          · have := n50 k hk; omega
          · omega
      · intro w60 e0
        have m60 : Mod no w48 w60 := by subst e0; exact Mod.alloc _ _
        have b60 : Bc w60 w48.heap.size x := by subst e0; exact new_at _ _
        clear e0
        have h1 := m60.at' h1
        have g3 := m60.size
        obtain ⟨p, c2, w62, hr, x62, m62, n62⟩ := copyRow (L := bndL) (P := Tryz.prog) (ty := 27) hok (m60.at' e48) (h2.no m60) (by omega)
        have n4062 : Mod no w40 w62 := (m48.trans m60).new m62 fun k hk => by cases hk; exact Nat.le_refl _
        have b62 := n4062.at' b40
        have g4 := m62.size
        have x' := m62.at b60 (fun hS => by have : w48.heap.size = w40.heap.size := hS; omega)
        obtain ⟨p2, c3, w67, hr2, x67, m67, n67⟩ := pushB x62 x' (by omega)
        refine ⟨by rw [cl2 h1]; rfl, _, w62, hr, _, _, _, rfl, by rw [cl1 b62]; rfl, by rw [cl1 b62]; rfl, by rw [cl1 b62]; rfl, _, w67, hr2, _, _, _, rfl, x67, ?_, ?_⟩
        · exact (m40.trans n4062).new m67 fun k hk => by have := n62 k hk; omega
        · intro k hk
          rcases n67 k hk with hk | hk
          · have := n62 k hk; omega
          · omega
    · intro w71 e0
      have m71 : Mod no w40 w71 := by subst e0; exact Mod.alloc _ _
      have b71 : Bc w71 w40.heap.size x := by subst e0; exact new_at _ _
      clear e0
      have h1 := m71.at' h1
      refine ⟨by rw [cl2 h1]; rfl, ?_⟩
      intro w72 e0
      have m72 : Mod no w71 w72 := by subst e0; exact Mod.alloc _ _
      have e72 : w72.heap[w71.heap.size]? = some (.cells #[] 35 (0, 0)) := by subst e0; exact new_at _ _
      clear e0
      have h1 := m72.at' h1
      have m4072 := m71.trans m72
      have b72 := m4072.at' b40
      have g2 := m71.size
      have g3 := m72.size
      have l71 := lt_of_heap b71
      obtain ⟨p, c2, w74, hr, x74, m74, n74⟩ := copyRow (L := bndL) (P := Tryz.prog) (ty := 27) hok e72 (h2.no m4072) (by omega)
      have n4074 : Mod no w40 w74 := m4072.new m74 fun k hk => by cases hk; exact g2
      have b74 := n4074.at' b40
      have g4 := m74.size
      have x' := m74.at (m72.at' b71) (fun hS => by have : w40.heap.size = w71.heap.size := hS; omega)
      obtain ⟨p2, c3, w79, hr2, x79, m79, n79⟩ := pushB x74 x' (by omega)
      refine ⟨by rw [cl2 h1]; rfl, by rw [cl1 b72]; rfl, by rw [cl1 b72]; rfl, by rw [cl1 b72]; rfl, _, w74, hr, _, _, _, rfl, by rw [cl1 b74]; rfl, by rw [cl1 b74]; rfl, by rw [cl1 b74]; rfl, _, w79, hr2, _, _, _, rfl, x79, ?_, ?_⟩
      · exact (m40.trans n4074).new m79 fun k hk => by have := n74 k hk; omega
      · intro k hk
        rcases n79 k hk with hk | hk
        · have := n74 k hk; omega
        · omega
  rintro _ p q s w87 ⟨x87, m87, n87⟩
  have hql := x87.len.1
  rw [List.length_append, List.length_singleton, hxl] at hql
  subst hql
  obtain ⟨g, rfl, _⟩ := Row.get x87 (i := 0) (by simp)
  have hgn := n87 g rfl
  have hcl : IntKind.i64.wrap (((l + 1 : Nat) : Int) - 1) = (l : Int) := by rw [wrap64 (by omega) (by omega)]; omega
  rw [hcl]
  clear hcl
  refine ⟨fun y w' => ∃ i : Nat, y = i ∧ i ≤ l ∧ Rx bndL 35 w' (some ⟨g, 0, none⟩) (l + 1) s (B.take i ++ x :: B.drop i) ∧ Mod no w25 w' ∧ ∀ y ∈ B.drop i, x < y, fun y _ => y.toNat,
    ⟨l, rfl, Nat.le_refl _, by rw [List.take_of_length_le (by omega), List.drop_eq_nil_of_le (by omega)]; exact x87, m87, fun y hy => by rw [← hxl, List.drop_length] at hy; cases hy⟩, ?_⟩
  rintro _ _ w92 ⟨i, rfl, hi, x92, m92, hgt⟩
  intro w93 e0
  have m93 : Mod no w92 w93 := by subst e0; exact Mod.drew _
  clear e0
  have x93 := x92.no m93
  have m93' := m92.trans m93
  have done : ∀ w94, Mod no w93 w94 → (∀ j y, j + 1 = i → B[j]? = some y → ¬ x < y) → ∃ v122 : Value, w94.cell? (Addr.add (Addr.add ⟨r, 0, none⟩ 1) 0) = some v122 := fun w94 m94 _ => ⟨_, by rw [cl2 ((m93'.trans m94).at' h1)]; rfl⟩
  have fin : ∀ w94, Mod no w93 w94 → (∀ j y, j + 1 = i → B[j]? = some y → ¬ x < y) → ∀ w', w' = w94.setCell (Addr.add (Addr.add ⟨r, 0, none⟩ 1) 0) (.slice (some ⟨g, 0, none⟩) (l + 1) s) → R (.int .i64 0) w' := by
    intro w94 m94 hmin w' e0
    have m94' := m93'.trans m94
    have x94 := x93.no m94
    have h1' := m94'.at' h1
    have mr : Mod (on r) w94 w' := by subst e0; exact Mod.set2 _ _ _ _ _
    have br : w'.heap[r]? = some (.cells #[.slice a' l' c', .slice (some ⟨g, 0, none⟩) (l + 1) s] 29 (0, 0)) := by subst e0; rw [set2 h1']; rfl
    clear e0
    have h' := h w' (B.take i ++ x :: B.drop i) (by
      rw [AddedB, if_pos ⟨hn, hh, hm, hb, hlt⟩]
      exact ⟨i, by omega, rfl, hgt, hmin⟩)
      ⟨a', l', c', _, _, _, br, (h3.no m94').mod mr (fun k hk hS => by cases hS; exact h5 hk), x94.mod mr (fun k hk hS => by have e1 := rowB_eq hk; have e2 : k = r := hS; omega), h5, fun hk => by have e1 := rowB_eq hk; omega⟩ ((m25.trans m94').no_trans mr)
    rw [bindR, if_neg (by rw [hn]; decide), if_neg (by rw [hh]; decide), if_neg (by rw [hm]; decide), if_neg hb, if_neg (by omega)] at h'
    exact h'
  have fz : ∀ w94, Mod no w93 w94 → w94.frozen? (Addr.add (Addr.add ⟨r, 0, none⟩ 1) 0) = false := fun w94 m94 => fz2 ((m93'.trans m94).at' h1) _ _
  refine ifK_dec (fun hpos => ?_) (fun hz => ?_)
  · obtain ⟨j, rfl⟩ : ∃ j, i = j + 1 := ⟨i - 1, by omega⟩
    have ej : IntKind.i64.wrap (((j + 1 : Nat) : Int) - 1) = (j : Int) := by rw [wrap64 (by omega) (by omega)]; omega
    rw [ej]
    clear ej
    have hjX : j < B.length := by omega
    have hst := ins_step (x := x) (X := B) (i := j) (by omega)
    rw [hst] at x93
    have hP : (B.take j).length = j := by rw [List.length_take]; omega
    have a1 : at0 (B.take j ++ B[j] :: x :: B.drop (j + 1)) j = B[j] := at0_mid _ _ _ hP
    have a2 : at0 (B.take j ++ B[j] :: x :: B.drop (j + 1)) (j + 1) = x := at0_mid1 _ _ _ _ (by omega)
    refine x93.cellB (by omega) (x93.cellB (by omega) ?_)
    rw [a1, a2]
    refine (ahead_ok x B[j] w93 _ fun w94 m94 => ?_ : Ca _ _ _ _ _)
    refine ⟨_, rfl, ?_⟩
    have x94 := x93.no m94
    have m94' := m93'.trans m94
    refine ifK_dec (fun hlt => ?_) (fun hc => ?_)
    · intro w98 e0
      have m98 : Mod no w94 w98 := by subst e0; exact Mod.drew _
      clear e0
      have x98 := x94.no m98
      refine x98.cellB (by omega) (x98.cellB (by omega) ?_)
      rw [a1, a2]
      refine ⟨_, rfl, by omega, by omega, ?_⟩
      rw [Int.toNat_natCast]
      refine putAt x98 rfl (by omega) x rfl fun w113 m113 x113 => ?_
      refine ⟨_, rfl, by omega, by omega, ?_⟩
      rw [Int.toNat_natCast]
      refine putAt x113 rfl (by omega) B[j] rfl fun w120 m120 x120 => ?_
      have hsw : ((B.take j ++ B[j] :: x :: B.drop (j + 1)).set j x).set (j + 1) B[j] = B.take j ++ x :: B.drop j := by
        have := swap_mid (B.take j) B[j] x (B.drop (j + 1))
        rw [hP] at this
        rw [this, ← List.drop_eq_getElem_cons hjX]
      rw [hsw] at x120
      refine ⟨⟨j, rfl, by omega, x120, (m94'.trans m98).new (m113.trans m120) fun k hk => by cases hk; exact hgn, fun y hy => ?_⟩, by simp only; omega⟩
      rw [List.drop_eq_getElem_cons hjX] at hy
      rcases List.mem_cons.1 hy with rfl | hy
      · exact hlt
      · exact hgt y hy
    · have hmin : ∀ j' y, j' + 1 = j + 1 → B[j']? = some y → ¬ x < y := by
        intro j' y he hy
        obtain rfl : j' = j := by omega
        rw [List.getElem?_eq_getElem hjX] at hy
        cases hy
        exact hc
      exact ⟨done _ m94 hmin, fz _ m94, fin _ m94 hmin⟩
  · have hmin : ∀ j y, j + 1 = i → B[j]? = some y → ¬ x < y := fun j y he => by omega
    exact ⟨done _ (Mod.refl _ _) hmin, fz _ (Mod.refl _ _), fin _ (Mod.refl _ _) hmin⟩
end Go.Proofs.YtehhhkcemmfjpaaGreatDoor

/- Both tables say the same: what each step does to them. -/
namespace Go.Proofs.YtehhhkcemmfjpaaGreatDoor
open Go Go.Proofs.YtehhhkcemmfjpaaGreatDoor Go.Proofs.YtehhhkcemmfjpaaGreatDoor.St

theorem findX_iff {n : ByteArray} {D : List Exc} (hD : (D.map (·.n)).Nodup) (e : Exc) : findX n D = some e ↔ e ∈ D ∧ e.n = n := by
  constructor
  · intro h
    have h1 := List.find?_some h
    exact ⟨List.mem_of_find?_eq_some h, (eq_of_beq h1).symm⟩
  · rintro ⟨hm, rfl⟩
    induction D with
    | nil => cases hm
    | cons y D ih =>
      rw [List.map_cons, List.nodup_cons] at hD
      rw [findX, List.find?_cons]
      rcases List.mem_cons.1 hm with rfl | hm
      · rw [beq_self_eq_true]
      · have : (e.n == y.n) = false := beq_false_of_ne fun h => hD.1 (h ▸ List.mem_map_of_mem hm)
        rw [this]
        exact ih hD.2 hm
theorem findX_perm {n : ByteArray} {D X : List Exc} (hD : (D.map (·.n)).Nodup) (hp : X.Perm D) : findX n X = findX n D := by
  apply Option.ext
  intro e
  rw [findX_iff hD, findX_iff ((hp.map (·.n)).nodup_iff.2 hD), hp.mem_iff]
theorem hx_iff {n : ByteArray} {D : List Exc} : hx n D = true ↔ ∃ e ∈ D, e.n = n := by
  rw [hx, findX, List.find?_isSome]
  exact ⟨fun ⟨e, h1, h2⟩ => ⟨e, h1, (eq_of_beq h2).symm⟩, fun ⟨e, h1, h2⟩ => ⟨e, h1, by rw [h2]; exact beq_self_eq_true _⟩⟩

/-- The reference's rows are the table's, sorted. -/
structure Sy (D X : List Exc) (B C : List Bnd) : Prop where
  xp : X.Perm D
  bp : C.Perm B
  xs : X.Pairwise (· < ·)
  bs : C.Pairwise (· < ·)
theorem sy_nil : Sy [] [] [] [] := ⟨.refl _, .refl _, .nil, .nil⟩
theorem exc_tr (a b c : Exc) (h1 : a < b) (h2 : b < c) : a < c := str_tr h1 h2
theorem exc_le (a b : Exc) (h : a < b) : a ≤ b := str_asym h
theorem bnd_le (a b : Bnd) (h : a < b) : a ≤ b := fun h' => bnd_irr a (bnd_tr h h')
theorem nodup_eq {D : List Exc} (hD : (D.map (·.n)).Nodup) {a b : Exc} (ha : a ∈ D) (hb : b ∈ D) (h : a.n = b.n) : a = b := by
  have h1 := (findX_iff hD a).2 ⟨ha, h⟩
  have h2 := (findX_iff hD b).2 ⟨hb, rfl⟩
  rw [h1] at h2
  injection h2
section
variable {D X : List Exc} {B C : List Bnd} (h : Sy D X B C)
include h
theorem Sy.xlen : X.length = D.length := h.xp.length_eq
theorem Sy.blen : C.length = B.length := h.bp.length_eq
theorem Sy.find (hD : (D.map (·.n)).Nodup) (n : ByteArray) : findX n X = findX n D := findX_perm hD h.xp
theorem Sy.exs (hD : (D.map (·.n)).Nodup) {xs : List Exc} (hp : xs.Perm D) (hs : Srt xs 0 xs.length) : xs = X :=
  rising_unique exc_le (fun a b ha hb hab hba => nodup_eq ((h.xp.map (·.n)).nodup_iff.2 hD) ha hb (str_total hba hab)) (hp.trans h.xp.symm) hs h.xs
theorem Sy.bnds {bs : List Bnd} (hp : bs.Perm B) (hs : Srt bs 0 bs.length) : bs = C :=
  rising_unique bnd_le (fun _ _ _ _ hab hba => bnd_total hba hab) (hp.trans h.bp.symm) hs h.bs
theorem Sy.filt (p : Exc → Bool) (q : Bnd → Bool) : Sy (D.filter p) (X.filter p) (B.filter q) (C.filter q) := ⟨h.xp.filter p, h.bp.filter q, h.xs.filter p, h.bs.filter q⟩
theorem Sy.filtB (q : Bnd → Bool) : Sy D X (B.filter q) (C.filter q) := ⟨h.xp, h.bp.filter q, h.xs, h.bs.filter q⟩
theorem Sy.insX {x : Exc} {X' : List Exc} (hn : findX x.n D = none) (hi : Inb x X X') : Sy (D ++ [x]) X' B C := by
  refine ⟨hi.perm.trans (h.xp.append_right _), h.bp, hi.rises exc_tr h.xs fun y hy => ?_, h.bs⟩
  have hy' : y.n ≠ x.n := fun e => findX_none.1 hn (e ▸ List.mem_map_of_mem (h.xp.mem_iff.1 hy))
  by_cases h1 : x.n < y.n
  · exact .inl h1
  · exact .inr (Classical.byContradiction fun h2 => hy' (str_total h2 h1))
theorem Sy.insB {b : Bnd} {C' : List Bnd} (hn : b ∉ B) (hi : Inb b C C') : Sy D X (B ++ [b]) C' := by
  refine ⟨h.xp, hi.perm.trans (h.bp.append_right _), h.xs, hi.rises (fun _ _ _ => bnd_tr) h.bs fun y hy => ?_⟩
  have hy' : y ≠ b := fun e => hn (e ▸ h.bp.mem_iff.1 hy)
  by_cases h1 : b < y
  · exact .inl h1
  · exact .inr (Classical.byContradiction fun h2 => hy' (bnd_total h2 h1))
end

/-- What is so of each table that calls made. -/
structure Ok7 (D : List Exc) (B : List Bnd) : Prop where
  xl : D.length ≤ 8
  bl : B.length ≤ 32
  good : ∀ e ∈ D, goodX e = true
  from_ : ∀ b ∈ B, hx b.x D = true
theorem ok7_nil : Ok7 [] [] := ⟨by simp, by simp, by simp, by simp⟩
section
variable {D : List Exc} {B : List Bnd} (h : Ok7 D B)
include h
theorem Ok7.filtB (q : Bnd → Bool) : Ok7 D (B.filter q) := ⟨h.xl, Nat.le_trans (List.length_filter_le _ _) h.bl, h.good, fun b hb => h.from_ b (List.mem_filter.1 hb).1⟩
theorem Ok7.decl (x : Exc) : Ok7 (declD x D) B := by
  unfold declD
  split
  · rename_i hc
    simp only [Bool.and_eq_true, decide_eq_true_eq] at hc
    refine ⟨by simp; omega, h.bl, fun e he => ?_, fun b hb => ?_⟩
    · rcases List.mem_append.1 he with he | he
      · exact h.good e he
      · rw [List.mem_singleton.1 he]; exact hc.1.1
    · obtain ⟨e, h1, h2⟩ := hx_iff.1 (h.from_ b hb)
      exact hx_iff.2 ⟨e, List.mem_append_left _ h1, h2⟩
  · exact h
theorem Ok7.drop (n : ByteArray) : Ok7 (D.filter fun e => !(e.n == n)) (B.filter fun b => !decide (b.x = n)) := by
  refine ⟨Nat.le_trans (List.length_filter_le _ _) h.xl, Nat.le_trans (List.length_filter_le _ _) h.bl, fun e he => h.good e (List.mem_filter.1 he).1, fun b hb => ?_⟩
  obtain ⟨hb, hn⟩ := List.mem_filter.1 hb
  obtain ⟨e, h1, h2⟩ := hx_iff.1 (h.from_ b hb)
  refine hx_iff.2 ⟨e, List.mem_filter.2 ⟨h1, ?_⟩, h2⟩
  rw [h2]
  simpa using hn
theorem Ok7.bind (b : Bnd) : Ok7 D (bindB b D B) := by
  unfold bindB
  split
  · rename_i hc
    refine ⟨h.xl, by simp; omega, h.good, fun y hy => ?_⟩
    rcases List.mem_append.1 hy with hy | hy
    · exact h.from_ y hy
    · rw [List.mem_singleton.1 hy]; exact hc.2.1
  · exact h
theorem Ok7.kind {n : ByteArray} (hn : hx n D = true) : (fx n D).k = 1 ∨ (fx n D).k = 2 ∨ (fx n D).k = 3 := by
  obtain ⟨e, he⟩ := Option.isSome_iff_exists.1 hn
  have hm := List.mem_of_find?_eq_some he
  have hg := h.good e hm
  rw [fx, he]
  simp only [Option.getD_some]
  rw [goodX, Bool.and_eq_true] at hg
  simpa [or_assoc] using hg.2
end
end Go.Proofs.YtehhhkcemmfjpaaGreatDoor

/- The laws of chapter 07: an act on both tables; a list of acts that is light; lives. -/
namespace Go.Proofs.YtehhhkcemmfjpaaGreatDoor
open Go Go.ChangeShapes Go.WideShapes Go.Deep Go.Proofs.YtehhhkcemmfjpaaGreatDoor Go.Proofs.YtehhhkcemmfjpaaGreatDoor.St

theorem cl3 {w : World} {k : Nat} {cs : Array Value} {e : TypeId} {fz : Nat × Nat} (h : w.heap[k]? = some (.cells cs e fz)) (i j l : Nat) : w.cell? (Addr.add (Addr.add (Addr.add ⟨k, 0, none⟩ i) j) l) = cs[i + j + l]? := by
  rw [add_lit, add_lit, add_lit, cl h, Nat.zero_add]
/-! ### Both tables at once -/
structure TB7 (w : World) (t m1 m2 r : Nat) (D X : List Exc) (B C : List Bnd) : Prop where
  tb : Tbl w t m1 m2 D B
  rt : RTb w r X C
  sy : Sy D X B C
  ok : Ok7 D B
theorem TB7.no {w w' : World} {t m1 m2 r : Nat} {D X : List Exc} {B C : List Bnd} (h : TB7 w t m1 m2 r D X B C) (hm : Mod no w w') : TB7 w' t m1 m2 r D X B C := ⟨h.tb.no hm, h.rt.no hm, h.sy, h.ok⟩
/-- A reference's table stays as it is where only maps change. -/
theorem RTb.modM {S : Nat → Prop} {w w' : World} {r : Nat} {X : List Exc} {C : List Bnd} (h : RTb w r X C) (hm : Mod S w w') (hS : ∀ k, S k → ∃ es c, w.heap[k]? = some (.map es c)) : RTb w' r X C := by
  obtain ⟨a, l, c, a', l', c', h1, h2, h3, h4, h5⟩ := h.ex
  have hrow : ∀ {α : Type} {L : Lay α} {e : TypeId} {a : Option Addr} {l c : Nat} {xs : List α}, Row L e w a l c xs → ∀ k, rowB a k → ¬ S k := by
    intro α L e a l c xs hr k hk hs
    rcases hr.block with ⟨rfl, _⟩ | ⟨g, cur, rfl, hg, _⟩
    · cases hk
    · have e1 := rowB_eq hk
      obtain ⟨es, cc, he⟩ := hS k hs
      rw [e1, he] at hg
      cases hg
  exact ⟨a, l, c, a', l', c', hm.at h1 (fun hs => by obtain ⟨es, cc, he⟩ := hS r hs; rw [he] at h1; cases h1), Row.mod h2 hm (hrow h2), Row.mod h3 hm (hrow h3), h4, h5⟩
theorem Tbl.maps {w : World} {t m1 m2 : Nat} {D : List Exc} {B : List Bnd} (h : Tbl w t m1 m2 D B) : ∀ k, of2 m1 m2 k → ∃ es c, w.heap[k]? = some (.map es c) := by
  rintro k (rfl | rfl)
  · obtain ⟨es, c, he, _⟩ := h.x; exact ⟨es, c, he⟩
  · obtain ⟨es, c, he, _⟩ := h.b; exact ⟨es, c, he⟩
/-- A table stays as it is where only a reference's changes. -/
theorem Tbl.modR {w w' : World} {t m1 m2 r : Nat} {D X : List Exc} {B C : List Bnd} (h : Tbl w t m1 m2 D B) (hr : RTb w r X C) (hm : Mod (on r) w w') : Tbl w' t m1 m2 D B := by
  obtain ⟨a, l, c, a', l', c', h1, _⟩ := hr.ex
  refine h.mod hm ?_ ?_ ?_
  · intro hS
    have hS : t = r := hS
    have := h.cell
    rw [hS, h1] at this
    cases this
  · intro hS
    have hS : m1 = r := hS
    obtain ⟨es, c, he, _⟩ := h.x
    rw [hS, h1] at he
    cases he
  · intro hS
    have hS : m2 = r := hS
    obtain ⟨es, c, he, _⟩ := h.b
    rw [hS, h1] at he
    cases he
abbrev of3 (m1 m2 r : Nat) : Nat → Prop := fun k => k = m1 ∨ k = m2 ∨ k = r

theorem mayA_perm {D X : List Exc} {B C : List Bnd} (hD : (D.map (·.n)).Nodup) (h : Sy D X B C) (n : ByteArray) : fx n X = fx n D ∧ hx n X = hx n D := by
  rw [fx, fx, hx, hx, h.find hD]; exact ⟨rfl, rfl⟩
theorem declR_perm {D X : List Exc} {B C : List Bnd} (hD : (D.map (·.n)).Nodup) (h : Sy D X B C) (x : Exc) : declR x X = declR x D := by
  rw [declR, declR, h.find hD, h.xlen]
theorem bindR_perm {D X : List Exc} {B C : List Bnd} (hD : (D.map (·.n)).Nodup) (h : Sy D X B C) (b : Bnd) : bindR b X C = bindR b D B := by
  have hb : (b ∈ C) = (b ∈ B) := propext (h.bp.mem_iff)
  obtain ⟨h1, h2⟩ := mayA_perm hD h b.x
  rw [bindR, bindR, h1, h2, h.blen]
  simp only [hb]
theorem decl_sy {D X X' : List Exc} {B C : List Bnd} (hD : (D.map (·.n)).Nodup) (h : Sy D X B C) (x : Exc) (hx : AddedX x X X') : Sy (declD x D) X' B C := by
  rw [AddedX, h.find hD, h.xlen] at hx
  rw [declD]
  split
  · rename_i hc
    rw [if_pos hc] at hx
    simp only [Bool.and_eq_true] at hc
    exact h.insX (by simpa using hc.1.2) hx
  · rename_i hc
    rw [if_neg hc] at hx
    rw [hx]; exact h
theorem bind_sy {D X : List Exc} {B C C' : List Bnd} (hD : (D.map (·.n)).Nodup) (h : Sy D X B C) (b : Bnd) (hb : AddedB b X C C') : Sy D X (bindB b D B) C' := by
  have he : (b ∈ C) = (b ∈ B) := propext h.bp.mem_iff
  obtain ⟨h1, h2⟩ := mayA_perm hD h b.x
  rw [AddedB, h1, h2, h.blen] at hb
  simp only [he] at hb
  rw [bindB]
  split
  · rename_i hc
    rw [if_pos hc] at hb
    exact h.insB hc.2.2.2.1 hb
  · rename_i hc
    rw [if_neg hc] at hb
    rw [hb]; exact h

section
variable {w : World} {t m1 m2 r : Nat} {D X : List Exc} {B C : List Bnd} (h : TB7 w t m1 m2 r D X B C)
include h
theorem TB7.bl : B.length < 1099511627776 := by have := h.ok.bl; omega
theorem TB7.cl : C.length < 1000000000 := by have := h.ok.bl; have := h.sy.blen; omega
theorem TB7.xl : X.length < 1000000000 := by have := h.ok.xl; have := h.sy.xlen; omega
theorem act_ok (x : Ac) (hp : x.b.p.size < 1000000000) (R : Value → World → Prop) (hR : ∀ w' D' X' B' C', TB7 w' t m1 m2 r D' X' B' C' → Mod (of3 m1 m2 r) w w' → R (.bool true) w') :
    Ca Tryz.prog 13 #[.pointer (some ⟨t, 0, none⟩), .pointer (some ⟨r, 0, none⟩), .agg ⟨acL.cs x⟩] w R := by
  refine (ca13 (some ⟨t, 0, none⟩) (some ⟨r, 0, none⟩) x.k x.e.n x.e.k x.e.f x.b.x x.b.q x.b.p w R ?_ : Ca _ _ _ _ _)
  have hD := h.tb.dn
  intro w0 e0
  have m0 : Mod no w w0 := by subst e0; exact Mod.alloc _ _
  have b0 : w0.heap[w.heap.size]? = some (.cells #[.int .i64 x.k, .string x.e.n, .int .i64 x.e.k, .bool x.e.f, .string x.b.x, .string x.b.q, .string x.b.p] 37 (0, 0)) := by subst e0; exact new_at _ _
  clear e0
  have t0 := h.no m0
  have hlt : w.heap.size < w0.heap.size := lt_of_heap b0
  have hold : ∀ k, of3 m1 m2 r k → k < w.heap.size := by
    obtain ⟨_, _, q1, _⟩ := h.tb.x
    obtain ⟨_, _, q2, _⟩ := h.tb.b
    obtain ⟨_, _, _, _, _, _, q3, _⟩ := h.rt.ex
    have := lt_of_heap q1
    have := lt_of_heap q2
    have := lt_of_heap q3
    rintro k (rfl | rfl | rfl) <;> assumption
  have keep : ∀ {S : Nat → Prop} {w1 w2 : World}, Mod S w1 w2 → (∀ k, S k → of3 m1 m2 r k) → w1.heap[w.heap.size]? = some (.cells #[.int .i64 x.k, .string x.e.n, .int .i64 x.e.k, .bool x.e.f, .string x.b.x, .string x.b.q, .string x.b.p] 37 (0, 0)) → w2.heap[w.heap.size]? = some (.cells #[.int .i64 x.k, .string x.e.n, .int .i64 x.e.k, .bool x.e.f, .string x.b.x, .string x.b.q, .string x.b.p] 37 (0, 0)) := by
    intro S w1 w2 hm hS hb
    exact hm.at hb fun hs => by have := hold _ (hS _ hs); omega
  have i1 : ∀ k, on m1 k → of3 m1 m2 r k := fun k hk => .inl hk
  have i2 : ∀ k, on m2 k → of3 m1 m2 r k := fun k hk => .inr (.inl hk)
  have i12 : ∀ k, of2 m1 m2 k → of3 m1 m2 r k := fun k hk => hk.imp id .inl
  have i3 : ∀ k, on r k → of3 m1 m2 r k := fun k hk => .inr (.inr hk)
  refine ⟨_, by rw [cl1 b0]; rfl, ifK_eq (fun _ => ?_) (fun _ => ifK_eq (fun _ => ?_) (fun _ => ifK_eq (fun _ => ?_) (fun _ => ifK_eq (fun _ => ?_) (fun _ => ifK_eq (fun _ => ?_) (fun _ => ifK_eq (fun _ => ?_) (fun _ => ?_))))))⟩
  · -- Declare
    intro w2 e0
    have m2' : Mod no w0 w2 := by subst e0; exact Mod.drew _
    clear e0
    have t2 := t0.no m2'
    have b2 := m2'.at' b0
    refine ⟨_, by rw [cl2 b2]; rfl, _, by rw [cl2 b2]; rfl, _, by rw [cl2 b2]; rfl, _, by rw [cl2 b2]; rfl, _, by rw [cl2 b2]; rfl, _, by rw [cl2 b2]; rfl, ?_⟩
    refine (declare_ok t2.tb x.e _ fun w10 hT n10 => ?_ : Ca _ _ _ _ _)
    have b10 := keep n10 i1 b2
    have r10 := t2.rt.modM n10 fun k hk => t2.tb.maps k (.inl hk)
    refine ⟨_, rfl, by rw [cl2 b10]; rfl, by rw [cl2 b10]; rfl, by rw [cl2 b10]; rfl, ?_⟩
    refine (declareR_ok r10 x.e t2.xl _ fun w13 X' hX r13 n13 => ?_ : Ca _ _ _ _ _)
    have b13 := keep n13 i3 b10
    have T13 := hT.modR r10 n13
    refine ⟨_, rfl, ?_⟩
    rw [declR_perm hD t2.sy]
    refine ifK_eq (fun _ => ?_) (fun hne => absurd rfl hne)
    refine ⟨_, by rw [cl2 b13]; rfl, _, by rw [cl2 b13]; rfl, _, by rw [cl2 b13]; rfl, _, by rw [cl2 b13]; rfl, _, by rw [cl2 b13]; rfl, _, by rw [cl2 b13]; rfl, ?_⟩
    refine (good_ok x.e w13 _ fun w22 n22 => ?_ : Ca _ _ _ _ _)
    have b22 := n22.at' b13
    refine ⟨_, rfl, by rw [cl2 b22]; rfl, by rw [cl2 b22]; rfl, by rw [cl2 b22]; rfl, ?_⟩
    refine (goodR_ok x.e w22 _ fun w25 n25 => ?_ : Ca _ _ _ _ _)
    refine ⟨_, rfl, ?_⟩
    rw [beq_self_eq_true]
    have n1325 := n22.trans n25
    exact hR w25 (declD x.e D) X' B C ⟨T13.no n1325, r13.no n1325, decl_sy hD t2.sy x.e hX, t2.ok.decl x.e⟩ ((((m0.trans m2').no_trans (n10.mono fun k _ hk => i1 k hk)).trans (n13.mono fun k _ hk => i3 k hk)).trans_no n1325)
  · -- Drop
    intro w2 e0
    have m2' : Mod no w0 w2 := by subst e0; exact Mod.drew _
    clear e0
    have t2 := t0.no m2'
    have b2 := m2'.at' b0
    refine ⟨_, by rw [cl2 b2]; rfl, _, by rw [cl2 b2]; rfl, ?_⟩
    refine drop_ok t2.tb x.e.n t2.bl _ fun w10 hT n10 => ?_
    have b10 := keep n10 i12 b2
    have r10 := t2.rt.modM n10 t2.tb.maps
    refine ⟨_, rfl, by rw [cl3 b10]; rfl, ?_⟩
    refine dropR_ok r10 x.e.n t2.cl t2.xl _ fun w13 r13 n13 => ?_
    have T13 := hT.modR r10 n13
    have hM := ((m0.trans m2').no_trans (n10.mono fun k _ hk => i12 k hk)).trans (n13.mono fun k _ hk => i3 k hk)
    refine ⟨_, rfl, ?_⟩
    have hhx := (mayA_perm hD t2.sy x.e.n).2
    rw [hhx] at r13 ⊢
    rw [beq_self_eq_true]
    cases hh : hx x.e.n D with
    | false =>
      rw [hh] at r13 T13
      exact hR w13 D X B C ⟨T13, r13, t2.sy, t2.ok⟩ hM
    | true =>
      rw [hh] at r13 T13
      exact hR w13 _ _ _ _ ⟨T13, r13, t2.sy.filt _ _, t2.ok.drop x.e.n⟩ hM
  · -- Bind
    intro w2 e0
    have m2' : Mod no w0 w2 := by subst e0; exact Mod.drew _
    clear e0
    have t2 := t0.no m2'
    have b2 := m2'.at' b0
    refine ⟨_, by rw [cl2 b2]; rfl, _, by rw [cl2 b2]; rfl, _, by rw [cl2 b2]; rfl, _, by rw [cl2 b2]; rfl, _, by rw [cl2 b2]; rfl, _, by rw [cl2 b2]; rfl, ?_⟩
    refine (bind_ok t2.tb x.b hp _ fun w10 hT n10 => ?_ : Ca _ _ _ _ _)
    have b10 := keep n10 i2 b2
    have r10 := t2.rt.modM n10 fun k hk => t2.tb.maps k (.inr hk)
    refine ⟨_, rfl, by rw [cl2 b10]; rfl, by rw [cl2 b10]; rfl, by rw [cl2 b10]; rfl, ?_⟩
    obtain ⟨hfx, hhx⟩ := mayA_perm hD t2.sy x.b.x
    refine (bindRef_ok r10 x.b t2.xl t2.cl (fun hh => by rw [hfx]; exact t2.ok.kind (hhx ▸ hh)) _ fun w13 C' hC r13 n13 => ?_ : Ca _ _ _ _ _)
    have T13 := hT.modR r10 n13
    refine ⟨_, rfl, ?_⟩
    rw [bindR_perm hD t2.sy, beq_self_eq_true]
    exact hR w13 D X (bindB x.b D B) C' ⟨T13, r13, bind_sy hD t2.sy x.b hC, t2.ok.bind x.b⟩ (((m0.trans m2').no_trans (n10.mono fun k _ hk => i2 k hk)).trans (n13.mono fun k _ hk => i3 k hk))
  · -- Unbind
    intro w2 e0
    have m2' : Mod no w0 w2 := by subst e0; exact Mod.drew _
    clear e0
    have t2 := t0.no m2'
    have b2 := m2'.at' b0
    refine ⟨_, by rw [cl2 b2]; rfl, _, by rw [cl2 b2]; rfl, _, by rw [cl2 b2]; rfl, _, by rw [cl2 b2]; rfl, _, by rw [cl2 b2]; rfl, _, by rw [cl2 b2]; rfl, ?_⟩
    refine (unbind_ok t2.tb x.b t2.bl _ fun w10 hT n10 => ?_ : Ca _ _ _ _ _)
    have b10 := keep n10 i2 b2
    have r10 := t2.rt.modM n10 fun k hk => t2.tb.maps k (.inr hk)
    refine ⟨_, rfl, by rw [cl2 b10]; rfl, by rw [cl2 b10]; rfl, by rw [cl2 b10]; rfl, ?_⟩
    refine (unbindR_ok r10 x.b t2.cl _ fun w13 r13 n13 => ?_ : Ca _ _ _ _ _)
    have T13 := hT.modR r10 n13
    have hM := ((m0.trans m2').no_trans (n10.mono fun k _ hk => i2 k hk)).trans (n13.mono fun k _ hk => i3 k hk)
    have hb : (x.b ∈ C) = (x.b ∈ B) := propext t2.sy.bp.mem_iff
    have hbf : x.b ∉ B → B.filter (fun b => !decide (b = x.b)) = B := fun hn => List.filter_eq_self.2 fun y hy => by
      have : y ≠ x.b := fun e => hn (e ▸ hy)
      simp [this]
    have hcf : x.b ∉ B → C.filter (fun b => !decide (b = x.b)) = C := fun hn => List.filter_eq_self.2 fun y hy => by
      have : y ≠ x.b := fun e => hn (e ▸ t2.sy.bp.mem_iff.1 hy)
      simp [this]
    refine ⟨_, rfl, ?_⟩
    simp only [hb] at r13 ⊢
    rw [beq_self_eq_true]
    by_cases hm : x.b ∈ B
    · rw [if_pos hm] at r13
      exact hR w13 D X _ _ ⟨T13, r13, t2.sy.filtB _, t2.ok.filtB _⟩ hM
    · rw [if_neg hm] at r13
      rw [hbf hm] at T13
      exact hR w13 D X B C ⟨T13, r13, t2.sy, t2.ok⟩ hM
  · -- Forget
    intro w2 e0
    have m2' : Mod no w0 w2 := by subst e0; exact Mod.drew _
    clear e0
    have t2 := t0.no m2'
    have b2 := m2'.at' b0
    refine ⟨_, by rw [cl2 b2]; rfl, _, by rw [cl2 b2]; rfl, ?_⟩
    refine forget_ok t2.tb x.b.q t2.bl _ fun w10 hT n10 => ?_
    have b10 := keep n10 i2 b2
    have r10 := t2.rt.modM n10 fun k hk => t2.tb.maps k (.inr hk)
    refine ⟨_, rfl, by rw [cl3 b10]; rfl, ?_⟩
    refine forgetR_ok r10 x.b.q t2.cl _ fun w13 r13 n13 => ?_
    have T13 := hT.modR r10 n13
    refine ⟨_, rfl, ?_⟩
    have s13 := t2.sy.filtB fun b => !decide (b.q = x.b.q)
    rw [t2.sy.blen, s13.blen, beq_self_eq_true]
    exact hR w13 D X _ _ ⟨T13, r13, s13, t2.ok.filtB _⟩ (((m0.trans m2').no_trans (n10.mono fun k _ hk => i2 k hk)).trans (n13.mono fun k _ hk => i3 k hk))
  · -- Find
    refine ⟨_, by rw [cl2 b0]; rfl, find_ok t0.tb x.e.n _ fun w73 n73 => ⟨_, _, _, _, rfl, ?_⟩⟩
    intro w78 e0
    have m78 : Mod no w73 w78 := by subst e0; exact Mod.alloc _ _
    have b78 : Xc w78 w73.heap.size exc0 := by subst e0; exact new_at _ _
    clear e0
    refine put3 b78 fun w84 m84 b84 => ?_
    have m7384 : Mod no w73 w84 := m78.new m84 fun k hk => by cases hk; exact Nat.le_refl _
    have n84 := n73.trans m7384
    have t84 := t0.no n84
    have c84 := n84.at' b0
    refine ⟨_, by rw [cl2 c84]; rfl, findR_ok t84.rt x.e.n t84.xl _ fun w87 n87 => ⟨_, _, _, _, rfl, ?_⟩⟩
    intro w92 e0
    have m92 : Mod no w87 w92 := by subst e0; exact Mod.alloc _ _
    have b92 : Xc w92 w87.heap.size exc0 := by subst e0; exact new_at _ _
    clear e0
    refine put3 b92 fun w98 m98 b98 => ?_
    have m8798 : Mod no w87 w98 := m92.new m98 fun k hk => by cases hk; exact Nat.le_refl _
    have n98 := n87.trans m8798
    have b84 := n98.at' b84
    obtain ⟨hfx, hhx⟩ := mayA_perm hD h.sy x.e.n
    refine ⟨_, by rw [cl1 b84]; rfl, _, by rw [cl1 b84]; rfl, _, by rw [cl1 b84]; rfl, _, by rw [cl1 b98]; rfl, _, by rw [cl1 b98]; rfl, _, by rw [cl1 b98]; rfl, ?_⟩
    refine eqA_agg exc_s.guard (exc_s.eq (fx x.e.n D) (fx x.e.n X)) ?_
    rw [hfx, decide_eq_true rfl, hhx]
    refine (ifK_of (fun _ => ?_) (fun h => by cases h) : ifK true _ _)
    rw [beq_self_eq_true]
    exact hR w98 D X B C ((t0.no n84).no n98) ((m0.trans n84).trans n98).of_no
  · exact hR w0 D X B C t0 m0.of_no
end
theorem TB7.new {w w' : World} {t m1 m2 : Nat} (hT : Tbl w t m1 m2 [] []) (n : Mod St.no w w') (hr : w'.heap[w.heap.size]? = some (.cells #[.slice none 0 0, .slice none 0 0] 29 (0, 0))) : TB7 w' t m1 m2 w.heap.size [] [] [] [] :=
  ⟨hT.no n, ⟨none, 0, 0, none, 0, 0, hr, Row.empty _ _ _, Row.empty _ _ _, fun h => (by cases h), fun h => (by cases h)⟩, sy_nil, ok7_nil⟩
end Go.Proofs.YtehhhkcemmfjpaaGreatDoor
