/- Parts of the proof of BindUndoesCard. -/
import Derived.Test.YtehhhkcemmfjpaaGreatDoorCore9
import Derived.Test.YtehhhkcemmfjpaaGreatDoorProg
import Derived.Test.YtehhhkcemmfjpaaGreatDoorLib
import Derived.Deep.Slices
import Derived.Deep.Fields
import Derived.ChangeSame
import Derived.Below
import Derived.SizedLaws
import Derived.Test.YtehhhkcemmfjpaaGreatDoorX3
/- The reference's Drop. -/
namespace Go.Proofs.YtehhhkcemmfjpaaGreatDoor
open Go Go.Proofs.YtehhhkcemmfjpaaGreatDoor Go.Proofs.YtehhhkcemmfjpaaGreatDoor.St

/-- append(l, x), where x lies in a block of its own. -/
theorem pushX {w : World} {a : Option Addr} {l c : Nat} {L : List Exc} (h : Rx excL 33 w a l c L) {k : Nat} {x : Exc} (hk : Xc w k x) (hn : l + 1 ≤ 1099511627776) :
    ∃ a' c' w', (Builtin.append_ #[26, 26] 26 #[.slice a l c, .slice (some ⟨k, 0, none⟩) 1 1]).run Tryz.prog w = .ok (.slice a' (l + 1) c') w' ∧ Rx excL 33 w' a' (l + 1) c' (L ++ [x]) ∧ Mod (rowB a) w w' ∧ (∀ k, rowB a' k → rowB a k ∨ w.heap.size ≤ k) :=
  Row.push (P := Tryz.prog) (t := 26) (ty := 26) (by kernel_rfl) h (b := some ⟨k, 0, none⟩) (m := 1) (cc := 1) (ys := [x]) rfl (fun ad had j v hj => by
    cases had
    rw [cl1 hk]
    simpa [excL, Exc.cs] using hj) (fun h => by cases h) hn
theorem dropR_ok {w : World} {r : Nat} {X : List Exc} {B : List Bnd} (hR : RTb w r X B) (n : ByteArray) (hl : B.length < 1000000000) (hlx : X.length < 1000000000) (R : Value → World → Prop)
    (h : ∀ w', RTb w' r (if hx n X then X.filter fun e => !(e.n == n) else X) (if hx n X then B.filter fun b => !decide (b.x = n) else B) → Mod (on r) w w' → R (.int .i64 (if hx n X then 0 else 3)) w') :
    Ca Tryz.prog 38 #[.pointer (some ⟨r, 0, none⟩), .string n] w R := by
  refine ca38 (some ⟨r, 0, none⟩) n w R ?_
  refine findR_ok hR n hlx _ fun w1 m1 => ⟨_, _, _, _, rfl, ?_⟩
  intro w6 e6
  have m6 : Mod no w1 w6 := by subst e6; exact Mod.alloc _ _
  have b6 : Xc w6 w1.heap.size exc0 := by subst e6; exact new_at _ _
  clear e6
  refine put3 b6 fun w12 m12 b12 => ?_
  have m112 : Mod no w1 w12 := m6.new m12 fun k hk => by cases hk; exact Nat.le_refl _
  have m012 := m1.trans m112
  have hR12 := hR.no m012
  cases hh : hx n X with
  | false =>
    rw [hh] at h
    exact ifK_of (fun _ => h w12 hR12 m012.of_no) fun h => by cases h
  | true =>
    rw [hh] at h
    simp only [if_true] at h
    refine ifK_of (fun h => by cases h) fun _ => ?_
    obtain ⟨a, l, c, a', l', c', h1, h2, h3, h4, h5⟩ := hR12.ex
    have hxl := h2.len.1
    have hbl := h3.len.1
    have hrlt : r < w.heap.size := by obtain ⟨_, _, _, _, _, _, hh, _⟩ := hR.ex; exact lt_of_heap hh
    have g0 := m012.size
    refine ⟨fun p q s w' => Mod no w12 w' ∧ Rx excL 33 w' p q s (X.filter fun e => !(e.n == n)) ∧ ∀ k, rowB p k → w12.heap.size ≤ k, ?_, ?_⟩
    · refine ⟨a, l, c, by rw [cl1 h1]; rfl, ?_⟩
      refine ⟨fun p q s x w' => ∃ i : Nat, x = i ∧ i ≤ l ∧ Mod no w12 w' ∧ Rx excL 33 w' p q s ((X.take i).filter fun e => !(e.n == n)) ∧ ∀ k, rowB p k → w12.heap.size ≤ k, fun _ _ _ x _ => ((l : Int) - x).toNat,
        ⟨0, rfl, by omega, Mod.refl _ _, Row.empty _ _ _, fun k hk => by cases hk⟩, ?_⟩
      rintro _ p q s _ w11 ⟨i, rfl, hi, m11, hx, hn⟩
      have hql := hx.len.1
      have hqi : q ≤ i := by
        have : ((X.take i).filter fun e => !(e.n == n)).length ≤ (X.take i).length := List.length_filter_le _ _
        rw [List.length_take] at this
        omega
      refine ifK_dec (fun hlt => ?_) (fun hge => ?_)
      · have hil : i < X.length := by omega
        have htk : X.take (i + 1) = X.take i ++ [at0 X i] := by rw [List.take_succ_eq_append_getElem hil, at0_eq hil]
        have e1 : IntKind.i64.wrap ((i : Int) + 1) = ((i + 1 : Nat) : Int) := (by first | (simp only [IntKind.wrap_i64]; omega) | omega)
        rw [e1]
        clear e1
        refine (h2.no m11).cellX (by omega) ?_
        intro w16 e16
        have m16 : Mod no w11 w16 := by subst e16; exact Mod.alloc _ _
        have b16 : Xc w16 w11.heap.size exc0 := by subst e16; exact new_at _ _
        clear e16
        refine put3 b16 fun w22 m22 b22 => ⟨_, by rw [cl1 b22]; rfl, ?_⟩
        have m1122 : Mod no w11 w22 := m16.new m22 fun k hk => by cases hk; exact Nat.le_refl _
        have hx22 := hx.no m1122
        rw [toList_beq]
        refine ifK_not (fun hq => ?_) (fun hq => ?_)
        · refine ⟨_, by rw [cl1 b22]; rfl, _, by rw [cl1 b22]; rfl, _, by rw [cl1 b22]; rfl, ?_⟩
          intro w27 e27
          have m27 : Mod no w22 w27 := by subst e27; exact Mod.alloc _ _
          have b27 : Xc w27 w22.heap.size (at0 X i) := by subst e27; exact new_at _ _
          clear e27
          obtain ⟨p', s', w29, hrun, hx29, m29, hnew⟩ := pushX (hx22.no m27) b27 (by omega)
          have g1 := m11.size
          have g2 := m1122.size
          have g3 := m27.size
          refine ⟨_, w29, hrun, _, _, _, rfl, ⟨i + 1, rfl, by omega, ((m11.trans m1122).trans m27).new m29 hn, ?_, fun k hk => (hnew k hk).elim (hn k) fun h => by omega⟩, by simp only; omega⟩
          have : ((at0 X i).n == n) = false := beq_false_of_ne (of_decide_eq_false hq)
          rw [htk, List.filter_append, List.filter_cons_of_pos (by rw [this]; rfl)]
          exact hx29
        · refine ⟨⟨i + 1, rfl, by omega, m11.trans m1122, ?_, hn⟩, by simp only; omega⟩
          have : ((at0 X i).n == n) = true := by rw [of_decide_eq_true hq]; exact beq_self_eq_true _
          rw [htk, List.filter_append, List.filter_cons_of_neg (by rw [this]; simp), List.filter_nil, List.append_nil]
          exact hx22
      · have hti : X.take i = X := List.take_of_length_le (by omega)
        rw [hti] at hx
        exact ⟨m11, hx, hn⟩
    rintro _ xp xq xs w51 ⟨m51, hX, hXn⟩
    have h1 := m51.at' h1
    have h3 := h3.no m51
    refine ⟨a', l', c', by rw [cl1 h1]; rfl, ?_⟩
    refine ⟨fun p q s x w' => ∃ i : Nat, x = i ∧ i ≤ l' ∧ Mod no w51 w' ∧ Rx bndL 35 w' p q s ((B.take i).filter fun b => !decide (b.x = n)) ∧ ∀ k, rowB p k → w51.heap.size ≤ k, fun _ _ _ x _ => ((l' : Int) - x).toNat,
      ⟨0, rfl, by omega, Mod.refl _ _, Row.empty _ _ _, fun k hk => by cases hk⟩, ?_⟩
    rintro _ p q s _ w11 ⟨i, rfl, hi, m11, hx, hn⟩
    have hql := hx.len.1
    have hqi : q ≤ i := by
      have : ((B.take i).filter fun b => !decide (b.x = n)).length ≤ (B.take i).length := List.length_filter_le _ _
      rw [List.length_take] at this
      omega
    refine ifK_dec (fun hlt => ?_) (fun hge => ?_)
    · have hil : i < B.length := by omega
      have htk : B.take (i + 1) = B.take i ++ [at0 B i] := by rw [List.take_succ_eq_append_getElem hil, at0_eq hil]
      have e1 : IntKind.i64.wrap ((i : Int) + 1) = ((i + 1 : Nat) : Int) := (by first | (simp only [IntKind.wrap_i64]; omega) | omega)
      rw [e1]
      clear e1
      refine (h3.no m11).cellB (by omega) ?_
      intro w16 e16
      have m16 : Mod no w11 w16 := by subst e16; exact Mod.alloc _ _
      have b16 : w16.heap[w11.heap.size]? = some (.cells #[.string (ByteArray.mk #[]), .string (ByteArray.mk #[]), .string (ByteArray.mk #[])] 35 (0, 0)) := by subst e16; exact empty3
      clear e16
      refine put3 b16 fun w22 m22 b22 => ⟨_, by rw [cl1 b22]; rfl, ?_⟩
      have m1122 : Mod no w11 w22 := m16.new m22 fun k hk => by cases hk; exact Nat.le_refl _
      have hx22 := hx.no m1122
      rw [toList_beq]
      refine ifK_not (fun hq => ?_) (fun hq => ?_)
      · refine ⟨_, by rw [cl1 b22]; rfl, _, by rw [cl1 b22]; rfl, _, by rw [cl1 b22]; rfl, ?_⟩
        intro w27 e27
        have m27 : Mod no w22 w27 := by subst e27; exact Mod.alloc _ _
        have b27 : Bc w27 w22.heap.size (at0 B i) := by subst e27; exact new_at _ _
        clear e27
        obtain ⟨p', s', w29, hrun, hx29, m29, hnew⟩ := pushB (hx22.no m27) b27 (by omega)
        have g1 := m11.size
        have g2 := m1122.size
        have g3 := m27.size
        refine ⟨_, w29, hrun, _, _, _, rfl, ⟨i + 1, rfl, by omega, ((m11.trans m1122).trans m27).new m29 hn, ?_, fun k hk => (hnew k hk).elim (hn k) fun h => by omega⟩, by simp only; omega⟩
        rw [htk, List.filter_append, List.filter_cons_of_pos (by rw [hq]; rfl)]
        exact hx29
      · refine ⟨⟨i + 1, rfl, by omega, m11.trans m1122, ?_, hn⟩, by simp only; omega⟩
        rw [htk, List.filter_append, List.filter_cons_of_neg (by rw [hq]; simp), List.filter_nil, List.append_nil]
        exact hx22
    · have hti : B.take i = B := List.take_of_length_le (by omega)
      rw [hti] at hx
      have h1' := m11.at' h1
      have g5 := m51.size
      have hX := hX.no m11
      refine ⟨⟨_, by rw [cl2 h1']; rfl⟩, fz2 h1' _ _, ?_⟩
      intro w87 e87
      have m87 : Mod (on r) w11 w87 := by subst e87; exact Mod.set2 _ _ _ _ _
      have b87 : w87.heap[r]? = some (.cells #[.slice xp xq xs, .slice a' l' c'] 29 (0, 0)) := by subst e87; rw [set2 h1']; rfl
      clear e87
      refine ⟨⟨_, by rw [cl2 b87]; rfl⟩, fz2 b87 _ _, ?_⟩
      intro w90 e90
      have m90 : Mod (on r) w87 w90 := by subst e90; exact Mod.set2 _ _ _ _ _
      have b90 : w90.heap[r]? = some (.cells #[.slice xp xq xs, .slice p q s] 29 (0, 0)) := by subst e90; rw [set2 b87]; rfl
      clear e90
      have hpr : ¬ rowB p r := fun hk => by have := hn r hk; omega
      have hxr : ¬ rowB xp r := fun hk => by have := hXn r hk; omega
      have m := m87.trans m90
      exact h w90 ⟨xp, xq, xs, p, q, s, b90, hX.mod m (fun k hk hS => by cases hS; exact hxr hk), hx.mod m (fun k hk hS => by cases hS; exact hpr hk), hxr, hpr⟩ (((m012.trans m51).trans m11).no_trans m)
end Go.Proofs.YtehhhkcemmfjpaaGreatDoor

/- The formulas of functions, printed by a program of mine (gen.py) out of the translation. -/
namespace Go.Proofs.YtehhhkcemmfjpaaGreatDoor
open Go Go.Proofs.YtehhhkcemmfjpaaGreatDoor.St
open _root_.Go.Value (string int bool slice pointer agg tuple map func nilFunc iface)
open _root_.Go.World (cell? frozen? setCell alloc drew)
open _root_.Go.Addr (add)
open _root_.Go.Obj (cells)
open _root_.Go.IntKind (wrap i64 u64 i32 u32 u8)
set_option maxRecDepth 100000

/-- (*staith/staithref07.Table).Declare -/
noncomputable def C36 : Code := (Tryz.f36.body).getD .skip
def pl36 : Nat → Plan
  | 10 => (.quiet 1 (.quiet 2 (.quiet 3 (.quiet 4 (.quiet 6 (.fork (.eff 0 [4, 6] (.fork (.eff 5 [6] (.eff 7 [4] (.eff 8 [] (.quiet 9 .done)))) (.eff 7 [4] (.eff 5 [6] (.eff 8 [] (.quiet 9 .done)))))) (.eff 7 [4] (.eff 0 [4, 6] (.eff 5 [6] (.eff 8 [] (.quiet 9 .done)))))))))))
  | 12 => (.quiet 0 (.quiet 1 (.quiet 2 (.quiet 3 (.quiet 4 (.quiet 5 (.quiet 6 (.quiet 7 (.quiet 8 (.quiet 9 (.quiet 10 (.quiet 11 (.quiet 12 (.quiet 13 (.quiet 14 (.quiet 15 .done))))))))))))))))
  | 14 => (.quiet 0 (.quiet 1 (.quiet 2 (.quiet 3 (.quiet 4 (.quiet 5 (.quiet 6 (.quiet 7 (.quiet 8 (.quiet 9 (.quiet 10 (.quiet 11 (.quiet 12 (.quiet 13 (.quiet 14 (.eff 15 [] (.quiet 16 (.eff 17 [] .done))))))))))))))))))
  | _ => .done
def ls36 : Nat → List (Nat × LT)
  | 5 => [(0, .agg []), (5, (.one .ptr)), (6, (.one .bool))]
  | 14 => [(0, .agg []), (7, (.one .slice))]
  | 17 => [(8, (.one (.int .i64)))]
  | _ => []
def W36 (t : Option Addr) (x0_ : ByteArray) (x1_ : Int) (x2_ : Bool) (w : World) (R : Value → World → Prop) : Prop :=
  (atW (alloc w (cells (Array.mk [string x0_, int i64 x1_, bool x2_]) 33 (0, 0))) (fun w0 =>
(∃ s1 : ByteArray, ((cell? w0 (add (nw w) 0) = some (string s1)) ∧ (∃ x2 : Int, ((cell? w0 (add (nw w) 1) = some (int i64 x2)) ∧ (∃ b3 : Bool, ((cell? w0 (add (nw w) 2) = some (bool b3)) ∧ (Ca Tryz.prog (37) (Array.mk [agg (Array.mk (List.reverse [bool b3, int i64 x2, string s1]))]) (w0) (fun v4 => (fun w5 =>
(∃ b6 : Bool, ((v4 = bool b6) ∧ (ifK (!b6)
(R (int i64 2) (w5))
(∃ z7 : Option Addr → Bool → World → Prop, ((∃ s8 : ByteArray, ((cell? w5 (add (nw w) 0) = some (string s8)) ∧ (Ca Tryz.prog (43) (Array.mk [pointer t, string s8]) (w5) (fun v9 => (fun w10 =>
(∃ s11 : ByteArray, (∃ x12 : Int, (∃ b13 : Bool, (∃ b14 : Bool, ((v9 = tuple (Array.mk (List.reverse [bool b14, agg (Array.mk (List.reverse [bool b13, int i64 x12, string s11]))]))) ∧ (atW (alloc w10 (cells (Array.mk [string (ByteArray.mk #[]), int i64 0, bool false]) 33 (0, 0))) (fun w15 =>
(st1 (add (nw w10) 0) (string s11) w15 (fun w17 =>
(st1 (add (nw w10) 1) (int i64 x12) w17 (fun w19 =>
(st1 (add (nw w10) 2) (bool b13) w19 (fun w21 =>
(z7 (some (nw w10)) (b14) (w21)))))))))))))))))))) ∧ (∀ (_ : Nat → Value), (∀ (p23 : Option Addr), (∀ (b24 : Bool), (∀ (w25 : World), ((z7 (p23) (b24) (w25)) → (ifK (b24)
(∃ s26 : ByteArray, ((cell? w25 (add (nw w) 0) = some (string s26)) ∧ (∃ x27 : Int, ((cell? w25 (add (nw w) 1) = some (int i64 x27)) ∧ (∃ b28 : Bool, ((cell? w25 (add (nw w) 2) = some (bool b28)) ∧ (onP (p23) (fun a29 =>
(∃ s30 : ByteArray, ((cell? w25 (add a29 0) = some (string s30)) ∧ (∃ x31 : Int, ((cell? w25 (add a29 1) = some (int i64 x31)) ∧ (∃ b32 : Bool, ((cell? w25 (add a29 2) = some (bool b32)) ∧ (eqA Tryz.prog 33 (agg (Array.mk (List.reverse [bool b28, int i64 x27, string s26]))) (agg (Array.mk (List.reverse [bool b32, int i64 x31, string s30]))) (w25) (fun b33 => (fun w34 =>
(ifK (!b33)
(R (int i64 12) (w34))
(R (int i64 0) (w34))))))))))))))))))))
(onP (t) (fun a35 =>
(∃ p36 : Option Addr, (∃ n37 : Nat, (∃ n38 : Nat, ((cell? w25 (add a35 0) = some (slice p36 n37 n38)) ∧ (ifK (decide ((↑n37 : Int) ≥ 8))
(R (int i64 5) (w25))
(∃ z39 : Option Addr → Nat → Nat → World → Prop, ((atW (drew w25) (fun w40 =>
(onP (t) (fun a41 =>
(∃ p42 : Option Addr, (∃ n43 : Nat, (∃ n44 : Nat, ((cell? w40 (add a41 0) = some (slice p42 n43 n44)) ∧ (∃ s45 : ByteArray, ((cell? w40 (add (nw w) 0) = some (string s45)) ∧ (∃ x46 : Int, ((cell? w40 (add (nw w) 1) = some (int i64 x46)) ∧ (∃ b47 : Bool, ((cell? w40 (add (nw w) 2) = some (bool b47)) ∧ ((atW (alloc w40 (cells (Array.mk []) 33 (0, 0))) (fun w48 =>
((cell? w48 (add (add a41 0) 0) = some (slice p42 n43 n44)) ∧ ((cell? w48 (add (nw w) 0) = some (string s45)) ∧ ((cell? w48 (add (nw w) 1) = some (int i64 x46)) ∧ ((cell? w48 (add (nw w) 2) = some (bool b47)) ∧ ((∃ v49 : Value, (∃ w50 : World, ((Sem.run Tryz.prog (Builtin.append_ (Array.mk [26, 26]) 26 (Array.mk [slice (some (nw w40)) 0 0, slice p42 n43 n44])) w48 = Result.ok v49 w50) ∧ (∃ p51 : Option Addr, (∃ n52 : Nat, (∃ n53 : Nat, ((v49 = slice p51 n52 n53) ∧ ((cell? w50 (add (nw w) 0) = some (string s45)) ∧ ((cell? w50 (add (nw w) 1) = some (int i64 x46)) ∧ ((cell? w50 (add (nw w) 2) = some (bool b47)) ∧ (atW (alloc w50 (cells (Array.mk [string s45, int i64 x46, bool b47]) 33 (0, 0))) (fun w54 =>
((cell? w54 (add (add a41 0) 0) = some (slice p42 n43 n44)) ∧ (∃ v55 : Value, (∃ w56 : World, ((Sem.run Tryz.prog (Builtin.append_ (Array.mk [26, 26]) 26 (Array.mk [slice p51 n52 n53, slice (some (nw w50)) 1 1])) w54 = Result.ok v55 w56) ∧ (∃ p57 : Option Addr, (∃ n58 : Nat, (∃ n59 : Nat, ((v55 = slice p57 n58 n59) ∧ (z39 (p57) (n58) (n59) (w56)))))))))))))))))))))) ∧ (atW (alloc w48 (cells (Array.mk [string s45, int i64 x46, bool b47]) 33 (0, 0))) (fun w60 =>
((cell? w60 (add (add a41 0) 0) = some (slice p42 n43 n44)) ∧ (∃ v61 : Value, (∃ w62 : World, ((Sem.run Tryz.prog (Builtin.append_ (Array.mk [26, 26]) 26 (Array.mk [slice (some (nw w40)) 0 0, slice p42 n43 n44])) w60 = Result.ok v61 w62) ∧ (∃ p63 : Option Addr, (∃ n64 : Nat, (∃ n65 : Nat, ((v61 = slice p63 n64 n65) ∧ ((cell? w62 (add (nw w) 0) = some (string s45)) ∧ ((cell? w62 (add (nw w) 1) = some (int i64 x46)) ∧ ((cell? w62 (add (nw w) 2) = some (bool b47)) ∧ (∃ v66 : Value, (∃ w67 : World, ((Sem.run Tryz.prog (Builtin.append_ (Array.mk [26, 26]) 26 (Array.mk [slice p63 n64 n65, slice (some (nw w48)) 1 1])) w62 = Result.ok v66 w67) ∧ (∃ p68 : Option Addr, (∃ n69 : Nat, (∃ n70 : Nat, ((v66 = slice p68 n69 n70) ∧ (z39 (p68) (n69) (n70) (w67))))))))))))))))))))))))))))) ∧ (atW (alloc w40 (cells (Array.mk [string s45, int i64 x46, bool b47]) 33 (0, 0))) (fun w71 =>
((cell? w71 (add (add a41 0) 0) = some (slice p42 n43 n44)) ∧ (atW (alloc w71 (cells (Array.mk []) 33 (0, 0))) (fun w72 =>
((cell? w72 (add (add a41 0) 0) = some (slice p42 n43 n44)) ∧ ((cell? w72 (add (nw w) 0) = some (string s45)) ∧ ((cell? w72 (add (nw w) 1) = some (int i64 x46)) ∧ ((cell? w72 (add (nw w) 2) = some (bool b47)) ∧ (∃ v73 : Value, (∃ w74 : World, ((Sem.run Tryz.prog (Builtin.append_ (Array.mk [26, 26]) 26 (Array.mk [slice (some (nw w71)) 0 0, slice p42 n43 n44])) w72 = Result.ok v73 w74) ∧ (∃ p75 : Option Addr, (∃ n76 : Nat, (∃ n77 : Nat, ((v73 = slice p75 n76 n77) ∧ ((cell? w74 (add (nw w) 0) = some (string s45)) ∧ ((cell? w74 (add (nw w) 1) = some (int i64 x46)) ∧ ((cell? w74 (add (nw w) 2) = some (bool b47)) ∧ (∃ v78 : Value, (∃ w79 : World, ((Sem.run Tryz.prog (Builtin.append_ (Array.mk [26, 26]) 26 (Array.mk [slice p75 n76 n77, slice (some (nw w40)) 1 1])) w74 = Result.ok v78 w79) ∧ (∃ p80 : Option Addr, (∃ n81 : Nat, (∃ n82 : Nat, ((v78 = slice p80 n81 n82) ∧ (z39 (p80) (n81) (n82) (w79))))))))))))))))))))))))))))))))))))))))))) ∧ (∀ (_ : Nat → Value), (∀ (p84 : Option Addr), (∀ (n85 : Nat), (∀ (n86 : Nat), (∀ (w87 : World), ((z39 (p84) (n85) (n86) (w87)) → (∃ z88 : Int → World → Prop, (∃ z89 : Int → World → Nat, ((z88 (wrap i64 ((↑n85 : Int) - 1)) (w87)) ∧ (∀ (_ : Nat → Value), (∀ (x91 : Int), (∀ (w92 : World), ((z88 (x91) (w92)) → (atW (drew w92) (fun w93 =>
(ifK (decide (x91 > 0))
(∃ a94 : Addr, ((p84 = some a94) ∧ (((0 : Int) ≤ wrap i64 (x91 - 1)) ∧ (((wrap i64 (x91 - 1) : Int) < (↑n85 : Int)) ∧ (∃ s95 : ByteArray, ((cell? w93 (add (add a94 (Int.toNat (wrap i64 (x91 - 1)) * 3)) 0) = some (string s95)) ∧ (∃ a96 : Addr, ((p84 = some a96) ∧ (((0 : Int) ≤ x91) ∧ (((x91 : Int) < (↑n85 : Int)) ∧ (∃ s97 : ByteArray, ((cell? w93 (add (add a96 (Int.toNat x91 * 3)) 0) = some (string s97)) ∧ (ifK (!(Op.bytesLess (ByteArray.toList s95) (ByteArray.toList s97) || ByteArray.toList s95 == ByteArray.toList s97))
(atW (drew w93) (fun w98 =>
(∃ a99 : Addr, ((p84 = some a99) ∧ (((0 : Int) ≤ x91) ∧ (((x91 : Int) < (↑n85 : Int)) ∧ (∃ s100 : ByteArray, ((cell? w98 (add (add a99 (Int.toNat x91 * 3)) 0) = some (string s100)) ∧ (∃ x101 : Int, ((cell? w98 (add (add a99 (Int.toNat x91 * 3)) 1) = some (int i64 x101)) ∧ (∃ b102 : Bool, ((cell? w98 (add (add a99 (Int.toNat x91 * 3)) 2) = some (bool b102)) ∧ (∃ a103 : Addr, ((p84 = some a103) ∧ (((0 : Int) ≤ wrap i64 (x91 - 1)) ∧ (((wrap i64 (x91 - 1) : Int) < (↑n85 : Int)) ∧ (∃ s104 : ByteArray, ((cell? w98 (add (add a103 (Int.toNat (wrap i64 (x91 - 1)) * 3)) 0) = some (string s104)) ∧ (∃ x105 : Int, ((cell? w98 (add (add a103 (Int.toNat (wrap i64 (x91 - 1)) * 3)) 1) = some (int i64 x105)) ∧ (∃ b106 : Bool, ((cell? w98 (add (add a103 (Int.toNat (wrap i64 (x91 - 1)) * 3)) 2) = some (bool b106)) ∧ (∃ a107 : Addr, ((p84 = some a107) ∧ (((0 : Int) ≤ wrap i64 (x91 - 1)) ∧ (((wrap i64 (x91 - 1) : Int) < (↑n85 : Int)) ∧ (st1 (add (add a107 (Int.toNat (wrap i64 (x91 - 1)) * 3)) 0) (string s100) w98 (fun w109 =>
(st1 (add (add a107 (Int.toNat (wrap i64 (x91 - 1)) * 3)) 1) (int i64 x101) w109 (fun w111 =>
(st1 (add (add a107 (Int.toNat (wrap i64 (x91 - 1)) * 3)) 2) (bool b102) w111 (fun w113 =>
(∃ a114 : Addr, ((p84 = some a114) ∧ (((0 : Int) ≤ x91) ∧ (((x91 : Int) < (↑n85 : Int)) ∧ (st1 (add (add a114 (Int.toNat x91 * 3)) 0) (string s104) w113 (fun w116 =>
(st1 (add (add a114 (Int.toNat x91 * 3)) 1) (int i64 x105) w116 (fun w118 =>
(st1 (add (add a114 (Int.toNat x91 * 3)) 2) (bool b106) w118 (fun w120 =>
((z88 (wrap i64 (x91 - 1)) (w120)) ∧ (z89 (wrap i64 (x91 - 1)) w120 < z89 x91 w92))))))))))))))))))))))))))))))))))))))))))))
(onP (t) (fun a121 =>
(st1 (add (add a121 0) 0) (slice p84 n85 n86) w93 (fun w123 =>
(R (int i64 0) (w123)))))))))))))))))))
(onP (t) (fun a124 =>
(st1 (add (add a124 0) 0) (slice p84 n85 n86) w93 (fun w126 =>
(R (int i64 0) (w126)))))))))))))))))))))))))))))))))))))))))))))))))))))
theorem ca36 (t : Option Addr) (x0_ : ByteArray) (x1_ : Int) (x2_ : Bool) (w : World) (R : Value → World → Prop) (h : W36 t x0_ x1_ x2_ w R) : Ca Tryz.prog 36 ⟨[(.pointer t), (.agg ⟨[(.string x0_), (.int .i64 x1_), (.bool x2_)]⟩)]⟩ w R :=
  caB (fn := Tryz.f36) (pl := pl36) (ls := ls36) Tryz.func36 (by kernel_rfl) (by kernel_rfl) h

/-- staith/staithref07.Same -/
noncomputable def C14 : Code := (Tryz.f14.body).getD .skip
def pl14 : Nat → Plan
  | 6 => (.quiet 0 (.quiet 1 (.quiet 2 (.quiet 3 (.quiet 4 (.quiet 5 (.quiet 6 (.quiet 7 (.quiet 8 (.quiet 9 (.quiet 10 (.eff 11 [] .done))))))))))))
  | 12 => (.quiet 0 (.quiet 1 (.quiet 2 (.quiet 3 (.quiet 4 (.quiet 5 (.quiet 6 (.quiet 7 (.quiet 8 (.quiet 9 (.quiet 10 (.eff 11 [] .done))))))))))))
  | _ => .done
def ls14 : Nat → List (Nat × LT)
  | 6 => [(29, (.one (.int .i64)))]
  | 15 => [(47, (.one (.int .i64)))]
  | _ => []
def W14 (xsa : Option Addr) (xsl : Nat) (_xsc : Nat) (bsa : Option Addr) (bsl : Nat) (_bsc : Nat) (t : Option Addr) (w : World) (R : Value → World → Prop) : Prop :=
  (onP (t) (fun a0 =>
(∃ p1 : Option Addr, (∃ n2 : Nat, (∃ n3 : Nat, ((cell? w (add a0 0) = some (slice p1 n2 n3)) ∧ (ifK ((↑xsl : Int) != (↑n2 : Int))
(R (bool false) (w))
(onP (t) (fun a4 =>
(∃ p5 : Option Addr, (∃ n6 : Nat, (∃ n7 : Nat, ((cell? w (add a4 1) = some (slice p5 n6 n7)) ∧ (ifK ((↑bsl : Int) != (↑n6 : Int))
(R (bool false) (w))
(∃ z8 : Int → World → Prop, (∃ z9 : Int → World → Nat, ((z8 (0) (w)) ∧ (∀ (_ : Nat → Value), (∀ (x11 : Int), (∀ (w12 : World), ((z8 (x11) (w12)) → (ifK (decide (x11 < (↑xsl : Int)))
(atW (drew w12) (fun w13 =>
(∃ a14 : Addr, ((xsa = some a14) ∧ (((0 : Int) ≤ x11) ∧ (((x11 : Int) < (↑xsl : Int)) ∧ (∃ s15 : ByteArray, ((cell? w13 (add (add a14 (Int.toNat x11 * 3)) 0) = some (string s15)) ∧ (∃ x16 : Int, ((cell? w13 (add (add a14 (Int.toNat x11 * 3)) 1) = some (int i64 x16)) ∧ (∃ b17 : Bool, ((cell? w13 (add (add a14 (Int.toNat x11 * 3)) 2) = some (bool b17)) ∧ (onP (t) (fun a18 =>
(∃ p19 : Option Addr, (∃ n20 : Nat, (∃ n21 : Nat, ((cell? w13 (add a18 0) = some (slice p19 n20 n21)) ∧ (∃ a22 : Addr, ((p19 = some a22) ∧ (((0 : Int) ≤ x11) ∧ (((x11 : Int) < (↑n20 : Int)) ∧ (∃ s23 : ByteArray, ((cell? w13 (add (add a22 (Int.toNat x11 * 3)) 0) = some (string s23)) ∧ (∃ x24 : Int, ((cell? w13 (add (add a22 (Int.toNat x11 * 3)) 1) = some (int i64 x24)) ∧ (∃ b25 : Bool, ((cell? w13 (add (add a22 (Int.toNat x11 * 3)) 2) = some (bool b25)) ∧ (eqA Tryz.prog 33 (agg (Array.mk (List.reverse [bool b17, int i64 x16, string s15]))) (agg (Array.mk (List.reverse [bool b25, int i64 x24, string s23]))) (w13) (fun b26 => (fun w27 =>
(ifK (!b26)
(R (bool false) (w27))
((z8 (wrap i64 (x11 + 1)) (w27)) ∧ (z9 (wrap i64 (x11 + 1)) w27 < z9 x11 w12))))))))))))))))))))))))))))))))))
(∃ z28 : Int → World → Prop, (∃ z29 : Int → World → Nat, ((z28 (0) (w12)) ∧ (∀ (_ : Nat → Value), (∀ (x31 : Int), (∀ (w32 : World), ((z28 (x31) (w32)) → (ifK (decide (x31 < (↑bsl : Int)))
(atW (drew w32) (fun w33 =>
(∃ a34 : Addr, ((bsa = some a34) ∧ (((0 : Int) ≤ x31) ∧ (((x31 : Int) < (↑bsl : Int)) ∧ (∃ s35 : ByteArray, ((cell? w33 (add (add a34 (Int.toNat x31 * 3)) 0) = some (string s35)) ∧ (∃ s36 : ByteArray, ((cell? w33 (add (add a34 (Int.toNat x31 * 3)) 1) = some (string s36)) ∧ (∃ s37 : ByteArray, ((cell? w33 (add (add a34 (Int.toNat x31 * 3)) 2) = some (string s37)) ∧ (onP (t) (fun a38 =>
(∃ p39 : Option Addr, (∃ n40 : Nat, (∃ n41 : Nat, ((cell? w33 (add a38 1) = some (slice p39 n40 n41)) ∧ (∃ a42 : Addr, ((p39 = some a42) ∧ (((0 : Int) ≤ x31) ∧ (((x31 : Int) < (↑n40 : Int)) ∧ (∃ s43 : ByteArray, ((cell? w33 (add (add a42 (Int.toNat x31 * 3)) 0) = some (string s43)) ∧ (∃ s44 : ByteArray, ((cell? w33 (add (add a42 (Int.toNat x31 * 3)) 1) = some (string s44)) ∧ (∃ s45 : ByteArray, ((cell? w33 (add (add a42 (Int.toNat x31 * 3)) 2) = some (string s45)) ∧ (eqA Tryz.prog 35 (agg (Array.mk (List.reverse [string s37, string s36, string s35]))) (agg (Array.mk (List.reverse [string s45, string s44, string s43]))) (w33) (fun b46 => (fun w47 =>
(ifK (!b46)
(R (bool false) (w47))
((z28 (wrap i64 (x31 + 1)) (w47)) ∧ (z29 (wrap i64 (x31 + 1)) w47 < z29 x31 w32))))))))))))))))))))))))))))))))))
(R (bool true) (w32))))))))))))))))))))))))))))))))
theorem ca14 (xsa : Option Addr) (xsl : Nat) (xsc : Nat) (bsa : Option Addr) (bsl : Nat) (bsc : Nat) (t : Option Addr) (w : World) (R : Value → World → Prop) (h : W14 xsa xsl xsc bsa bsl bsc t w R) : Ca Tryz.prog 14 ⟨[(.slice xsa xsl xsc), (.slice bsa bsl bsc), (.pointer t)]⟩ w R :=
  caB (fn := Tryz.f14) (pl := pl14) (ls := ls14) Tryz.func14 (by kernel_rfl) (by kernel_rfl) h
end Go.Proofs.YtehhhkcemmfjpaaGreatDoor

/- The reference's Same. -/
namespace Go.Proofs.YtehhhkcemmfjpaaGreatDoor
open Go Go.Proofs.YtehhhkcemmfjpaaGreatDoor Go.Proofs.YtehhhkcemmfjpaaGreatDoor.St

theorem same_step {α : Type} [Inhabited α] {X Y : List α} {i : Nat} (hi : i < X.length) (hj : i < Y.length) : (X.drop i = Y.drop i) ↔ (at0 X i = at0 Y i ∧ X.drop (i + 1) = Y.drop (i + 1)) := by
  rw [List.drop_eq_getElem_cons hi, List.drop_eq_getElem_cons hj, List.cons.injEq, at0_eq hi, at0_eq hj]
theorem same_ok {w : World} {r : Nat} {X Y : List Exc} {B C : List Bnd} (hR : RTb w r X B) {ya : Option Addr} {yl yc : Nat} (hY : Rx excL 33 w ya yl yc Y) {ca : Option Addr} {cl cc : Nat} (hC : Rx bndL 35 w ca cl cc C) (h1 : X.length < 1000000000) (h2 : B.length < 1000000000)
    (R : Value → World → Prop) (h : ∀ w', Mod no w w' → R (.bool (decide (Y = X ∧ C = B))) w') : Ca Tryz.prog 14 #[.slice ya yl yc, .slice ca cl cc, .pointer (some ⟨r, 0, none⟩)] w R := by
  refine ca14 ya yl yc ca cl cc (some ⟨r, 0, none⟩) w R ?_
  obtain ⟨a, l, c, a', l', c', hr, hx, hb, _, _⟩ := hR.ex
  have e1 := hx.len.1
  have e2 := hb.len.1
  have e3 := hY.len.1
  have e4 := hC.len.1
  have no1 : ∀ w', Mod no w w' → ¬ (Y = X ∧ C = B) → R (.bool false) w' := fun w' m hn => by
    have h' := h w' m
    rw [decide_eq_false hn] at h'
    exact h'
  refine ⟨a, l, c, by rw [cl1 hr]; rfl, ifK_of (fun hne => no1 w (Mod.refl _ _) fun hh => ?_) fun hl => ⟨a', l', c', by rw [cl1 hr]; rfl, ifK_of (fun hne => no1 w (Mod.refl _ _) fun hh => ?_) fun hl' => ?_⟩⟩
  · rw [← hh.1, e3] at e1
    subst e1
    simp at hne
  · rw [← hh.2, e4] at e2
    subst e2
    simp at hne
  have hl : yl = l := by have : (yl : Int) = l := by simpa using hl
                         omega
  have hl' : cl = l' := by have : (cl : Int) = l' := by simpa using hl'
                           omega
  subst hl
  subst hl'
  refine ⟨fun x w' => ∃ i : Nat, x = i ∧ i ≤ yl ∧ Mod no w w' ∧ (Y = X ↔ Y.drop i = X.drop i), fun x _ => ((yl : Int) - x).toNat, ⟨0, rfl, by omega, Mod.refl _ _, Iff.rfl⟩, ?_⟩
  rintro _ _ w12 ⟨i, rfl, hi, m12, he⟩
  refine ifK_dec (fun hlt => ?_) (fun hge => ?_)
  · intro w13 e13
    have m13 : Mod no w12 w13 := by subst e13; exact Mod.drew _
    clear e13
    have m := m12.trans m13
    have e0 : IntKind.i64.wrap ((i : Int) + 1) = ((i + 1 : Nat) : Int) := (by first | (simp only [IntKind.wrap_i64]; omega) | omega)
    rw [e0]
    clear e0
    have st := same_step (X := Y) (Y := X) (i := i) (by omega) (by omega)
    refine (hY.no m).cellX (by omega) ⟨a, yl, c, by rw [cl1 (m.at' hr)]; rfl, (hx.no m).cellX (by omega) ?_⟩
    refine eqA_agg exc_s.guard (exc_s.eq (at0 Y i) (at0 X i)) (ifK_not (fun hq => ?_) (fun hq => ?_))
    · exact no1 w13 m fun hh => of_decide_eq_false hq (st.1 (he.1 hh.1)).1
    · exact ⟨⟨i + 1, rfl, by omega, m, he.trans (st.trans ⟨fun hh => hh.2, fun hh => ⟨of_decide_eq_true hq, hh⟩⟩)⟩, by simp only; omega⟩
  have hYX : Y = X := he.2 (by rw [List.drop_eq_nil_of_le (by omega), List.drop_eq_nil_of_le (by omega)])
  refine ⟨fun x w' => ∃ i : Nat, x = i ∧ i ≤ cl ∧ Mod no w w' ∧ (C = B ↔ C.drop i = B.drop i), fun x _ => ((cl : Int) - x).toNat, ⟨0, rfl, by omega, m12, Iff.rfl⟩, ?_⟩
  rintro _ _ w32 ⟨i, rfl, hi, m32, he⟩
  refine ifK_dec (fun hlt => ?_) (fun hge => ?_)
  · intro w13 e13
    have m13 : Mod no w32 w13 := by subst e13; exact Mod.drew _
    clear e13
    have m := m32.trans m13
    have e0 : IntKind.i64.wrap ((i : Int) + 1) = ((i + 1 : Nat) : Int) := (by first | (simp only [IntKind.wrap_i64]; omega) | omega)
    rw [e0]
    clear e0
    have st := same_step (X := C) (Y := B) (i := i) (by omega) (by omega)
    refine (hC.no m).cellB (by omega) ⟨a', cl, c', by rw [cl1 (m.at' hr)]; rfl, (hb.no m).cellB (by omega) ?_⟩
    refine eqA_agg bnd_s.guard (bnd_s.eq (at0 C i) (at0 B i)) (ifK_not (fun hq => ?_) (fun hq => ?_))
    · exact no1 w13 m fun hh => of_decide_eq_false hq (st.1 (he.1 hh.2)).1
    · exact ⟨⟨i + 1, rfl, by omega, m, he.trans (st.trans ⟨fun hh => hh.2, fun hh => ⟨of_decide_eq_true hq, hh⟩⟩)⟩, by simp only; omega⟩
  · have hCB : C = B := he.2 (by rw [List.drop_eq_nil_of_le (by omega), List.drop_eq_nil_of_le (by omega)])
    have h' := h w32 m32
    rw [decide_eq_true ⟨hYX, hCB⟩] at h'
    exact h'
end Go.Proofs.YtehhhkcemmfjpaaGreatDoor

/- Elements of three cells, written cell by cell (the unfolded form of 'wr_cells'). It names no program. -/
namespace Go.Proofs.YtehhhkcemmfjpaaGreatDoor.St
open Go

theorem putAt {α : Type} {L : Lay α} {e : TypeId} {w : World} {g l c : Nat} {xs : List α} (h : Rx L e w (some ⟨g, 0, none⟩) l c xs) (hs : L.s = 3) {n : Nat} (hn : n < l) (v : α) {x y z : Value} (hv : L.cs v = [x, y, z]) {K : World → Prop}
    (hk : ∀ w', Mod (on g) w w' → Rx L e w' (some ⟨g, 0, none⟩) l c (xs.set n v) → K w') :
    (∃ o : Value, w.cell? (Addr.add (Addr.add ⟨g, 0, none⟩ (n * 3)) 0) = some o) ∧ w.frozen? (Addr.add (Addr.add ⟨g, 0, none⟩ (n * 3)) 0) = false ∧ atW (w.setCell (Addr.add (Addr.add ⟨g, 0, none⟩ (n * 3)) 0) x) fun w1 =>
    (∃ o : Value, w1.cell? (Addr.add (Addr.add ⟨g, 0, none⟩ (n * 3)) 1) = some o) ∧ w1.frozen? (Addr.add (Addr.add ⟨g, 0, none⟩ (n * 3)) 1) = false ∧ atW (w1.setCell (Addr.add (Addr.add ⟨g, 0, none⟩ (n * 3)) 1) y) fun w2 =>
    (∃ o : Value, w2.cell? (Addr.add (Addr.add ⟨g, 0, none⟩ (n * 3)) 2) = some o) ∧ w2.frozen? (Addr.add (Addr.add ⟨g, 0, none⟩ (n * 3)) 2) = false ∧ atW (w2.setCell (Addr.add (Addr.add ⟨g, 0, none⟩ (n * 3)) 2) z) K := by
  have := wr_cells h hn v hk
  have hx : x.oneCell' = true := L.one v x (by rw [hv]; simp)
  have hy : y.oneCell' = true := L.one v y (by rw [hv]; simp)
  have hz : z.oneCell' = true := L.one v z (by rw [hv]; simp)
  rw [hv, hs] at this
  simp only [stCells, hx, hy, hz, cond_true] at this
  exact this
end Go.Proofs.YtehhhkcemmfjpaaGreatDoor.St

/- Insertion from behind into a rising row, and rows that are permutations of one another. It names no program. -/
namespace Go.Proofs.YtehhhkcemmfjpaaGreatDoor.St
open Go

/-- x was put into X, from behind, as far as what stands there is more. -/
def Inb {α : Type} [_root_.LT α] (x : α) (X X' : List α) : Prop := ∃ i, i ≤ X.length ∧ X' = X.take i ++ x :: X.drop i ∧ (∀ y ∈ X.drop i, x < y) ∧ ∀ j y, j + 1 = i → X[j]? = some y → ¬ x < y
section
variable {α : Type} [_root_.LT α] {x : α} {X X' : List α}
theorem Inb.perm (h : Inb x X X') : X'.Perm (X ++ [x]) := by
  obtain ⟨i, _, rfl, _⟩ := h
  refine List.perm_middle.trans ?_
  rw [List.take_append_drop]
  exact (List.perm_append_singleton x X).symm
theorem Inb.mem (h : Inb x X X') (y : α) : y ∈ X' ↔ y ∈ X ∨ y = x := by
  rw [h.perm.mem_iff]; simp
theorem Inb.rises (tr : ∀ a b c : α, a < b → b < c → a < c) (hX : X.Pairwise (· < ·)) (ht : ∀ y ∈ X, x < y ∨ y < x) (h : Inb x X X') : X'.Pairwise (· < ·) := by
  obtain ⟨i, hi, rfl, h1, h2⟩ := h
  have hbelow : ∀ y ∈ X.take i, y < x := by
    intro y hy
    obtain ⟨j, hj, rfl⟩ := List.mem_iff_getElem.1 hy
    rw [List.length_take] at hj
    have hji : j < i := by omega
    obtain ⟨k, rfl⟩ : ∃ k, i = k + 1 := ⟨i - 1, by omega⟩
    have hlast : X[k]'(by omega) < x := (ht _ (List.getElem_mem _)).resolve_left (h2 k _ rfl (List.getElem?_eq_getElem (by omega)))
    rw [List.getElem_take]
    by_cases e : j = k
    · subst e; exact hlast
    · exact tr _ _ _ (List.pairwise_iff_getElem.1 hX j k (by omega) (by omega) (by omega)) hlast
  rw [List.pairwise_append]
  refine ⟨hX.sublist (List.take_sublist _ _), List.pairwise_cons.2 ⟨h1, hX.sublist (List.drop_sublist _ _)⟩, fun a ha b hb => ?_⟩
  rcases List.mem_cons.1 hb with rfl | hb
  · exact hbelow a ha
  · exact tr _ _ _ (hbelow a ha) (h1 b hb)
end
/-- The next step of the loop that puts it in. -/
theorem ins_step {α : Type} {x : α} {X : List α} {i : Nat} (hi : i + 1 ≤ X.length) : (X.take (i + 1) ++ x :: X.drop (i + 1)) = X.take i ++ X[i] :: x :: X.drop (i + 1) := by
  rw [List.take_succ_eq_append_getElem (by omega), List.append_assoc]; rfl
theorem ins_next {α : Type} {x : α} {X : List α} {i : Nat} (hi : i + 1 ≤ X.length) : (X.take i ++ x :: X.drop i) = X.take i ++ x :: X[i] :: X.drop (i + 1) := by
  rw [List.drop_eq_getElem_cons (by omega)]
theorem rowB_eq {g k : Nat} (h : rowB (some ⟨g, 0, none⟩) k) : g = k := by simpa [rowB] using h
theorem swap_mid {α : Type} (P : List α) (a b : α) (S : List α) : ((P ++ a :: b :: S).set P.length b).set (P.length + 1) a = P ++ b :: a :: S := by
  rw [List.set_append_right _ _ (Nat.le_refl _), Nat.sub_self, List.set_cons_zero, List.set_append_right _ _ (by omega), show P.length + 1 - P.length = 1 by omega]
  rfl
/-- A rising row is the sorted permutation. -/
theorem rising_unique {α : Type} [_root_.LT α] [LE α] [Inhabited α] {xs X : List α} (hle : ∀ a b : α, a < b → a ≤ b) (anti : ∀ a b, a ∈ X → b ∈ X → a ≤ b → b ≤ a → a = b) (hp : xs.Perm X) (hs : Srt xs 0 xs.length) (hX : X.Pairwise (· < ·)) : xs = X := by
  have h1 : xs.Pairwise (· ≤ ·) := by
    rw [List.pairwise_iff_getElem]
    intro i j hi hj hij
    have := hs i j (Nat.zero_le _) hij hj
    simpa [at0, hi, hj] using this
  have h2 : X.Pairwise (· ≤ ·) := hX.imp (hle _ _)
  exact List.Perm.eq_of_pairwise (le := fun a b => a ≤ b) (fun a b ha hb hab hba => anti a b (hp.mem_iff.1 ha) hb hab hba) h1 h2 hp
end Go.Proofs.YtehhhkcemmfjpaaGreatDoor.St

/- The reference's Declare. -/
namespace Go.Proofs.YtehhhkcemmfjpaaGreatDoor
open Go Go.Proofs.YtehhhkcemmfjpaaGreatDoor Go.Proofs.YtehhhkcemmfjpaaGreatDoor.St

/-- append([]T{}, X...), where []T{} lies at k. -/
theorem copyRow {α : Type} {L : Lay α} {P : Program} {t ty e : TypeId} (ho : laidOk P t e L.s = true) {w : World} {k : Nat} (hk : w.heap[k]? = some (.cells #[] e (0, 0))) {a : Option Addr} {l c : Nat} {X : List α} (h : Row L e w a l c X) (hl : l ≤ 1000000000) :
    ∃ a' c' w', (Builtin.append_ #[t, t] ty #[.slice (some ⟨k, 0, none⟩) 0 0, .slice a l c]).run P w = .ok (.slice a' l c') w' ∧ Row L e w' a' l c' X ∧ Mod (on k) w w' ∧ (∀ j, rowB a' j → j = k ∨ w.heap.size ≤ j) := by
  have hr : Row L e w (some ⟨k, 0, none⟩) 0 0 [] := Row.lit L hk [] rfl (Nat.zero_le _)
  obtain ⟨a', c', w', h1, h2, h3, h4⟩ := hr.push (P := P) (t := t) (ty := ty) ho h.len.1 h.all.1 h.all.2 (by omega)
  rw [Nat.zero_add] at h1 h2
  exact ⟨a', c', w', h1, h2, h3.mono fun j _ hj => (by cases hj; rfl), fun j hj => (h4 j hj).imp (fun hj => by cases hj; rfl) id⟩
theorem St.Rx.name {w : World} {a : Option Addr} {l c : Nat} {X : List Exc} (h : Rx excL 33 w a l c X) {i : Nat} (hi : i < l) {K : ByteArray → Prop} (hk : K (at0 X i).n) :
    ∃ ad : Addr, a = some ad ∧ (0 : Int) ≤ (i : Int) ∧ (i : Int) < (↑l : Int) ∧ ∃ s : ByteArray, w.cell? (Addr.add (Addr.add ad (Int.toNat (i : Int) * 3)) 0) = some (.string s) ∧ K s := by
  have hil := h.lt hi
  obtain ⟨g, rfl, hc⟩ := Row.getS h hil (s := 3) rfl
  rw [at0_eq hil] at hk
  rw [Int.toNat_natCast]
  exact ⟨_, rfl, by omega, by omega, _, hc 0 _ rfl, hk⟩
theorem at0_mid {α : Type} [Inhabited α] (P S : List α) (a : α) {i : Nat} (hi : P.length = i) : at0 (P ++ a :: S) i = a := by
  subst hi
  rw [at0_eq (by simp)]
  simp
theorem at0_mid1 {α : Type} [Inhabited α] (P S : List α) (a b : α) {i : Nat} (hi : P.length + 1 = i) : at0 (P ++ a :: b :: S) i = b := by
  subst hi
  rw [at0_eq (by simp)]
  simp
def AddedX (x : Exc) (X X' : List Exc) : Prop := if goodX x && (findX x.n X).isNone && decide (X.length < 8) then Inb x X X' else X' = X
theorem declareR_ok {w : World} {r : Nat} {X : List Exc} {B : List Bnd} (hR : RTb w r X B) (x : Exc) (hl : X.length < 1000000000) (R : Value → World → Prop)
    (h : ∀ w' X', AddedX x X X' → RTb w' r X' B → Mod (on r) w w' → R (.int .i64 (declR x X)) w') :
    Ca Tryz.prog 36 #[.pointer (some ⟨r, 0, none⟩), .agg ⟨x.cs⟩] w R := by
  refine (ca36 (some ⟨r, 0, none⟩) x.n x.k x.f w R ?_ : Ca _ _ _ _ _)
  intro w0 e0
  have m0 : Mod no w w0 := by subst e0; exact Mod.alloc _ _
  have b0 : Xc w0 w.heap.size x := by subst e0; exact new_at _ _
  clear e0
  refine ⟨_, by rw [cl1 b0]; rfl, _, by rw [cl1 b0]; rfl, _, by rw [cl1 b0]; rfl, ?_⟩
  refine (goodR_ok x w0 _ fun w5 m5 => ?_ : Ca _ _ _ _ _)
  refine ⟨_, rfl, ?_⟩
  have m05 := m0.trans m5
  have same : ∀ w', Mod no w w' → ¬ (goodX x && (findX x.n X).isNone && decide (X.length < 8)) = true → R (.int .i64 (declR x X)) w' := fun w' m hc => h w' X (by rw [AddedX, if_neg hc]) (hR.no m) m.of_no
  refine ifK_of (fun hg => ?_) (fun hg => ?_)
  · have hg : goodX x = false := by simpa using hg
    have h' := same w5 m05 (by rw [hg]; simp)
    rw [declR, hg] at h'
    exact h'
  have hg : goodX x = true := by simpa using hg
  have b5 := m5.at' b0
  have hR5 := hR.no m05
  refine ⟨fun p b w' => ∃ k, p = some ⟨k, 0, none⟩ ∧ Xc w' k (fx x.n X) ∧ b = hx x.n X ∧ Mod no w w' ∧ Xc w' w.heap.size x, ?_, ?_⟩
  · refine ⟨_, by rw [cl1 b5]; rfl, findR_ok hR5 x.n hl _ fun w10 m10 => ⟨_, _, _, _, rfl, ?_⟩⟩
    intro w15 e0
    have m15 : Mod no w10 w15 := by subst e0; exact Mod.alloc _ _
    have b15 : Xc w15 w10.heap.size exc0 := by subst e0; exact new_at _ _
    clear e0
    refine put3 b15 fun w21 m21 b21 => ⟨_, rfl, b21, rfl, ?_⟩
    have m1021 : Mod no w10 w21 := m15.new m21 fun k hk => by cases hk; exact Nat.le_refl _
    exact ⟨(m05.trans m10).trans m1021, m1021.at' (m10.at' b5)⟩
  rintro _ _ _ w25 ⟨k, rfl, bk, rfl, m25, b25⟩
  cases hf : findX x.n X with
  | some y =>
    have hb : hx x.n X = true := by rw [hx, hf]; rfl
    have hy : fx x.n X = y := by rw [fx, hf]; rfl
    rw [hb]
    rw [hy] at bk
    refine ifK_of (fun _ => ?_) fun h => by cases h
    refine ⟨_, by rw [cl1 b25]; rfl, _, by rw [cl1 b25]; rfl, _, by rw [cl1 b25]; rfl, _, by rw [cl1 bk]; rfl, _, by rw [cl1 bk]; rfl, _, by rw [cl1 bk]; rfl, ?_⟩
    have h' := same w25 m25 (by rw [hf]; simp)
    rw [declR, hg, hf] at h'
    simp only [if_true] at h'
    refine eqA_agg exc_s.guard (exc_s.eq x y) (ifK_not (fun he => ?_) (fun he => ?_))
    · rw [if_neg (fun e => of_decide_eq_false he e.symm)] at h'; exact h'
    · rw [if_pos (of_decide_eq_true he).symm] at h'; exact h'
  | none =>
  have hb : hx x.n X = false := by rw [hx, hf]; rfl
  rw [hb]
  refine ifK_of (fun h => by cases h) fun _ => ?_
  have hR25 := hR.no m25
  obtain ⟨a, l, c, a', l', c', h1, h2, h3, h4, h5⟩ := hR25.ex
  have hxl := h2.len.1
  have hrlt : r < w.heap.size := by obtain ⟨_, _, _, _, _, _, hh, _⟩ := hR.ex; exact lt_of_heap hh
  refine ⟨a, l, c, by rw [cl1 h1]; rfl, ifK_dec (fun hge => ?_) (fun hlt => ?_)⟩
  · have h' := same w25 m25 (by rw [decide_eq_false (show ¬ X.length < 8 by omega)]; simp)
    rw [declR, hg, hf] at h'
    simp only [if_true] at h'
    rw [if_pos (by omega)] at h'
    exact h'
  have hlt : l < 8 := by omega
  have g0 := m25.size
  have hok : laidOk Tryz.prog 26 33 excL.s = true := by kernel_rfl
  refine ⟨fun p q s w' => Rx excL 33 w' p q s (X ++ [x]) ∧ Mod no w25 w' ∧ (∀ k, rowB p k → w25.heap.size ≤ k), ?_, ?_⟩
  · intro w40 e0
    have m40 : Mod no w25 w40 := by subst e0; exact Mod.drew _
    clear e0
    have b40 := m40.at' b25
    have h1 := m40.at' h1
    have h40 := h1
    have g1 := m40.size
    have h2 := h2.no m40
    refine ⟨a, l, c, by rw [cl1 h1]; rfl, _, by rw [cl1 b40]; rfl, _, by rw [cl1 b40]; rfl, _, by rw [cl1 b40]; rfl, ⟨?_, ?_⟩⟩
    · intro w48 e0
      have m48 : Mod no w40 w48 := by subst e0; exact Mod.alloc _ _
      have e48 : w48.heap[w40.heap.size]? = some (.cells #[] 33 (0, 0)) := by subst e0; exact new_at _ _
      clear e0
      have h1 := m48.at' h1
      have b48 := m48.at' b40
      have g2 := m48.size
      have h2 := h2.no m48
      have l48 := lt_of_heap e48
      refine ⟨by rw [cl2 h1]; rfl, by rw [cl1 b48]; rfl, by rw [cl1 b48]; rfl, by rw [cl1 b48]; rfl, ⟨?_, ?_⟩⟩
      · obtain ⟨p, c2, w50, hr, x50, m50, n50⟩ := copyRow (L := excL) (P := Tryz.prog) (ty := 26) hok e48 h2 (by omega)
        have n4050 : Mod no w40 w50 := m48.new m50 fun k hk => by cases hk; exact Nat.le_refl _
        have b50 := n4050.at' b40
        have g3 := m50.size
        refine ⟨_, w50, hr, _, _, _, rfl, by rw [cl1 b50]; rfl, by rw [cl1 b50]; rfl, by rw [cl1 b50]; rfl, ?_⟩
        intro w54 e0
        have m54 : Mod no w50 w54 := by subst e0; exact Mod.alloc _ _
        have b54 : Xc w54 w50.heap.size x := by subst e0; exact new_at _ _
        clear e0
        have h1 := (n4050.trans m54).at' h40
        obtain ⟨p2, c3, w56, hr, x56, m56, n56⟩ := pushX (Rx.no x50 m54) b54 (by omega)
        have g4 := m54.size
        refine ⟨by rw [cl2 h1]; rfl, _, w56, hr, _, _, _, rfl, x56, ?_, ?_⟩
        · exact ((m40.trans n4050).trans m54).new m56 fun k hk => by have := n50 k hk; omega
        · intro k hk
          rcases n56 k hk with hk | hk
          · have := n50 k hk; omega
          · omega
      · intro w60 e0
        have m60 : Mod no w48 w60 := by subst e0; exact Mod.alloc _ _
        have b60 : Xc w60 w48.heap.size x := by subst e0; exact new_at _ _
        clear e0
        have h1 := m60.at' h1
        have g3 := m60.size
        obtain ⟨p, c2, w62, hr, x62, m62, n62⟩ := copyRow (L := excL) (P := Tryz.prog) (ty := 26) hok (m60.at' e48) (h2.no m60) (by omega)
        have n4062 : Mod no w40 w62 := (m48.trans m60).new m62 fun k hk => by cases hk; exact Nat.le_refl _
        have b62 := n4062.at' b40
        have g4 := m62.size
        have x' := m62.at b60 (fun hS => by have : w48.heap.size = w40.heap.size := hS; omega)
        obtain ⟨p2, c3, w67, hr2, x67, m67, n67⟩ := pushX x62 x' (by omega)
        refine ⟨by rw [cl2 h1]; rfl, _, w62, hr, _, _, _, rfl, by rw [cl1 b62]; rfl, by rw [cl1 b62]; rfl, by rw [cl1 b62]; rfl, _, w67, hr2, _, _, _, rfl, x67, ?_, ?_⟩
        · exact (m40.trans n4062).new m67 fun k hk => by have := n62 k hk; omega
        · intro k hk
          rcases n67 k hk with hk | hk
          · have := n62 k hk; omega
          · omega
    · intro w71 e0
      have m71 : Mod no w40 w71 := by subst e0; exact Mod.alloc _ _
      have b71 : Xc w71 w40.heap.size x := by subst e0; exact new_at _ _
      clear e0
      have h1 := m71.at' h1
      refine ⟨by rw [cl2 h1]; rfl, ?_⟩
      intro w72 e0
      have m72 : Mod no w71 w72 := by subst e0; exact Mod.alloc _ _
      have e72 : w72.heap[w71.heap.size]? = some (.cells #[] 33 (0, 0)) := by subst e0; exact new_at _ _
      clear e0
      have h1 := m72.at' h1
      have m4072 := m71.trans m72
      have b72 := m4072.at' b40
      have g2 := m71.size
      have g3 := m72.size
      have l71 := lt_of_heap b71
      obtain ⟨p, c2, w74, hr, x74, m74, n74⟩ := copyRow (L := excL) (P := Tryz.prog) (ty := 26) hok e72 (h2.no m4072) (by omega)
      have n4074 : Mod no w40 w74 := m4072.new m74 fun k hk => by cases hk; exact g2
      have b74 := n4074.at' b40
      have g4 := m74.size
      have x' := m74.at (m72.at' b71) (fun hS => by have : w40.heap.size = w71.heap.size := hS; omega)
      obtain ⟨p2, c3, w79, hr2, x79, m79, n79⟩ := pushX x74 x' (by omega)
      refine ⟨by rw [cl2 h1]; rfl, by rw [cl1 b72]; rfl, by rw [cl1 b72]; rfl, by rw [cl1 b72]; rfl, _, w74, hr, _, _, _, rfl, by rw [cl1 b74]; rfl, by rw [cl1 b74]; rfl, by rw [cl1 b74]; rfl, _, w79, hr2, _, _, _, rfl, x79, ?_, ?_⟩
      · exact (m40.trans n4074).new m79 fun k hk => by have := n74 k hk; omega
      · intro k hk
        rcases n79 k hk with hk | hk
        · have := n74 k hk; omega
        · omega
  rintro _ p q s w87 ⟨x87, m87, n87⟩
  have hql := x87.len.1
  rw [List.length_append, List.length_singleton, hxl] at hql
  subst hql
  obtain ⟨g, rfl, _⟩ := Row.get x87 (i := 0) (by simp)
  have hgn := n87 g rfl
  have hcl : IntKind.i64.wrap (((l + 1 : Nat) : Int) - 1) = (l : Int) := by rw [wrap64 (by omega) (by omega)]; omega
  rw [hcl]
  clear hcl
  refine ⟨fun y w' => ∃ i : Nat, y = i ∧ i ≤ l ∧ Rx excL 33 w' (some ⟨g, 0, none⟩) (l + 1) s (X.take i ++ x :: X.drop i) ∧ Mod no w25 w' ∧ ∀ y ∈ X.drop i, x < y, fun y _ => y.toNat,
    ⟨l, rfl, Nat.le_refl _, by rw [List.take_of_length_le (by omega), List.drop_eq_nil_of_le (by omega)]; exact x87, m87, fun y hy => by rw [← hxl, List.drop_length] at hy; cases hy⟩, ?_⟩
  rintro _ _ w92 ⟨i, rfl, hi, x92, m92, hgt⟩
  intro w93 e0
  have m93 : Mod no w92 w93 := by subst e0; exact Mod.drew _
  clear e0
  have x93 := x92.no m93
  have m93' := m92.trans m93
  have done : (∀ j y, j + 1 = i → X[j]? = some y → ¬ x < y) → ∃ v122 : Value, w93.cell? (Addr.add (Addr.add ⟨r, 0, none⟩ 0) 0) = some v122 := fun _ => ⟨_, by rw [cl2 (m93'.at' h1)]; rfl⟩
  have fin : (∀ j y, j + 1 = i → X[j]? = some y → ¬ x < y) → ∀ w', w' = w93.setCell (Addr.add (Addr.add ⟨r, 0, none⟩ 0) 0) (.slice (some ⟨g, 0, none⟩) (l + 1) s) → R (.int .i64 0) w' := by
    intro hmin w' e0
    have h1' := m93'.at' h1
    have mr : Mod (on r) w93 w' := by subst e0; exact Mod.set2 _ _ _ _ _
    have br : w'.heap[r]? = some (.cells #[.slice (some ⟨g, 0, none⟩) (l + 1) s, .slice a' l' c'] 29 (0, 0)) := by subst e0; rw [set2 h1']; rfl
    clear e0
    have h' := h w' (X.take i ++ x :: X.drop i) (by
      rw [AddedX, if_pos (by rw [hg, hf, decide_eq_true (show X.length < 8 by omega)]; rfl)]
      exact ⟨i, by omega, rfl, hgt, hmin⟩)
      ⟨_, _, _, a', l', c', br, x93.mod mr (fun k hk hS => by have e1 := rowB_eq hk; have e2 : k = r := hS; omega), (h3.no m93').mod mr (fun k hk hS => by cases hS; exact h5 hk), fun hk => by have e1 := rowB_eq hk; omega, h5⟩ ((m25.trans m93').no_trans mr)
    rw [declR, hg, hf] at h'
    simp only [if_true] at h'
    rw [if_neg (by omega)] at h'
    exact h'
  have fz : w93.frozen? (Addr.add (Addr.add ⟨r, 0, none⟩ 0) 0) = false := fz2 (m93'.at' h1) _ _
  refine ifK_dec (fun hpos => ?_) (fun hz => ?_)
  · obtain ⟨j, rfl⟩ : ∃ j, i = j + 1 := ⟨i - 1, by omega⟩
    have ej : IntKind.i64.wrap (((j + 1 : Nat) : Int) - 1) = (j : Int) := by rw [wrap64 (by omega) (by omega)]; omega
    rw [ej]
    clear ej
    have hjX : j < X.length := by omega
    have hst := ins_step (x := x) (X := X) (i := j) (by omega)
    rw [hst] at x93
    have hP : (X.take j).length = j := by rw [List.length_take]; omega
    have a1 : at0 (X.take j ++ X[j] :: x :: X.drop (j + 1)) j = X[j] := at0_mid _ _ _ hP
    have a2 : at0 (X.take j ++ X[j] :: x :: X.drop (j + 1)) (j + 1) = x := at0_mid1 _ _ _ _ (by omega)
    refine x93.name (by omega) (x93.name (by omega) ?_)
    rw [a1, a2, lt_bool, toList_beq]
    refine ifK_of (fun hc => ?_) (fun hc => ?_)
    · have hlt : x < X[j] := by
        simp only [Bool.not_eq_true', Bool.or_eq_false_iff, decide_eq_false_iff_not] at hc
        exact Classical.byContradiction fun hn => hc.2 (str_total hc.1 hn)
      intro w98 e0
      have m98 : Mod no w93 w98 := by subst e0; exact Mod.drew _
      clear e0
      have x98 := x93.no m98
      refine x98.cellX (by omega) (x98.cellX (by omega) ?_)
      rw [a1, a2]
      refine ⟨_, rfl, by omega, by omega, ?_⟩
      rw [Int.toNat_natCast]
      refine putAt x98 rfl (by omega) x rfl fun w113 m113 x113 => ?_
      refine ⟨_, rfl, by omega, by omega, ?_⟩
      rw [Int.toNat_natCast]
      refine putAt x113 rfl (by omega) X[j] rfl fun w120 m120 x120 => ?_
      have hsw : ((X.take j ++ X[j] :: x :: X.drop (j + 1)).set j x).set (j + 1) X[j] = X.take j ++ x :: X.drop j := by
        have := swap_mid (X.take j) X[j] x (X.drop (j + 1))
        rw [hP] at this
        rw [this, ← List.drop_eq_getElem_cons hjX]
      rw [hsw] at x120
      refine ⟨⟨j, rfl, by omega, x120, (m93'.trans m98).new (m113.trans m120) fun k hk => by cases hk; exact hgn, fun y hy => ?_⟩, by simp only; omega⟩
      rw [List.drop_eq_getElem_cons hjX] at hy
      rcases List.mem_cons.1 hy with rfl | hy
      · exact hlt
      · exact hgt y hy
    · have hmin : ∀ j' y, j' + 1 = j + 1 → X[j']? = some y → ¬ x < y := by
        intro j' y he hy hlt
        obtain rfl : j' = j := by omega
        rw [List.getElem?_eq_getElem hjX] at hy
        cases hy
        simp only [Bool.not_eq_false', Bool.or_eq_true, decide_eq_true_eq] at hc
        rcases hc with hc | hc
        · exact str_asym hlt hc
        · have hlt : x.n < (X[j']).n := hlt
          rw [hc] at hlt
          exact str_irr _ hlt
      exact ⟨done hmin, fz, fin hmin⟩
  · have hmin : ∀ j y, j + 1 = i → X[j]? = some y → ¬ x < y := fun j y he => by omega
    exact ⟨done hmin, fz, fin hmin⟩
end Go.Proofs.YtehhhkcemmfjpaaGreatDoor

/- The formulas of functions, printed by a program of mine (gen.py) out of the translation. -/
namespace Go.Proofs.YtehhhkcemmfjpaaGreatDoor
open Go Go.Proofs.YtehhhkcemmfjpaaGreatDoor.St
open _root_.Go.Value (string int bool slice pointer agg tuple map func nilFunc iface)
open _root_.Go.World (cell? frozen? setCell alloc drew)
open _root_.Go.Addr (add)
open _root_.Go.Obj (cells)
open _root_.Go.IntKind (wrap i64 u64 i32 u32 u8)
set_option maxRecDepth 100000

/-- (*staith/staithref07.Table).Bind -/
noncomputable def C39 : Code := (Tryz.f39.body).getD .skip
def pl39 : Nat → Plan
  | 12 => (.quiet 1 (.quiet 2 (.quiet 3 (.quiet 4 (.quiet 6 (.fork (.eff 0 [4, 6] (.fork (.eff 5 [6] (.eff 7 [4] (.eff 8 [] (.quiet 9 .done)))) (.eff 7 [4] (.eff 5 [6] (.eff 8 [] (.quiet 9 .done)))))) (.eff 7 [4] (.eff 0 [4, 6] (.eff 5 [6] (.eff 8 [] (.quiet 9 .done)))))))))))
  | 14 => (.quiet 0 (.quiet 1 (.quiet 2 (.quiet 3 (.quiet 4 (.quiet 5 (.quiet 6 (.quiet 7 (.quiet 8 (.quiet 9 (.quiet 10 (.quiet 11 (.eff 12 [] (.quiet 13 .done))))))))))))))
  | 16 => (.quiet 0 (.quiet 1 (.quiet 2 (.quiet 3 (.quiet 4 (.quiet 5 (.quiet 6 (.quiet 7 (.quiet 8 (.quiet 9 (.quiet 10 (.quiet 11 (.quiet 12 (.quiet 13 (.quiet 14 (.eff 15 [] (.quiet 16 (.eff 17 [] .done))))))))))))))))))
  | _ => .done
def ls39 : Nat → List (Nat × LT)
  | 4 => [(0, .agg []), (5, (.one .ptr)), (6, (.one .bool))]
  | 5 => [(0, .agg [])]
  | 14 => [(0, .agg []), (7, (.one .slice))]
  | 17 => [(8, (.one (.int .i64)))]
  | _ => []
def W39 (t : Option Addr) (b0_ : ByteArray) (b1_ : ByteArray) (b2_ : ByteArray) (w : World) (R : Value → World → Prop) : Prop :=
  (atW (alloc w (cells (Array.mk [string b0_, string b1_, string b2_]) 35 (0, 0))) (fun w0 =>
(∃ s1 : ByteArray, ((cell? w0 (add (nw w) 1) = some (string s1)) ∧ (Ca Tryz.prog (71) (Array.mk [string s1]) (w0) (fun v2 => (fun w3 =>
(∃ b4 : Bool, ((v2 = bool b4) ∧ (ifK (!b4)
(R (int i64 2) (w3))
(∃ z5 : Option Addr → Bool → World → Prop, ((∃ s6 : ByteArray, ((cell? w3 (add (nw w) 0) = some (string s6)) ∧ (Ca Tryz.prog (43) (Array.mk [pointer t, string s6]) (w3) (fun v7 => (fun w8 =>
(∃ s9 : ByteArray, (∃ x10 : Int, (∃ b11 : Bool, (∃ b12 : Bool, ((v7 = tuple (Array.mk (List.reverse [bool b12, agg (Array.mk (List.reverse [bool b11, int i64 x10, string s9]))]))) ∧ (atW (alloc w8 (cells (Array.mk [string (ByteArray.mk #[]), int i64 0, bool false]) 33 (0, 0))) (fun w13 =>
(st1 (add (nw w8) 0) (string s9) w13 (fun w15 =>
(st1 (add (nw w8) 1) (int i64 x10) w15 (fun w17 =>
(st1 (add (nw w8) 2) (bool b11) w17 (fun w19 =>
(z5 (some (nw w8)) (b12) (w19)))))))))))))))))))) ∧ (∀ (_ : Nat → Value), (∀ (p21 : Option Addr), (∀ (b22 : Bool), (∀ (w23 : World), ((z5 (p21) (b22) (w23)) → (∃ z24 : World → Prop, ((ifK (!b22)
(R (int i64 3) (w23))
(onP (p21) (fun a25 =>
(∃ x26 : Int, ((cell? w23 (add a25 1) = some (int i64 x26)) ∧ (∃ s27 : ByteArray, ((cell? w23 (add (nw w) 2) = some (string s27)) ∧ (Ca Tryz.prog (72) (Array.mk [int i64 x26, string s27]) (w23) (fun v28 => (fun w29 =>
(∃ b30 : Bool, ((v28 = bool b30) ∧ (ifK (!b30)
(R (int i64 2) (w29))
(∃ s31 : ByteArray, ((cell? w29 (add (nw w) 0) = some (string s31)) ∧ (∃ s32 : ByteArray, ((cell? w29 (add (nw w) 1) = some (string s32)) ∧ (∃ s33 : ByteArray, ((cell? w29 (add (nw w) 2) = some (string s33)) ∧ (Ca Tryz.prog (20) (Array.mk [pointer t, agg (Array.mk (List.reverse [string s33, string s32, string s31]))]) (w29) (fun v34 => (fun w35 =>
(∃ b36 : Bool, ((v34 = bool b36) ∧ (ifK (b36)
(R (int i64 0) (w35))
(onP (t) (fun a37 =>
(∃ p38 : Option Addr, (∃ n39 : Nat, (∃ n40 : Nat, ((cell? w35 (add a37 1) = some (slice p38 n39 n40)) ∧ (ifK (decide ((↑n39 : Int) ≥ 32))
(R (int i64 5) (w35))
(z24 (w35)))))))))))))))))))))))))))))))))) ∧ (∀ (_ : Nat → Value), (∀ (w42 : World), ((z24 (w42)) → (∃ z43 : Option Addr → Nat → Nat → World → Prop, ((atW (drew w42) (fun w44 =>
(onP (t) (fun a45 =>
(∃ p46 : Option Addr, (∃ n47 : Nat, (∃ n48 : Nat, ((cell? w44 (add a45 1) = some (slice p46 n47 n48)) ∧ (∃ s49 : ByteArray, ((cell? w44 (add (nw w) 0) = some (string s49)) ∧ (∃ s50 : ByteArray, ((cell? w44 (add (nw w) 1) = some (string s50)) ∧ (∃ s51 : ByteArray, ((cell? w44 (add (nw w) 2) = some (string s51)) ∧ ((atW (alloc w44 (cells (Array.mk []) 35 (0, 0))) (fun w52 =>
((cell? w52 (add (add a45 1) 0) = some (slice p46 n47 n48)) ∧ ((cell? w52 (add (nw w) 0) = some (string s49)) ∧ ((cell? w52 (add (nw w) 1) = some (string s50)) ∧ ((cell? w52 (add (nw w) 2) = some (string s51)) ∧ ((∃ v53 : Value, (∃ w54 : World, ((Sem.run Tryz.prog (Builtin.append_ (Array.mk [27, 27]) 27 (Array.mk [slice (some (nw w44)) 0 0, slice p46 n47 n48])) w52 = Result.ok v53 w54) ∧ (∃ p55 : Option Addr, (∃ n56 : Nat, (∃ n57 : Nat, ((v53 = slice p55 n56 n57) ∧ ((cell? w54 (add (nw w) 0) = some (string s49)) ∧ ((cell? w54 (add (nw w) 1) = some (string s50)) ∧ ((cell? w54 (add (nw w) 2) = some (string s51)) ∧ (atW (alloc w54 (cells (Array.mk [string s49, string s50, string s51]) 35 (0, 0))) (fun w58 =>
((cell? w58 (add (add a45 1) 0) = some (slice p46 n47 n48)) ∧ (∃ v59 : Value, (∃ w60 : World, ((Sem.run Tryz.prog (Builtin.append_ (Array.mk [27, 27]) 27 (Array.mk [slice p55 n56 n57, slice (some (nw w54)) 1 1])) w58 = Result.ok v59 w60) ∧ (∃ p61 : Option Addr, (∃ n62 : Nat, (∃ n63 : Nat, ((v59 = slice p61 n62 n63) ∧ (z43 (p61) (n62) (n63) (w60)))))))))))))))))))))) ∧ (atW (alloc w52 (cells (Array.mk [string s49, string s50, string s51]) 35 (0, 0))) (fun w64 =>
((cell? w64 (add (add a45 1) 0) = some (slice p46 n47 n48)) ∧ (∃ v65 : Value, (∃ w66 : World, ((Sem.run Tryz.prog (Builtin.append_ (Array.mk [27, 27]) 27 (Array.mk [slice (some (nw w44)) 0 0, slice p46 n47 n48])) w64 = Result.ok v65 w66) ∧ (∃ p67 : Option Addr, (∃ n68 : Nat, (∃ n69 : Nat, ((v65 = slice p67 n68 n69) ∧ ((cell? w66 (add (nw w) 0) = some (string s49)) ∧ ((cell? w66 (add (nw w) 1) = some (string s50)) ∧ ((cell? w66 (add (nw w) 2) = some (string s51)) ∧ (∃ v70 : Value, (∃ w71 : World, ((Sem.run Tryz.prog (Builtin.append_ (Array.mk [27, 27]) 27 (Array.mk [slice p67 n68 n69, slice (some (nw w52)) 1 1])) w66 = Result.ok v70 w71) ∧ (∃ p72 : Option Addr, (∃ n73 : Nat, (∃ n74 : Nat, ((v70 = slice p72 n73 n74) ∧ (z43 (p72) (n73) (n74) (w71))))))))))))))))))))))))))))) ∧ (atW (alloc w44 (cells (Array.mk [string s49, string s50, string s51]) 35 (0, 0))) (fun w75 =>
((cell? w75 (add (add a45 1) 0) = some (slice p46 n47 n48)) ∧ (atW (alloc w75 (cells (Array.mk []) 35 (0, 0))) (fun w76 =>
((cell? w76 (add (add a45 1) 0) = some (slice p46 n47 n48)) ∧ ((cell? w76 (add (nw w) 0) = some (string s49)) ∧ ((cell? w76 (add (nw w) 1) = some (string s50)) ∧ ((cell? w76 (add (nw w) 2) = some (string s51)) ∧ (∃ v77 : Value, (∃ w78 : World, ((Sem.run Tryz.prog (Builtin.append_ (Array.mk [27, 27]) 27 (Array.mk [slice (some (nw w75)) 0 0, slice p46 n47 n48])) w76 = Result.ok v77 w78) ∧ (∃ p79 : Option Addr, (∃ n80 : Nat, (∃ n81 : Nat, ((v77 = slice p79 n80 n81) ∧ ((cell? w78 (add (nw w) 0) = some (string s49)) ∧ ((cell? w78 (add (nw w) 1) = some (string s50)) ∧ ((cell? w78 (add (nw w) 2) = some (string s51)) ∧ (∃ v82 : Value, (∃ w83 : World, ((Sem.run Tryz.prog (Builtin.append_ (Array.mk [27, 27]) 27 (Array.mk [slice p79 n80 n81, slice (some (nw w44)) 1 1])) w78 = Result.ok v82 w83) ∧ (∃ p84 : Option Addr, (∃ n85 : Nat, (∃ n86 : Nat, ((v82 = slice p84 n85 n86) ∧ (z43 (p84) (n85) (n86) (w83))))))))))))))))))))))))))))))))))))))))))) ∧ (∀ (_ : Nat → Value), (∀ (p88 : Option Addr), (∀ (n89 : Nat), (∀ (n90 : Nat), (∀ (w91 : World), ((z43 (p88) (n89) (n90) (w91)) → (∃ z92 : Int → World → Prop, (∃ z93 : Int → World → Nat, ((z92 (wrap i64 ((↑n89 : Int) - 1)) (w91)) ∧ (∀ (_ : Nat → Value), (∀ (x95 : Int), (∀ (w96 : World), ((z92 (x95) (w96)) → (atW (drew w96) (fun w97 =>
(ifK (decide (x95 > 0))
(∃ a98 : Addr, ((p88 = some a98) ∧ (((0 : Int) ≤ x95) ∧ (((x95 : Int) < (↑n89 : Int)) ∧ (∃ s99 : ByteArray, ((cell? w97 (add (add a98 (Int.toNat x95 * 3)) 0) = some (string s99)) ∧ (∃ s100 : ByteArray, ((cell? w97 (add (add a98 (Int.toNat x95 * 3)) 1) = some (string s100)) ∧ (∃ s101 : ByteArray, ((cell? w97 (add (add a98 (Int.toNat x95 * 3)) 2) = some (string s101)) ∧ (∃ a102 : Addr, ((p88 = some a102) ∧ (((0 : Int) ≤ wrap i64 (x95 - 1)) ∧ (((wrap i64 (x95 - 1) : Int) < (↑n89 : Int)) ∧ (∃ s103 : ByteArray, ((cell? w97 (add (add a102 (Int.toNat (wrap i64 (x95 - 1)) * 3)) 0) = some (string s103)) ∧ (∃ s104 : ByteArray, ((cell? w97 (add (add a102 (Int.toNat (wrap i64 (x95 - 1)) * 3)) 1) = some (string s104)) ∧ (∃ s105 : ByteArray, ((cell? w97 (add (add a102 (Int.toNat (wrap i64 (x95 - 1)) * 3)) 2) = some (string s105)) ∧ (Ca Tryz.prog (73) (Array.mk [agg (Array.mk (List.reverse [string s101, string s100, string s99])), agg (Array.mk (List.reverse [string s105, string s104, string s103]))]) (w97) (fun v106 => (fun w107 =>
(∃ b108 : Bool, ((v106 = bool b108) ∧ (ifK (b108)
(atW (drew w107) (fun w109 =>
(∃ a110 : Addr, ((p88 = some a110) ∧ (((0 : Int) ≤ x95) ∧ (((x95 : Int) < (↑n89 : Int)) ∧ (∃ s111 : ByteArray, ((cell? w109 (add (add a110 (Int.toNat x95 * 3)) 0) = some (string s111)) ∧ (∃ s112 : ByteArray, ((cell? w109 (add (add a110 (Int.toNat x95 * 3)) 1) = some (string s112)) ∧ (∃ s113 : ByteArray, ((cell? w109 (add (add a110 (Int.toNat x95 * 3)) 2) = some (string s113)) ∧ (∃ a114 : Addr, ((p88 = some a114) ∧ (((0 : Int) ≤ wrap i64 (x95 - 1)) ∧ (((wrap i64 (x95 - 1) : Int) < (↑n89 : Int)) ∧ (∃ s115 : ByteArray, ((cell? w109 (add (add a114 (Int.toNat (wrap i64 (x95 - 1)) * 3)) 0) = some (string s115)) ∧ (∃ s116 : ByteArray, ((cell? w109 (add (add a114 (Int.toNat (wrap i64 (x95 - 1)) * 3)) 1) = some (string s116)) ∧ (∃ s117 : ByteArray, ((cell? w109 (add (add a114 (Int.toNat (wrap i64 (x95 - 1)) * 3)) 2) = some (string s117)) ∧ (∃ a118 : Addr, ((p88 = some a118) ∧ (((0 : Int) ≤ wrap i64 (x95 - 1)) ∧ (((wrap i64 (x95 - 1) : Int) < (↑n89 : Int)) ∧ (st1 (add (add a118 (Int.toNat (wrap i64 (x95 - 1)) * 3)) 0) (string s111) w109 (fun w120 =>
(st1 (add (add a118 (Int.toNat (wrap i64 (x95 - 1)) * 3)) 1) (string s112) w120 (fun w122 =>
(st1 (add (add a118 (Int.toNat (wrap i64 (x95 - 1)) * 3)) 2) (string s113) w122 (fun w124 =>
(∃ a125 : Addr, ((p88 = some a125) ∧ (((0 : Int) ≤ x95) ∧ (((x95 : Int) < (↑n89 : Int)) ∧ (st1 (add (add a125 (Int.toNat x95 * 3)) 0) (string s115) w124 (fun w127 =>
(st1 (add (add a125 (Int.toNat x95 * 3)) 1) (string s116) w127 (fun w129 =>
(st1 (add (add a125 (Int.toNat x95 * 3)) 2) (string s117) w129 (fun w131 =>
((z92 (wrap i64 (x95 - 1)) (w131)) ∧ (z93 (wrap i64 (x95 - 1)) w131 < z93 x95 w96))))))))))))))))))))))))))))))))))))))))))))
(onP (t) (fun a132 =>
(st1 (add (add a132 1) 0) (slice p88 n89 n90) w107 (fun w134 =>
(R (int i64 0) (w134))))))))))))))))))))))))))))))))
(onP (t) (fun a135 =>
(st1 (add (add a135 1) 0) (slice p88 n89 n90) w97 (fun w137 =>
(R (int i64 0) (w137))))))))))))))))))))))))))))))))))))))))))))))
theorem ca39 (t : Option Addr) (b0_ : ByteArray) (b1_ : ByteArray) (b2_ : ByteArray) (w : World) (R : Value → World → Prop) (h : W39 t b0_ b1_ b2_ w R) : Ca Tryz.prog 39 ⟨[(.pointer t), (.agg ⟨[(.string b0_), (.string b1_), (.string b2_)]⟩)]⟩ w R :=
  caB (fn := Tryz.f39) (pl := pl39) (ls := ls39) Tryz.func39 (by kernel_rfl) (by kernel_rfl) h

/-- staith/staithlaw07.light -/
noncomputable def C11 : Code := (Tryz.f11.body).getD .skip
def pl11 : Nat → Plan := fun _ => .done
def ls11 : Nat → List (Nat × LT)
  | 4 => [(3, (.one (.int .i64))), (8, (.one (.int .i64)))]
  | _ => []
def W11 (actsa : Option Addr) (actsl : Nat) (_actsc : Nat) (w : World) (R : Value → World → Prop) : Prop :=
  (∃ z0 : Int → Int → World → Prop, (∃ z1 : Int → Int → World → Nat, ((z0 (0) (0) (w)) ∧ (∀ (_ : Nat → Value), (∀ (x3 : Int), (∀ (x4 : Int), (∀ (w5 : World), ((z0 (x3) (x4) (w5)) → (ifK (decide (x4 < (↑actsl : Int)))
(∃ a6 : Addr, ((actsa = some a6) ∧ (((0 : Int) ≤ x4) ∧ (((x4 : Int) < (↑actsl : Int)) ∧ (∃ x7 : Int, ((cell? w5 (add (add a6 (Int.toNat x4 * 7)) 0) = some (int i64 x7)) ∧ (∃ s8 : ByteArray, ((cell? w5 (add (add a6 (Int.toNat x4 * 7)) 1) = some (string s8)) ∧ (∃ x9 : Int, ((cell? w5 (add (add a6 (Int.toNat x4 * 7)) 2) = some (int i64 x9)) ∧ (∃ b10 : Bool, ((cell? w5 (add (add a6 (Int.toNat x4 * 7)) 3) = some (bool b10)) ∧ (∃ s11 : ByteArray, ((cell? w5 (add (add a6 (Int.toNat x4 * 7)) 4) = some (string s11)) ∧ (∃ s12 : ByteArray, ((cell? w5 (add (add a6 (Int.toNat x4 * 7)) 5) = some (string s12)) ∧ (∃ s13 : ByteArray, ((cell? w5 (add (add a6 (Int.toNat x4 * 7)) 6) = some (string s13)) ∧ (atW (alloc w5 (cells (Array.mk [int i64 0, string (ByteArray.mk #[]), int i64 0, bool false, string (ByteArray.mk #[]), string (ByteArray.mk #[]), string (ByteArray.mk #[])]) 37 (0, 0))) (fun w14 =>
(st1 (add (nw w5) 0) (int i64 x7) w14 (fun w16 =>
(st1 (add (nw w5) 1) (string s8) w16 (fun w18 =>
(st1 (add (nw w5) 2) (int i64 x9) w18 (fun w20 =>
(st1 (add (nw w5) 3) (bool b10) w20 (fun w22 =>
(st1 (add (nw w5) 4) (string s11) w22 (fun w24 =>
(st1 (add (nw w5) 5) (string s12) w24 (fun w26 =>
(st1 (add (nw w5) 6) (string s13) w26 (fun w28 =>
(∃ s29 : ByteArray, ((cell? w28 (add (add (nw w5) 1) 0) = some (string s29)) ∧ (∃ s30 : ByteArray, ((cell? w28 (add (add (nw w5) 4) 0) = some (string s30)) ∧ (∃ s31 : ByteArray, ((cell? w28 (add (add (nw w5) 4) 1) = some (string s31)) ∧ (∃ s32 : ByteArray, ((cell? w28 (add (add (nw w5) 4) 2) = some (string s32)) ∧ (((100 : Int) ≠ 0) ∧ (ifK (decide (wrap i64 (x3 + wrap i64 (1 + wrap i64 (Int.tdiv (wrap i64 (wrap i64 (wrap i64 ((↑(ByteArray.size s29) : Int) + (↑(ByteArray.size s30) : Int)) + (↑(ByteArray.size s31) : Int)) + (↑(ByteArray.size s32) : Int))) 100))) > 300))
(R (bool false) (w28))
((z0 (wrap i64 (x3 + wrap i64 (1 + wrap i64 (Int.tdiv (wrap i64 (wrap i64 (wrap i64 ((↑(ByteArray.size s29) : Int) + (↑(ByteArray.size s30) : Int)) + (↑(ByteArray.size s31) : Int)) + (↑(ByteArray.size s32) : Int))) 100)))) (wrap i64 (x4 + 1)) (w28)) ∧ (z1 (wrap i64 (x3 + wrap i64 (1 + wrap i64 (Int.tdiv (wrap i64 (wrap i64 (wrap i64 ((↑(ByteArray.size s29) : Int) + (↑(ByteArray.size s30) : Int)) + (↑(ByteArray.size s31) : Int)) + (↑(ByteArray.size s32) : Int))) 100)))) (wrap i64 (x4 + 1)) w28 < z1 x3 x4 w5))))))))))))))))))))))))))))))))))))))))))))))
(R (bool true) (w5)))))))))))
theorem ca11 (actsa : Option Addr) (actsl : Nat) (actsc : Nat) (w : World) (R : Value → World → Prop) (h : W11 actsa actsl actsc w R) : Ca Tryz.prog 11 ⟨[(.slice actsa actsl actsc)]⟩ w R :=
  caB (fn := Tryz.f11) (pl := pl11) (ls := ls11) Tryz.func11 (by kernel_rfl) (by kernel_rfl) h

/-- staith/staithlaw07.act -/
noncomputable def C13 : Code := (Tryz.f13.body).getD .skip
def pl13 : Nat → Plan
  | 3 => (.quiet 0 (.quiet 1 (.quiet 2 (.quiet 4 (.quiet 5 (.quiet 6 (.eff 3 [6] (.eff 7 [] (.quiet 8 (.quiet 9 (.quiet 10 (.quiet 11 (.quiet 13 (.quiet 14 (.eff 12 [14] (.eff 15 [] (.quiet 16 (.quiet 17 (.quiet 18 .done)))))))))))))))))))
  | 5 => (.quiet 0 (.quiet 1 (.quiet 2 (.quiet 3 (.quiet 5 (.quiet 6 (.quiet 7 (.quiet 8 (.eff 4 [8] (.eff 9 [] (.quiet 10 (.quiet 11 .done))))))))))))
  | 7 => (.quiet 0 (.quiet 1 (.quiet 2 (.quiet 4 (.quiet 5 (.quiet 6 (.eff 3 [6] (.eff 7 [] (.quiet 8 (.quiet 9 .done))))))))))
  | 9 => (.quiet 0 (.quiet 1 (.quiet 2 (.quiet 4 (.quiet 5 (.quiet 6 (.eff 3 [6] (.eff 7 [] (.quiet 8 (.quiet 9 .done))))))))))
  | 11 => (.quiet 0 (.quiet 1 (.quiet 2 (.quiet 3 (.quiet 5 (.quiet 6 (.quiet 7 (.quiet 8 (.eff 4 [8] (.eff 9 [] (.quiet 10 (.quiet 11 .done))))))))))))
  | _ => .done
def ls13 : Nat → List (Nat × LT) := fun _ => []
def W13 (t : Option Addr) (r : Option Addr) (a0_ : Int) (a1_ : ByteArray) (a2_ : Int) (a3_ : Bool) (a4_ : ByteArray) (a5_ : ByteArray) (a6_ : ByteArray) (w : World) (R : Value → World → Prop) : Prop :=
  (atW (alloc w (cells (Array.mk [int i64 a0_, string a1_, int i64 a2_, bool a3_, string a4_, string a5_, string a6_]) 37 (0, 0))) (fun w0 =>
(∃ x1 : Int, ((cell? w0 (add (nw w) 0) = some (int i64 x1)) ∧ (ifK (x1 == 0)
(atW (drew w0) (fun w2 =>
(∃ s3 : ByteArray, ((cell? w2 (add (add (nw w) 1) 0) = some (string s3)) ∧ (∃ x4 : Int, ((cell? w2 (add (add (nw w) 1) 1) = some (int i64 x4)) ∧ (∃ b5 : Bool, ((cell? w2 (add (add (nw w) 1) 2) = some (bool b5)) ∧ (∃ s6 : ByteArray, ((cell? w2 (add (add (nw w) 1) 0) = some (string s6)) ∧ (∃ x7 : Int, ((cell? w2 (add (add (nw w) 1) 1) = some (int i64 x7)) ∧ (∃ b8 : Bool, ((cell? w2 (add (add (nw w) 1) 2) = some (bool b8)) ∧ (Ca Tryz.prog (35) (Array.mk [pointer t, agg (Array.mk (List.reverse [bool b5, int i64 x4, string s3]))]) (w2) (fun v9 => (fun w10 =>
(∃ x11 : Int, ((v9 = int i64 x11) ∧ ((cell? w10 (add (add (nw w) 1) 0) = some (string s6)) ∧ ((cell? w10 (add (add (nw w) 1) 1) = some (int i64 x7)) ∧ ((cell? w10 (add (add (nw w) 1) 2) = some (bool b8)) ∧ (Ca Tryz.prog (36) (Array.mk [pointer r, agg (Array.mk (List.reverse [bool b8, int i64 x7, string s6]))]) (w10) (fun v12 => (fun w13 =>
(∃ x14 : Int, ((v12 = int i64 x14) ∧ (ifK (x11 == x14)
(∃ s15 : ByteArray, ((cell? w13 (add (add (nw w) 1) 0) = some (string s15)) ∧ (∃ x16 : Int, ((cell? w13 (add (add (nw w) 1) 1) = some (int i64 x16)) ∧ (∃ b17 : Bool, ((cell? w13 (add (add (nw w) 1) 2) = some (bool b17)) ∧ (∃ s18 : ByteArray, ((cell? w13 (add (add (nw w) 1) 0) = some (string s18)) ∧ (∃ x19 : Int, ((cell? w13 (add (add (nw w) 1) 1) = some (int i64 x19)) ∧ (∃ b20 : Bool, ((cell? w13 (add (add (nw w) 1) 2) = some (bool b20)) ∧ (Ca Tryz.prog (18) (Array.mk [agg (Array.mk (List.reverse [bool b17, int i64 x16, string s15]))]) (w13) (fun v21 => (fun w22 =>
(∃ b23 : Bool, ((v21 = bool b23) ∧ ((cell? w22 (add (add (nw w) 1) 0) = some (string s18)) ∧ ((cell? w22 (add (add (nw w) 1) 1) = some (int i64 x19)) ∧ ((cell? w22 (add (add (nw w) 1) 2) = some (bool b20)) ∧ (Ca Tryz.prog (37) (Array.mk [agg (Array.mk (List.reverse [bool b20, int i64 x19, string s18]))]) (w22) (fun v24 => (fun w25 =>
(∃ b26 : Bool, ((v24 = bool b26) ∧ (R (bool (b23 == b26)) (w25)))))))))))))))))))))))))))
(R (bool false) (w13))))))))))))))))))))))))))))))
(ifK (x1 == 1)
(atW (drew w0) (fun w27 =>
(∃ s28 : ByteArray, ((cell? w27 (add (add (nw w) 1) 0) = some (string s28)) ∧ (∃ s29 : ByteArray, ((cell? w27 (add (add (nw w) 1) 0) = some (string s29)) ∧ (Ca Tryz.prog (23) (Array.mk [pointer t, string s28]) (w27) (fun v30 => (fun w31 =>
(∃ x32 : Int, ((v30 = int i64 x32) ∧ ((cell? w31 (add (add (add (nw w) 1) 0) 0) = some (string s29)) ∧ (Ca Tryz.prog (38) (Array.mk [pointer r, string s29]) (w31) (fun v33 => (fun w34 =>
(∃ x35 : Int, ((v33 = int i64 x35) ∧ (R (bool (x32 == x35)) (w34)))))))))))))))))))
(ifK (x1 == 2)
(atW (drew w0) (fun w36 =>
(∃ s37 : ByteArray, ((cell? w36 (add (add (nw w) 4) 0) = some (string s37)) ∧ (∃ s38 : ByteArray, ((cell? w36 (add (add (nw w) 4) 1) = some (string s38)) ∧ (∃ s39 : ByteArray, ((cell? w36 (add (add (nw w) 4) 2) = some (string s39)) ∧ (∃ s40 : ByteArray, ((cell? w36 (add (add (nw w) 4) 0) = some (string s40)) ∧ (∃ s41 : ByteArray, ((cell? w36 (add (add (nw w) 4) 1) = some (string s41)) ∧ (∃ s42 : ByteArray, ((cell? w36 (add (add (nw w) 4) 2) = some (string s42)) ∧ (Ca Tryz.prog (21) (Array.mk [pointer t, agg (Array.mk (List.reverse [string s39, string s38, string s37]))]) (w36) (fun v43 => (fun w44 =>
(∃ x45 : Int, ((v43 = int i64 x45) ∧ ((cell? w44 (add (add (nw w) 4) 0) = some (string s40)) ∧ ((cell? w44 (add (add (nw w) 4) 1) = some (string s41)) ∧ ((cell? w44 (add (add (nw w) 4) 2) = some (string s42)) ∧ (Ca Tryz.prog (39) (Array.mk [pointer r, agg (Array.mk (List.reverse [string s42, string s41, string s40]))]) (w44) (fun v46 => (fun w47 =>
(∃ x48 : Int, ((v46 = int i64 x48) ∧ (R (bool (x45 == x48)) (w47)))))))))))))))))))))))))))))
(ifK (x1 == 3)
(atW (drew w0) (fun w49 =>
(∃ s50 : ByteArray, ((cell? w49 (add (add (nw w) 4) 0) = some (string s50)) ∧ (∃ s51 : ByteArray, ((cell? w49 (add (add (nw w) 4) 1) = some (string s51)) ∧ (∃ s52 : ByteArray, ((cell? w49 (add (add (nw w) 4) 2) = some (string s52)) ∧ (∃ s53 : ByteArray, ((cell? w49 (add (add (nw w) 4) 0) = some (string s53)) ∧ (∃ s54 : ByteArray, ((cell? w49 (add (add (nw w) 4) 1) = some (string s54)) ∧ (∃ s55 : ByteArray, ((cell? w49 (add (add (nw w) 4) 2) = some (string s55)) ∧ (Ca Tryz.prog (22) (Array.mk [pointer t, agg (Array.mk (List.reverse [string s52, string s51, string s50]))]) (w49) (fun v56 => (fun w57 =>
(∃ x58 : Int, ((v56 = int i64 x58) ∧ ((cell? w57 (add (add (nw w) 4) 0) = some (string s53)) ∧ ((cell? w57 (add (add (nw w) 4) 1) = some (string s54)) ∧ ((cell? w57 (add (add (nw w) 4) 2) = some (string s55)) ∧ (Ca Tryz.prog (40) (Array.mk [pointer r, agg (Array.mk (List.reverse [string s55, string s54, string s53]))]) (w57) (fun v59 => (fun w60 =>
(∃ x61 : Int, ((v59 = int i64 x61) ∧ (R (bool (x58 == x61)) (w60)))))))))))))))))))))))))))))
(ifK (x1 == 4)
(atW (drew w0) (fun w62 =>
(∃ s63 : ByteArray, ((cell? w62 (add (add (nw w) 4) 1) = some (string s63)) ∧ (∃ s64 : ByteArray, ((cell? w62 (add (add (nw w) 4) 1) = some (string s64)) ∧ (Ca Tryz.prog (41) (Array.mk [pointer t, string s63]) (w62) (fun v65 => (fun w66 =>
(∃ x67 : Int, ((v65 = int i64 x67) ∧ ((cell? w66 (add (add (add (nw w) 4) 1) 0) = some (string s64)) ∧ (Ca Tryz.prog (42) (Array.mk [pointer r, string s64]) (w66) (fun v68 => (fun w69 =>
(∃ x70 : Int, ((v68 = int i64 x70) ∧ (R (bool (x67 == x70)) (w69)))))))))))))))))))
(ifK (x1 == 5)
(∃ s71 : ByteArray, ((cell? w0 (add (add (nw w) 1) 0) = some (string s71)) ∧ (Ca Tryz.prog (17) (Array.mk [pointer t, string s71]) (w0) (fun v72 => (fun w73 =>
(∃ s74 : ByteArray, (∃ x75 : Int, (∃ b76 : Bool, (∃ b77 : Bool, ((v72 = tuple (Array.mk (List.reverse [bool b77, agg (Array.mk (List.reverse [bool b76, int i64 x75, string s74]))]))) ∧ (atW (alloc w73 (cells (Array.mk [string (ByteArray.mk #[]), int i64 0, bool false]) 33 (0, 0))) (fun w78 =>
(st1 (add (nw w73) 0) (string s74) w78 (fun w80 =>
(st1 (add (nw w73) 1) (int i64 x75) w80 (fun w82 =>
(st1 (add (nw w73) 2) (bool b76) w82 (fun w84 =>
(∃ s85 : ByteArray, ((cell? w84 (add (add (nw w) 1) 0) = some (string s85)) ∧ (Ca Tryz.prog (43) (Array.mk [pointer r, string s85]) (w84) (fun v86 => (fun w87 =>
(∃ s88 : ByteArray, (∃ x89 : Int, (∃ b90 : Bool, (∃ b91 : Bool, ((v86 = tuple (Array.mk (List.reverse [bool b91, agg (Array.mk (List.reverse [bool b90, int i64 x89, string s88]))]))) ∧ (atW (alloc w87 (cells (Array.mk [string (ByteArray.mk #[]), int i64 0, bool false]) 33 (0, 0))) (fun w92 =>
(st1 (add (nw w87) 0) (string s88) w92 (fun w94 =>
(st1 (add (nw w87) 1) (int i64 x89) w94 (fun w96 =>
(st1 (add (nw w87) 2) (bool b90) w96 (fun w98 =>
(∃ s99 : ByteArray, ((cell? w98 (add (nw w73) 0) = some (string s99)) ∧ (∃ x100 : Int, ((cell? w98 (add (nw w73) 1) = some (int i64 x100)) ∧ (∃ b101 : Bool, ((cell? w98 (add (nw w73) 2) = some (bool b101)) ∧ (∃ s102 : ByteArray, ((cell? w98 (add (nw w87) 0) = some (string s102)) ∧ (∃ x103 : Int, ((cell? w98 (add (nw w87) 1) = some (int i64 x103)) ∧ (∃ b104 : Bool, ((cell? w98 (add (nw w87) 2) = some (bool b104)) ∧ (eqA Tryz.prog 33 (agg (Array.mk (List.reverse [bool b101, int i64 x100, string s99]))) (agg (Array.mk (List.reverse [bool b104, int i64 x103, string s102]))) (w98) (fun b105 => (fun w106 =>
(ifK (b105)
(R (bool (b77 == b91)) (w106))
(R (bool false) (w106))))))))))))))))))))))))))))))))))))))))))))))))))))))
(R (bool true) (w0))))))))))))
theorem ca13 (t : Option Addr) (r : Option Addr) (a0_ : Int) (a1_ : ByteArray) (a2_ : Int) (a3_ : Bool) (a4_ : ByteArray) (a5_ : ByteArray) (a6_ : ByteArray) (w : World) (R : Value → World → Prop) (h : W13 t r a0_ a1_ a2_ a3_ a4_ a5_ a6_ w R) : Ca Tryz.prog 13 ⟨[(.pointer t), (.pointer r), (.agg ⟨[(.int .i64 a0_), (.string a1_), (.int .i64 a2_), (.bool a3_), (.string a4_), (.string a5_), (.string a6_)]⟩)]⟩ w R :=
  caB (fn := Tryz.f13) (pl := pl13) (ls := ls13) Tryz.func13 (by kernel_rfl) (by kernel_rfl) h

/-- staith/staithlaw07.lives -/
noncomputable def C12 : Code := (Tryz.f12.body).getD .skip
def pl12 : Nat → Plan := fun _ => .done
def ls12 : Nat → List (Nat × LT) := fun _ => []
def W12 (w : World) (R : Value → World → Prop) : Prop :=
  (Ca Tryz.prog (10) (Array.mk []) (w) (fun v0 => (fun w1 =>
(∃ p2 : Option Addr, ((v0 = pointer p2) ∧ (atW (alloc w1 (cells (Array.mk [string (ByteArray.mk #[]), int i64 0, bool false]) 33 (0, 0))) (fun w3 =>
(st1 (add (nw w1) 0) (string (ByteArray.mk #[120])) w3 (fun w5 =>
(st1 (add (nw w1) 1) (int i64 3) w5 (fun w7 =>
(st1 (add (nw w1) 2) (bool false) w7 (fun w9 =>
(atW (alloc w9 (cells (Array.mk [string (ByteArray.mk #[]), string (ByteArray.mk #[]), string (ByteArray.mk #[])]) 35 (0, 0))) (fun w10 =>
(st1 (add (nw w9) 0) (string (ByteArray.mk #[120])) w10 (fun w12 =>
(st1 (add (nw w9) 1) (string (ByteArray.mk #[113])) w12 (fun w14 =>
(st1 (add (nw w9) 2) (string (ByteArray.mk #[97, 46, 42])) w14 (fun w16 =>
(ifK (Option.isNone p2)
(R (bool false) (w16))
(∃ s17 : ByteArray, ((cell? w16 (add (nw w1) 0) = some (string s17)) ∧ (∃ x18 : Int, ((cell? w16 (add (nw w1) 1) = some (int i64 x18)) ∧ (∃ b19 : Bool, ((cell? w16 (add (nw w1) 2) = some (bool b19)) ∧ (Ca Tryz.prog (35) (Array.mk [pointer p2, agg (Array.mk (List.reverse [bool b19, int i64 x18, string s17]))]) (w16) (fun v20 => (fun w21 =>
(∃ x22 : Int, ((v20 = int i64 x22) ∧ (ifK (x22 != 0)
(R (bool false) (w21))
(∃ s23 : ByteArray, ((cell? w21 (add (nw w9) 0) = some (string s23)) ∧ (∃ s24 : ByteArray, ((cell? w21 (add (nw w9) 1) = some (string s24)) ∧ (∃ s25 : ByteArray, ((cell? w21 (add (nw w9) 2) = some (string s25)) ∧ (Ca Tryz.prog (21) (Array.mk [pointer p2, agg (Array.mk (List.reverse [string s25, string s24, string s23]))]) (w21) (fun v26 => (fun w27 =>
(∃ x28 : Int, ((v26 = int i64 x28) ∧ (ifK (x28 != 0)
(R (bool false) (w27))
(∃ s29 : ByteArray, ((cell? w27 (add (nw w9) 0) = some (string s29)) ∧ (∃ s30 : ByteArray, ((cell? w27 (add (nw w9) 1) = some (string s30)) ∧ (∃ s31 : ByteArray, ((cell? w27 (add (nw w9) 2) = some (string s31)) ∧ (Ca Tryz.prog (21) (Array.mk [pointer p2, agg (Array.mk (List.reverse [string s31, string s30, string s29]))]) (w27) (fun v32 => (fun w33 =>
(∃ x34 : Int, ((v32 = int i64 x34) ∧ (ifK (x34 != 0)
(R (bool false) (w33))
(Ca Tryz.prog (16) (Array.mk [pointer p2]) (w33) (fun v35 => (fun w36 =>
(∃ p37 : Option Addr, (∃ n38 : Nat, (∃ n39 : Nat, ((v35 = slice p37 n38 n39) ∧ (ifK ((↑n38 : Int) != 1)
(R (bool false) (w36))
(Ca Tryz.prog (17) (Array.mk [pointer p2, string (ByteArray.mk #[120])]) (w36) (fun v40 => (fun w41 =>
(∃ s42 : ByteArray, (∃ x43 : Int, (∃ b44 : Bool, (∃ b45 : Bool, ((v40 = tuple (Array.mk (List.reverse [bool b45, agg (Array.mk (List.reverse [bool b44, int i64 x43, string s42]))]))) ∧ (atW (alloc w41 (cells (Array.mk [string (ByteArray.mk #[]), int i64 0, bool false]) 33 (0, 0))) (fun w46 =>
(st1 (add (nw w41) 0) (string s42) w46 (fun w48 =>
(st1 (add (nw w41) 1) (int i64 x43) w48 (fun w50 =>
(st1 (add (nw w41) 2) (bool b44) w50 (fun w52 =>
(ifK (b45)
(∃ s53 : ByteArray, ((cell? w52 (add (nw w41) 0) = some (string s53)) ∧ (∃ x54 : Int, ((cell? w52 (add (nw w41) 1) = some (int i64 x54)) ∧ (∃ b55 : Bool, ((cell? w52 (add (nw w41) 2) = some (bool b55)) ∧ (∃ s56 : ByteArray, ((cell? w52 (add (nw w1) 0) = some (string s56)) ∧ (∃ x57 : Int, ((cell? w52 (add (nw w1) 1) = some (int i64 x57)) ∧ (∃ b58 : Bool, ((cell? w52 (add (nw w1) 2) = some (bool b58)) ∧ (eqA Tryz.prog 33 (agg (Array.mk (List.reverse [bool b55, int i64 x54, string s53]))) (agg (Array.mk (List.reverse [bool b58, int i64 x57, string s56]))) (w52) (fun b59 => (fun w60 =>
(ifK (b59)
(Ca Tryz.prog (23) (Array.mk [pointer p2, string (ByteArray.mk #[120])]) (w60) (fun v61 => (fun w62 =>
(∃ x63 : Int, ((v61 = int i64 x63) ∧ (ifK (x63 == 0)
(Ca Tryz.prog (16) (Array.mk [pointer p2]) (w62) (fun v64 => (fun w65 =>
(∃ p66 : Option Addr, (∃ n67 : Nat, (∃ n68 : Nat, ((v64 = slice p66 n67 n68) ∧ (ifK ((↑n67 : Int) == 0)
(Ca Tryz.prog (23) (Array.mk [pointer p2, string (ByteArray.mk #[120])]) (w65) (fun v69 => (fun w70 =>
(∃ x71 : Int, ((v69 = int i64 x71) ∧ (R (bool (x71 == 3)) (w70)))))))
(R (bool false) (w65))))))))))
(R (bool false) (w62))))))))
(R (bool false) (w60))))))))))))))))))
(R (bool false) (w52)))))))))))))))))))))))))))))))))))))))))))))))))))))))))))))))))))))))))))))))))))))
theorem ca12 (w : World) (R : Value → World → Prop) (h : W12  w R) : Ca Tryz.prog 12 ⟨[]⟩ w R :=
  caB (fn := Tryz.f12) (pl := pl12) (ls := ls12) Tryz.func12 (by kernel_rfl) (by kernel_rfl) h

/-- staith/staithlaw07.BindActs -/
noncomputable def C3 : Code := (Tryz.f3.body).getD .skip
def pl3 : Nat → Plan := fun _ => .done
def ls3 : Nat → List (Nat × LT)
  | 7 => [(24, (.one (.int .i64)))]
  | _ => []
def W3 (actsa : Option Addr) (actsl : Nat) (actsc : Nat) (w : World) (R : Value → World → Prop) : Prop :=
  (Ca Tryz.prog (10) (Array.mk []) (w) (fun v0 => (fun w1 =>
(∃ p2 : Option Addr, ((v0 = pointer p2) ∧ (atW (alloc w1 (cells (Array.mk [slice none 0 0, slice none 0 0]) 29 (0, 0))) (fun w3 =>
(ifK (Option.isNone p2)
(ifK (!Option.isNone p2)
(Ca Tryz.prog (12) (Array.mk []) (w3) (fun v4 => (fun w5 =>
(∃ b6 : Bool, ((v4 = bool b6) ∧ (R (bool b6) (w5)))))))
(R (bool false) (w3)))
(Ca Tryz.prog (11) (Array.mk [slice actsa actsl actsc]) (w3) (fun v7 => (fun w8 =>
(∃ b9 : Bool, ((v7 = bool b9) ∧ (ifK (!b9)
(ifK (!Option.isNone p2)
(Ca Tryz.prog (12) (Array.mk []) (w8) (fun v10 => (fun w11 =>
(∃ b12 : Bool, ((v10 = bool b12) ∧ (R (bool b12) (w11)))))))
(R (bool false) (w8)))
(∃ z13 : Int → World → Prop, (∃ z14 : Int → World → Nat, ((z13 (0) (w8)) ∧ (∀ (_ : Nat → Value), (∀ (x16 : Int), (∀ (w17 : World), ((z13 (x16) (w17)) → (ifK (decide (x16 < (↑actsl : Int)))
(∃ a18 : Addr, ((actsa = some a18) ∧ (((0 : Int) ≤ x16) ∧ (((x16 : Int) < (↑actsl : Int)) ∧ (∃ x19 : Int, ((cell? w17 (add (add a18 (Int.toNat x16 * 7)) 0) = some (int i64 x19)) ∧ (∃ s20 : ByteArray, ((cell? w17 (add (add a18 (Int.toNat x16 * 7)) 1) = some (string s20)) ∧ (∃ x21 : Int, ((cell? w17 (add (add a18 (Int.toNat x16 * 7)) 2) = some (int i64 x21)) ∧ (∃ b22 : Bool, ((cell? w17 (add (add a18 (Int.toNat x16 * 7)) 3) = some (bool b22)) ∧ (∃ s23 : ByteArray, ((cell? w17 (add (add a18 (Int.toNat x16 * 7)) 4) = some (string s23)) ∧ (∃ s24 : ByteArray, ((cell? w17 (add (add a18 (Int.toNat x16 * 7)) 5) = some (string s24)) ∧ (∃ s25 : ByteArray, ((cell? w17 (add (add a18 (Int.toNat x16 * 7)) 6) = some (string s25)) ∧ (atW (alloc w17 (cells (Array.mk [int i64 0, string (ByteArray.mk #[]), int i64 0, bool false, string (ByteArray.mk #[]), string (ByteArray.mk #[]), string (ByteArray.mk #[])]) 37 (0, 0))) (fun w26 =>
(st1 (add (nw w17) 0) (int i64 x19) w26 (fun w28 =>
(st1 (add (nw w17) 1) (string s20) w28 (fun w30 =>
(st1 (add (nw w17) 2) (int i64 x21) w30 (fun w32 =>
(st1 (add (nw w17) 3) (bool b22) w32 (fun w34 =>
(st1 (add (nw w17) 4) (string s23) w34 (fun w36 =>
(st1 (add (nw w17) 5) (string s24) w36 (fun w38 =>
(st1 (add (nw w17) 6) (string s25) w38 (fun w40 =>
(∃ x41 : Int, ((cell? w40 (add (nw w17) 0) = some (int i64 x41)) ∧ (∃ s42 : ByteArray, ((cell? w40 (add (nw w17) 1) = some (string s42)) ∧ (∃ x43 : Int, ((cell? w40 (add (nw w17) 2) = some (int i64 x43)) ∧ (∃ b44 : Bool, ((cell? w40 (add (nw w17) 3) = some (bool b44)) ∧ (∃ s45 : ByteArray, ((cell? w40 (add (nw w17) 4) = some (string s45)) ∧ (∃ s46 : ByteArray, ((cell? w40 (add (nw w17) 5) = some (string s46)) ∧ (∃ s47 : ByteArray, ((cell? w40 (add (nw w17) 6) = some (string s47)) ∧ (Ca Tryz.prog (13) (Array.mk [pointer p2, pointer (some (nw w1)), agg (Array.mk (List.reverse [string s47, string s46, string s45, bool b44, int i64 x43, string s42, int i64 x41]))]) (w40) (fun v48 => (fun w49 =>
(∃ b50 : Bool, ((v48 = bool b50) ∧ (ifK (!b50)
(R (bool false) (w49))
(Ca Tryz.prog (15) (Array.mk [pointer p2]) (w49) (fun v51 => (fun w52 =>
(∃ p53 : Option Addr, (∃ n54 : Nat, (∃ n55 : Nat, ((v51 = slice p53 n54 n55) ∧ (Ca Tryz.prog (16) (Array.mk [pointer p2]) (w52) (fun v56 => (fun w57 =>
(∃ p58 : Option Addr, (∃ n59 : Nat, (∃ n60 : Nat, ((v56 = slice p58 n59 n60) ∧ (Ca Tryz.prog (14) (Array.mk [slice p53 n54 n55, slice p58 n59 n60, pointer (some (nw w1))]) (w57) (fun v61 => (fun w62 =>
(∃ b63 : Bool, ((v61 = bool b63) ∧ (ifK (!b63)
(R (bool false) (w62))
((z13 (wrap i64 (x16 + 1)) (w62)) ∧ (z14 (wrap i64 (x16 + 1)) w62 < z14 x16 w17))))))))))))))))))))))))))))))))))))))))))))))))))))))))))))))))))))))))))))
(Ca Tryz.prog (12) (Array.mk []) (w17) (fun v64 => (fun w65 =>
(∃ b66 : Bool, ((v64 = bool b66) ∧ (R (bool b66) (w65)))))))))))))))))))))))))))))
theorem ca3 (actsa : Option Addr) (actsl : Nat) (actsc : Nat) (w : World) (R : Value → World → Prop) (h : W3 actsa actsl actsc w R) : Ca Tryz.prog 3 ⟨[(.slice actsa actsl actsc)]⟩ w R :=
  caB (fn := Tryz.f3) (pl := pl3) (ls := ls3) Tryz.func3 (by kernel_rfl) (by kernel_rfl) h

/-- staith/staithlaw07.BindHolds -/
noncomputable def C4 : Code := (Tryz.f4.body).getD .skip
def pl4 : Nat → Plan
  | 15 => (.quiet 0 (.quiet 1 (.quiet 2 (.quiet 3 (.quiet 4 (.eff 5 [] (.quiet 6 (.quiet 7 (.quiet 8 (.quiet 9 (.quiet 10 (.quiet 11 (.quiet 12 (.quiet 13 (.quiet 14 (.quiet 15 (.quiet 16 (.quiet 17 (.quiet 18 (.quiet 19 (.quiet 20 (.quiet 21 (.quiet 22 (.quiet 23 (.eff 24 [] (.quiet 25 (.quiet 26 .done)))))))))))))))))))))))))))
  | 22 => (.quiet 0 (.quiet 1 (.quiet 2 (.quiet 3 (.quiet 4 (.quiet 5 (.quiet 6 (.quiet 7 (.quiet 8 (.quiet 9 (.quiet 10 (.quiet 11 (.eff 12 [] (.quiet 13 (.quiet 14 .done)))))))))))))))
  | _ => .done
def ls4 : Nat → List (Nat × LT)
  | 7 => [(34, (.one (.int .i64)))]
  | 19 => [(56, (.one (.int .i64)))]
  | 28 => [(98, (.one (.int .i64)))]
  | _ => []
def W4 (actsa : Option Addr) (actsl : Nat) (actsc : Nat) (w : World) (R : Value → World → Prop) : Prop :=
  (Ca Tryz.prog (10) (Array.mk []) (w) (fun v0 => (fun w1 =>
(∃ p2 : Option Addr, ((v0 = pointer p2) ∧ (atW (alloc w1 (cells (Array.mk [slice none 0 0, slice none 0 0]) 29 (0, 0))) (fun w3 =>
(ifK (Option.isNone p2)
(ifK (!Option.isNone p2)
(Ca Tryz.prog (12) (Array.mk []) (w3) (fun v4 => (fun w5 =>
(∃ b6 : Bool, ((v4 = bool b6) ∧ (R (bool b6) (w5)))))))
(R (bool false) (w3)))
(Ca Tryz.prog (11) (Array.mk [slice actsa actsl actsc]) (w3) (fun v7 => (fun w8 =>
(∃ b9 : Bool, ((v7 = bool b9) ∧ (ifK (!b9)
(ifK (!Option.isNone p2)
(Ca Tryz.prog (12) (Array.mk []) (w8) (fun v10 => (fun w11 =>
(∃ b12 : Bool, ((v10 = bool b12) ∧ (R (bool b12) (w11)))))))
(R (bool false) (w8)))
(∃ z13 : Int → World → Prop, (∃ z14 : Int → World → Nat, ((z13 (0) (w8)) ∧ (∀ (_ : Nat → Value), (∀ (x16 : Int), (∀ (w17 : World), ((z13 (x16) (w17)) → (ifK (decide (x16 < (↑actsl : Int)))
(∃ a18 : Addr, ((actsa = some a18) ∧ (((0 : Int) ≤ x16) ∧ (((x16 : Int) < (↑actsl : Int)) ∧ (∃ x19 : Int, ((cell? w17 (add (add a18 (Int.toNat x16 * 7)) 0) = some (int i64 x19)) ∧ (∃ s20 : ByteArray, ((cell? w17 (add (add a18 (Int.toNat x16 * 7)) 1) = some (string s20)) ∧ (∃ x21 : Int, ((cell? w17 (add (add a18 (Int.toNat x16 * 7)) 2) = some (int i64 x21)) ∧ (∃ b22 : Bool, ((cell? w17 (add (add a18 (Int.toNat x16 * 7)) 3) = some (bool b22)) ∧ (∃ s23 : ByteArray, ((cell? w17 (add (add a18 (Int.toNat x16 * 7)) 4) = some (string s23)) ∧ (∃ s24 : ByteArray, ((cell? w17 (add (add a18 (Int.toNat x16 * 7)) 5) = some (string s24)) ∧ (∃ s25 : ByteArray, ((cell? w17 (add (add a18 (Int.toNat x16 * 7)) 6) = some (string s25)) ∧ (atW (alloc w17 (cells (Array.mk [int i64 0, string (ByteArray.mk #[]), int i64 0, bool false, string (ByteArray.mk #[]), string (ByteArray.mk #[]), string (ByteArray.mk #[])]) 37 (0, 0))) (fun w26 =>
(st1 (add (nw w17) 0) (int i64 x19) w26 (fun w28 =>
(st1 (add (nw w17) 1) (string s20) w28 (fun w30 =>
(st1 (add (nw w17) 2) (int i64 x21) w30 (fun w32 =>
(st1 (add (nw w17) 3) (bool b22) w32 (fun w34 =>
(st1 (add (nw w17) 4) (string s23) w34 (fun w36 =>
(st1 (add (nw w17) 5) (string s24) w36 (fun w38 =>
(st1 (add (nw w17) 6) (string s25) w38 (fun w40 =>
(∃ x41 : Int, ((cell? w40 (add (nw w17) 0) = some (int i64 x41)) ∧ (∃ s42 : ByteArray, ((cell? w40 (add (nw w17) 1) = some (string s42)) ∧ (∃ x43 : Int, ((cell? w40 (add (nw w17) 2) = some (int i64 x43)) ∧ (∃ b44 : Bool, ((cell? w40 (add (nw w17) 3) = some (bool b44)) ∧ (∃ s45 : ByteArray, ((cell? w40 (add (nw w17) 4) = some (string s45)) ∧ (∃ s46 : ByteArray, ((cell? w40 (add (nw w17) 5) = some (string s46)) ∧ (∃ s47 : ByteArray, ((cell? w40 (add (nw w17) 6) = some (string s47)) ∧ (Ca Tryz.prog (13) (Array.mk [pointer p2, pointer (some (nw w1)), agg (Array.mk (List.reverse [string s47, string s46, string s45, bool b44, int i64 x43, string s42, int i64 x41]))]) (w40) (fun v48 => (fun w49 =>
(∃ b50 : Bool, ((v48 = bool b50) ∧ (Ca Tryz.prog (15) (Array.mk [pointer p2]) (w49) (fun v51 => (fun w52 =>
(∃ p53 : Option Addr, (∃ n54 : Nat, (∃ n55 : Nat, ((v51 = slice p53 n54 n55) ∧ (Ca Tryz.prog (16) (Array.mk [pointer p2]) (w52) (fun v56 => (fun w57 =>
(∃ p58 : Option Addr, (∃ n59 : Nat, (∃ n60 : Nat, ((v56 = slice p58 n59 n60) ∧ (ifK (decide ((↑n54 : Int) > 8))
(R (bool false) (w57))
(ifK (decide ((↑n59 : Int) > 32))
(R (bool false) (w57))
(∃ z61 : Int → World → Prop, (∃ z62 : Int → World → Nat, ((z61 (0) (w57)) ∧ (∀ (_ : Nat → Value), (∀ (x64 : Int), (∀ (w65 : World), ((z61 (x64) (w65)) → (ifK (decide (x64 < (↑n54 : Int)))
(∃ a66 : Addr, ((p53 = some a66) ∧ (((0 : Int) ≤ x64) ∧ (((x64 : Int) < (↑n54 : Int)) ∧ (∃ s67 : ByteArray, ((cell? w65 (add (add a66 (Int.toNat x64 * 3)) 0) = some (string s67)) ∧ (∃ x68 : Int, ((cell? w65 (add (add a66 (Int.toNat x64 * 3)) 1) = some (int i64 x68)) ∧ (∃ b69 : Bool, ((cell? w65 (add (add a66 (Int.toNat x64 * 3)) 2) = some (bool b69)) ∧ (atW (alloc w65 (cells (Array.mk [string (ByteArray.mk #[]), int i64 0, bool false]) 33 (0, 0))) (fun w70 =>
(st1 (add (nw w65) 0) (string s67) w70 (fun w72 =>
(st1 (add (nw w65) 1) (int i64 x68) w72 (fun w74 =>
(st1 (add (nw w65) 2) (bool b69) w74 (fun w76 =>
(∃ s77 : ByteArray, ((cell? w76 (add (nw w65) 0) = some (string s77)) ∧ (Ca Tryz.prog (17) (Array.mk [pointer p2, string s77]) (w76) (fun v78 => (fun w79 =>
(∃ s80 : ByteArray, (∃ x81 : Int, (∃ b82 : Bool, (∃ b83 : Bool, ((v78 = tuple (Array.mk (List.reverse [bool b83, agg (Array.mk (List.reverse [bool b82, int i64 x81, string s80]))]))) ∧ (atW (alloc w79 (cells (Array.mk [string (ByteArray.mk #[]), int i64 0, bool false]) 33 (0, 0))) (fun w84 =>
(st1 (add (nw w79) 0) (string s80) w84 (fun w86 =>
(st1 (add (nw w79) 1) (int i64 x81) w86 (fun w88 =>
(st1 (add (nw w79) 2) (bool b82) w88 (fun w90 =>
(atW (drew w90) (fun w91 =>
(ifK (!b83)
(R (bool false) (w91))
(∃ s92 : ByteArray, ((cell? w91 (add (nw w65) 0) = some (string s92)) ∧ (∃ x93 : Int, ((cell? w91 (add (nw w65) 1) = some (int i64 x93)) ∧ (∃ b94 : Bool, ((cell? w91 (add (nw w65) 2) = some (bool b94)) ∧ (∃ s95 : ByteArray, ((cell? w91 (add (nw w79) 0) = some (string s95)) ∧ (∃ x96 : Int, ((cell? w91 (add (nw w79) 1) = some (int i64 x96)) ∧ (∃ b97 : Bool, ((cell? w91 (add (nw w79) 2) = some (bool b97)) ∧ (eqA Tryz.prog 33 (agg (Array.mk (List.reverse [bool b94, int i64 x93, string s92]))) (agg (Array.mk (List.reverse [bool b97, int i64 x96, string s95]))) (w91) (fun b98 => (fun w99 =>
(ifK (!b98)
(R (bool false) (w99))
(ifK (decide (x64 > 0))
(∃ a100 : Addr, ((p53 = some a100) ∧ (((0 : Int) ≤ wrap i64 (x64 - 1)) ∧ (((wrap i64 (x64 - 1) : Int) < (↑n54 : Int)) ∧ (∃ s101 : ByteArray, ((cell? w99 (add (add a100 (Int.toNat (wrap i64 (x64 - 1)) * 3)) 0) = some (string s101)) ∧ (∃ s102 : ByteArray, ((cell? w99 (add (nw w65) 0) = some (string s102)) ∧ (ifK (!Op.bytesLess (ByteArray.toList s101) (ByteArray.toList s102))
(R (bool false) (w99))
(∃ s103 : ByteArray, ((cell? w99 (add (nw w65) 0) = some (string s103)) ∧ (∃ x104 : Int, ((cell? w99 (add (nw w65) 1) = some (int i64 x104)) ∧ (∃ b105 : Bool, ((cell? w99 (add (nw w65) 2) = some (bool b105)) ∧ (Ca Tryz.prog (18) (Array.mk [agg (Array.mk (List.reverse [bool b105, int i64 x104, string s103]))]) (w99) (fun v106 => (fun w107 =>
(∃ b108 : Bool, ((v106 = bool b108) ∧ (ifK (!b108)
(R (bool false) (w107))
((z61 (wrap i64 (x64 + 1)) (w107)) ∧ (z62 (wrap i64 (x64 + 1)) w107 < z62 x64 w65)))))))))))))))))))))))
(∃ s109 : ByteArray, ((cell? w99 (add (nw w65) 0) = some (string s109)) ∧ (∃ x110 : Int, ((cell? w99 (add (nw w65) 1) = some (int i64 x110)) ∧ (∃ b111 : Bool, ((cell? w99 (add (nw w65) 2) = some (bool b111)) ∧ (Ca Tryz.prog (18) (Array.mk [agg (Array.mk (List.reverse [bool b111, int i64 x110, string s109]))]) (w99) (fun v112 => (fun w113 =>
(∃ b114 : Bool, ((v112 = bool b114) ∧ (ifK (!b114)
(R (bool false) (w113))
((z61 (wrap i64 (x64 + 1)) (w113)) ∧ (z62 (wrap i64 (x64 + 1)) w113 < z62 x64 w65))))))))))))))))))))))))))))))))))))))))))))))))))))))))))))))))))))))
(∃ z115 : Int → World → Prop, (∃ z116 : Int → World → Nat, ((z115 (0) (w65)) ∧ (∀ (_ : Nat → Value), (∀ (x118 : Int), (∀ (w119 : World), ((z115 (x118) (w119)) → (ifK (decide (x118 < (↑n59 : Int)))
(∃ a120 : Addr, ((p58 = some a120) ∧ (((0 : Int) ≤ x118) ∧ (((x118 : Int) < (↑n59 : Int)) ∧ (∃ s121 : ByteArray, ((cell? w119 (add (add a120 (Int.toNat x118 * 3)) 0) = some (string s121)) ∧ (∃ s122 : ByteArray, ((cell? w119 (add (add a120 (Int.toNat x118 * 3)) 1) = some (string s122)) ∧ (∃ s123 : ByteArray, ((cell? w119 (add (add a120 (Int.toNat x118 * 3)) 2) = some (string s123)) ∧ (atW (alloc w119 (cells (Array.mk [string (ByteArray.mk #[]), string (ByteArray.mk #[]), string (ByteArray.mk #[])]) 35 (0, 0))) (fun w124 =>
(st1 (add (nw w119) 0) (string s121) w124 (fun w126 =>
(st1 (add (nw w119) 1) (string s122) w126 (fun w128 =>
(st1 (add (nw w119) 2) (string s123) w128 (fun w130 =>
(∃ s131 : ByteArray, ((cell? w130 (add (nw w119) 0) = some (string s131)) ∧ (Ca Tryz.prog (17) (Array.mk [pointer p2, string s131]) (w130) (fun v132 => (fun w133 =>
(∃ s134 : ByteArray, (∃ x135 : Int, (∃ b136 : Bool, (∃ b137 : Bool, ((v132 = tuple (Array.mk (List.reverse [bool b137, agg (Array.mk (List.reverse [bool b136, int i64 x135, string s134]))]))) ∧ (atW (alloc w133 (cells (Array.mk [string (ByteArray.mk #[]), int i64 0, bool false]) 33 (0, 0))) (fun w138 =>
(st1 (add (nw w133) 0) (string s134) w138 (fun w140 =>
(st1 (add (nw w133) 1) (int i64 x135) w140 (fun w142 =>
(st1 (add (nw w133) 2) (bool b136) w142 (fun w144 =>
(atW (drew w144) (fun w145 =>
(ifK (!b137)
(R (bool false) (w145))
(ifK (decide (x118 > 0))
(∃ a146 : Addr, ((p58 = some a146) ∧ (((0 : Int) ≤ wrap i64 (x118 - 1)) ∧ (((wrap i64 (x118 - 1) : Int) < (↑n59 : Int)) ∧ (∃ s147 : ByteArray, ((cell? w145 (add (add a146 (Int.toNat (wrap i64 (x118 - 1)) * 3)) 0) = some (string s147)) ∧ (∃ s148 : ByteArray, ((cell? w145 (add (add a146 (Int.toNat (wrap i64 (x118 - 1)) * 3)) 1) = some (string s148)) ∧ (∃ s149 : ByteArray, ((cell? w145 (add (add a146 (Int.toNat (wrap i64 (x118 - 1)) * 3)) 2) = some (string s149)) ∧ (∃ s150 : ByteArray, ((cell? w145 (add (nw w119) 0) = some (string s150)) ∧ (∃ s151 : ByteArray, ((cell? w145 (add (nw w119) 1) = some (string s151)) ∧ (∃ s152 : ByteArray, ((cell? w145 (add (nw w119) 2) = some (string s152)) ∧ (eqA Tryz.prog 35 (agg (Array.mk (List.reverse [string s149, string s148, string s147]))) (agg (Array.mk (List.reverse [string s152, string s151, string s150]))) (w145) (fun b153 => (fun w154 =>
(ifK (b153)
(R (bool false) (w154))
((z115 (wrap i64 (x118 + 1)) (w154)) ∧ (z116 (wrap i64 (x118 + 1)) w154 < z116 x118 w119))))))))))))))))))))))
((z115 (wrap i64 (x118 + 1)) (w145)) ∧ (z116 (wrap i64 (x118 + 1)) w145 < z116 x118 w119))))))))))))))))))))))))))))))))))))))))))
((z13 (wrap i64 (x16 + 1)) (w119)) ∧ (z14 (wrap i64 (x16 + 1)) w119 < z14 x16 w17)))))))))))))))))))))))))))))))))))))))))))))))))))))))))))))))))))))))))))))))))))))))
(Ca Tryz.prog (12) (Array.mk []) (w17) (fun v155 => (fun w156 =>
(∃ b157 : Bool, ((v155 = bool b157) ∧ (R (bool b157) (w156)))))))))))))))))))))))))))))
theorem ca4 (actsa : Option Addr) (actsl : Nat) (actsc : Nat) (w : World) (R : Value → World → Prop) (h : W4 actsa actsl actsc w R) : Ca Tryz.prog 4 ⟨[(.slice actsa actsl actsc)]⟩ w R :=
  caB (fn := Tryz.f4) (pl := pl4) (ls := ls4) Tryz.func4 (by kernel_rfl) (by kernel_rfl) h
end Go.Proofs.YtehhhkcemmfjpaaGreatDoor

/- The reference's Bind. -/
namespace Go.Proofs.YtehhhkcemmfjpaaGreatDoor
open Go Go.Proofs.YtehhhkcemmfjpaaGreatDoor Go.Proofs.YtehhhkcemmfjpaaGreatDoor.St

def AddedB (b : Bnd) (X : List Exc) (C C' : List Bnd) : Prop := if nameB b.q = true ∧ hx b.x X = true ∧ mayB (fx b.x X) b.p = true ∧ b ∉ C ∧ C.length < 32 then Inb b C C' else C' = C
theorem bindRef_ok {w : World} {r : Nat} {X : List Exc} {B : List Bnd} (hR : RTb w r X B) (x : Bnd) (hlx : X.length < 1000000000) (hl : B.length < 1000000000) (hkind : hx x.x X = true → (fx x.x X).k = 1 ∨ (fx x.x X).k = 2 ∨ (fx x.x X).k = 3) (R : Value → World → Prop)
    (h : ∀ w' C', AddedB x X B C' → RTb w' r X C' → Mod (on r) w w' → R (.int .i64 (bindR x X B)) w') :
    Ca Tryz.prog 39 #[.pointer (some ⟨r, 0, none⟩), .agg ⟨x.cs⟩] w R := by
  refine (ca39 (some ⟨r, 0, none⟩) x.x x.q x.p w R ?_ : Ca _ _ _ _ _)
  intro w0 e0
  have m0 : Mod no w w0 := by subst e0; exact Mod.alloc _ _
  have b0 : Bc w0 w.heap.size x := by subst e0; exact new_at _ _
  clear e0
  have same : ∀ w', Mod no w w' → ¬ (nameB x.q = true ∧ hx x.x X = true ∧ mayB (fx x.x X) x.p = true ∧ x ∉ B ∧ B.length < 32) → R (.int .i64 (bindR x X B)) w' := fun w' m hc => h w' B (by rw [AddedB, if_neg hc]) (hR.no m) m.of_no
  refine ⟨_, by rw [cl1 b0]; rfl, nameR_ok _ _ _ ⟨_, rfl, ifK_of (fun hn => ?_) (fun hn => ?_)⟩⟩
  · have hn : nameB x.q = false := by simpa using hn
    have h' := same w0 m0 (fun hc => by rw [hn] at hc; cases hc.1)
    rw [bindR, if_pos hn] at h'
    exact h'
  have hn : nameB x.q = true := by simpa using hn
  have hR0 := hR.no m0
  refine ⟨fun p b w' => ∃ k, p = some ⟨k, 0, none⟩ ∧ Xc w' k (fx x.x X) ∧ b = hx x.x X ∧ Mod no w w' ∧ Bc w' w.heap.size x, ?_, ?_⟩
  · refine ⟨_, by rw [cl1 b0]; rfl, findR_ok hR0 x.x hlx _ fun w10 m10 => ⟨_, _, _, _, rfl, ?_⟩⟩
    intro w15 e0
    have m15 : Mod no w10 w15 := by subst e0; exact Mod.alloc _ _
    have b15 : Xc w15 w10.heap.size exc0 := by subst e0; exact new_at _ _
    clear e0
    refine put3 b15 fun w21 m21 b21 => ⟨_, rfl, b21, rfl, ?_⟩
    have m1021 : Mod no w10 w21 := m15.new m21 fun k hk => by cases hk; exact Nat.le_refl _
    exact ⟨(m0.trans m10).trans m1021, m1021.at' (m10.at' b0)⟩
  rintro _ _ _ w23 ⟨k, rfl, bk, rfl, m23, b23⟩
  refine ⟨fun w' => nameB x.q = true ∧ hx x.x X = true ∧ mayB (fx x.x X) x.p = true ∧ x ∉ B ∧ B.length < 32 ∧ Mod no w w' ∧ Bc w' w.heap.size x, ?_, ?_⟩
  · refine ifK_of (fun hh => ?_) (fun hh => ?_)
    · have hh : hx x.x X = false := by simpa using hh
      have h' := same w23 m23 (fun hc => by rw [hh] at hc; cases hc.2.1)
      rw [bindR, if_neg (by rw [hn]; decide), if_pos hh] at h'
      exact h'
    have hh : hx x.x X = true := by simpa using hh
    refine ⟨_, by rw [cl1 bk]; rfl, _, by rw [cl1 b23]; rfl, mayR_ok (fx x.x X) (hkind hh) x.p w23 _ fun w29 m29 => ⟨_, rfl, ifK_of (fun hm => ?_) (fun hm => ?_)⟩⟩
    · have hm : mayB (fx x.x X) x.p = false := by simpa using hm
      have h' := same w29 (m23.trans m29) (fun hc => by rw [hm] at hc; cases hc.2.2.1)
      rw [bindR, if_neg (by rw [hn]; decide), if_neg (by rw [hh]; decide), if_pos hm] at h'
      exact h'
    have hm : mayB (fx x.x X) x.p = true := by simpa using hm
    have b29 := m29.at' b23
    have m029 := m23.trans m29
    refine ⟨_, by rw [cl1 b29]; rfl, _, by rw [cl1 b29]; rfl, _, by rw [cl1 b29]; rfl, (hasR_ok (hR.no m029) x hl _ fun w35 m35 => ⟨_, rfl, ?_⟩ : Ca _ _ _ _ _)⟩
    have m035 := m029.trans m35
    refine ifK_dec (fun hb => ?_) (fun hb => ?_)
    · have h' := same w35 m035 (fun hc => hc.2.2.2.1 hb)
      rw [bindR, if_neg (by rw [hn]; decide), if_neg (by rw [hh]; decide), if_neg (by rw [hm]; decide), if_pos hb] at h'
      exact h'
    obtain ⟨a, l, c, a', l', c', h1, h2, h3, h4, h5⟩ := (hR.no m035).ex
    have hxl := h3.len.1
    refine ⟨a', l', c', by rw [cl1 h1]; rfl, ifK_dec (fun hge => ?_) (fun hlt => ⟨hn, hh, hm, hb, by omega, m035, m35.at' b29⟩)⟩
    have h' := same w35 m035 (fun hc => by omega)
    rw [bindR, if_neg (by rw [hn]; decide), if_neg (by rw [hh]; decide), if_neg (by rw [hm]; decide), if_neg hb, if_pos (by omega)] at h'
    exact h'
  rintro _ w25 ⟨_, hh, hm, hb, hlt, m25, b25⟩
  have hR25 := hR.no m25
  obtain ⟨a', l', c', a, l, c, h1, h3, h2, h5, h4⟩ := hR25.ex
  have hxl := h2.len.1
  have hrlt : r < w.heap.size := by obtain ⟨_, _, _, _, _, _, hh, _⟩ := hR.ex; exact lt_of_heap hh
  have g0 := m25.size
  have hok : laidOk Tryz.prog 27 35 bndL.s = true := by kernel_rfl
  refine ⟨fun p q s w' => Rx bndL 35 w' p q s (B ++ [x]) ∧ Mod no w25 w' ∧ (∀ k, rowB p k → w25.heap.size ≤ k), ?_, ?_⟩
  · intro w40 e0
    have m40 : Mod no w25 w40 := by subst e0; exact Mod.drew _
    clear e0
    have b40 := m40.at' b25
    have h1 := m40.at' h1
    have h40 := h1
    have g1 := m40.size
    have h2 := h2.no m40
    refine ⟨a, l, c, by rw [cl1 h1]; rfl, _, by rw [cl1 b40]; rfl, _, by rw [cl1 b40]; rfl, _, by rw [cl1 b40]; rfl, ⟨?_, ?_⟩⟩
    · intro w48 e0
      have m48 : Mod no w40 w48 := by subst e0; exact Mod.alloc _ _
      have e48 : w48.heap[w40.heap.size]? = some (.cells #[] 35 (0, 0)) := by subst e0; exact new_at _ _
      clear e0
      have h1 := m48.at' h1
      have b48 := m48.at' b40
      have g2 := m48.size
      have h2 := h2.no m48
      have l48 := lt_of_heap e48
      refine ⟨by rw [cl2 h1]; rfl, by rw [cl1 b48]; rfl, by rw [cl1 b48]; rfl, by rw [cl1 b48]; rfl, ⟨?_, ?_⟩⟩
      · obtain ⟨p, c2, w50, hr, x50, m50, n50⟩ := copyRow (L := bndL) (P := Tryz.prog) (ty := 27) hok e48 h2 (by omega)
        have n4050 : Mod no w40 w50 := m48.new m50 fun k hk => by cases hk; exact Nat.le_refl _
        have b50 := n4050.at' b40
        have g3 := m50.size
        refine ⟨_, w50, hr, _, _, _, rfl, by rw [cl1 b50]; rfl, by rw [cl1 b50]; rfl, by rw [cl1 b50]; rfl, ?_⟩
        intro w54 e0
        have m54 : Mod no w50 w54 := by subst e0; exact Mod.alloc _ _
        have b54 : Bc w54 w50.heap.size x := by subst e0; exact new_at _ _
        clear e0
        have h1 := (n4050.trans m54).at' h40
        obtain ⟨p2, c3, w56, hr, x56, m56, n56⟩ := pushB (Rx.no x50 m54) b54 (by omega)
        have g4 := m54.size
        refine ⟨by rw [cl2 h1]; rfl, _, w56, hr, _, _, _, rfl, x56, ?_, ?_⟩
        · exact ((m40.trans n4050).trans m54).new m56 fun k hk => by have := n50 k hk; omega
        · intro k hk
          rcases n56 k hk with hk | hk
          · have := n50 k hk; omega
          · omega
      · intro w60 e0
        have m60 : Mod no w48 w60 := by subst e0; exact Mod.alloc _ _
        have b60 : Bc w60 w48.heap.size x := by subst e0; exact new_at _ _
        clear e0
        have h1 := m60.at' h1
        have g3 := m60.size
        obtain ⟨p, c2, w62, hr, x62, m62, n62⟩ := copyRow (L := bndL) (P := Tryz.prog) (ty := 27) hok (m60.at' e48) (h2.no m60) (by omega)
        have n4062 : Mod no w40 w62 := (m48.trans m60).new m62 fun k hk => by cases hk; exact Nat.le_refl _
        have b62 := n4062.at' b40
        have g4 := m62.size
        have x' := m62.at b60 (fun hS => by have : w48.heap.size = w40.heap.size := hS; omega)
        obtain ⟨p2, c3, w67, hr2, x67, m67, n67⟩ := pushB x62 x' (by omega)
        refine ⟨by rw [cl2 h1]; rfl, _, w62, hr, _, _, _, rfl, by rw [cl1 b62]; rfl, by rw [cl1 b62]; rfl, by rw [cl1 b62]; rfl, _, w67, hr2, _, _, _, rfl, x67, ?_, ?_⟩
        · exact (m40.trans n4062).new m67 fun k hk => by have := n62 k hk; omega
        · intro k hk
          rcases n67 k hk with hk | hk
          · have := n62 k hk; omega
          · omega
    · intro w71 e0
      have m71 : Mod no w40 w71 := by subst e0; exact Mod.alloc _ _
      have b71 : Bc w71 w40.heap.size x := by subst e0; exact new_at _ _
      clear e0
      have h1 := m71.at' h1
      refine ⟨by rw [cl2 h1]; rfl, ?_⟩
      intro w72 e0
      have m72 : Mod no w71 w72 := by subst e0; exact Mod.alloc _ _
      have e72 : w72.heap[w71.heap.size]? = some (.cells #[] 35 (0, 0)) := by subst e0; exact new_at _ _
      clear e0
      have h1 := m72.at' h1
      have m4072 := m71.trans m72
      have b72 := m4072.at' b40
      have g2 := m71.size
      have g3 := m72.size
      have l71 := lt_of_heap b71
      obtain ⟨p, c2, w74, hr, x74, m74, n74⟩ := copyRow (L := bndL) (P := Tryz.prog) (ty := 27) hok e72 (h2.no m4072) (by omega)
      have n4074 : Mod no w40 w74 := m4072.new m74 fun k hk => by cases hk; exact g2
      have b74 := n4074.at' b40
      have g4 := m74.size
      have x' := m74.at (m72.at' b71) (fun hS => by have : w40.heap.size = w71.heap.size := hS; omega)
      obtain ⟨p2, c3, w79, hr2, x79, m79, n79⟩ := pushB x74 x' (by omega)
      refine ⟨by rw [cl2 h1]; rfl, by rw [cl1 b72]; rfl, by rw [cl1 b72]; rfl, by rw [cl1 b72]; rfl, _, w74, hr, _, _, _, rfl, by rw [cl1 b74]; rfl, by rw [cl1 b74]; rfl, by rw [cl1 b74]; rfl, _, w79, hr2, _, _, _, rfl, x79, ?_, ?_⟩
      · exact (m40.trans n4074).new m79 fun k hk => by have := n74 k hk; omega
      · intro k hk
        rcases n79 k hk with hk | hk
        · have := n74 k hk; omega
        · omega
  rintro _ p q s w87 ⟨x87, m87, n87⟩
  have hql := x87.len.1
  rw [List.length_append, List.length_singleton, hxl] at hql
  subst hql
  obtain ⟨g, rfl, _⟩ := Row.get x87 (i := 0) (by simp)
  have hgn := n87 g rfl
  have hcl : IntKind.i64.wrap (((l + 1 : Nat) : Int) - 1) = (l : Int) := by rw [wrap64 (by omega) (by omega)]; omega
  rw [hcl]
  clear hcl
  refine ⟨fun y w' => ∃ i : Nat, y = i ∧ i ≤ l ∧ Rx bndL 35 w' (some ⟨g, 0, none⟩) (l + 1) s (B.take i ++ x :: B.drop i) ∧ Mod no w25 w' ∧ ∀ y ∈ B.drop i, x < y, fun y _ => y.toNat,
    ⟨l, rfl, Nat.le_refl _, by rw [List.take_of_length_le (by omega), List.drop_eq_nil_of_le (by omega)]; exact x87, m87, fun y hy => by rw [← hxl, List.drop_length] at hy; cases hy⟩, ?_⟩
  rintro _ _ w92 ⟨i, rfl, hi, x92, m92, hgt⟩
  intro w93 e0
  have m93 : Mod no w92 w93 := by subst e0; exact Mod.drew _
  clear e0
  have x93 := x92.no m93
  have m93' := m92.trans m93
  have done : ∀ w94, Mod no w93 w94 → (∀ j y, j + 1 = i → B[j]? = some y → ¬ x < y) → ∃ v122 : Value, w94.cell? (Addr.add (Addr.add ⟨r, 0, none⟩ 1) 0) = some v122 := fun w94 m94 _ => ⟨_, by rw [cl2 ((m93'.trans m94).at' h1)]; rfl⟩
  have fin : ∀ w94, Mod no w93 w94 → (∀ j y, j + 1 = i → B[j]? = some y → ¬ x < y) → ∀ w', w' = w94.setCell (Addr.add (Addr.add ⟨r, 0, none⟩ 1) 0) (.slice (some ⟨g, 0, none⟩) (l + 1) s) → R (.int .i64 0) w' := by
    intro w94 m94 hmin w' e0
    have m94' := m93'.trans m94
    have x94 := x93.no m94
    have h1' := m94'.at' h1
    have mr : Mod (on r) w94 w' := by subst e0; exact Mod.set2 _ _ _ _ _
    have br : w'.heap[r]? = some (.cells #[.slice a' l' c', .slice (some ⟨g, 0, none⟩) (l + 1) s] 29 (0, 0)) := by subst e0; rw [set2 h1']; rfl
    clear e0
    have h' := h w' (B.take i ++ x :: B.drop i) (by
      rw [AddedB, if_pos ⟨hn, hh, hm, hb, hlt⟩]
      exact ⟨i, by omega, rfl, hgt, hmin⟩)
      ⟨a', l', c', _, _, _, br, (h3.no m94').mod mr (fun k hk hS => by cases hS; exact h5 hk), x94.mod mr (fun k hk hS => by have e1 := rowB_eq hk; have e2 : k = r := hS; omega), h5, fun hk => by have e1 := rowB_eq hk; omega⟩ ((m25.trans m94').no_trans mr)
    rw [bindR, if_neg (by rw [hn]; decide), if_neg (by rw [hh]; decide), if_neg (by rw [hm]; decide), if_neg hb, if_neg (by omega)] at h'
    exact h'
  have fz : ∀ w94, Mod no w93 w94 → w94.frozen? (Addr.add (Addr.add ⟨r, 0, none⟩ 1) 0) = false := fun w94 m94 => fz2 ((m93'.trans m94).at' h1) _ _
  refine ifK_dec (fun hpos => ?_) (fun hz => ?_)
  · obtain ⟨j, rfl⟩ : ∃ j, i = j + 1 := ⟨i - 1, by omega⟩
    have ej : IntKind.i64.wrap (((j + 1 : Nat) : Int) - 1) = (j : Int) := by rw [wrap64 (by omega) (by omega)]; omega
    rw [ej]
    clear ej
    have hjX : j < B.length := by omega
    have hst := ins_step (x := x) (X := B) (i := j) (by omega)
    rw [hst] at x93
    have hP : (B.take j).length = j := by rw [List.length_take]; omega
    have a1 : at0 (B.take j ++ B[j] :: x :: B.drop (j + 1)) j = B[j] := at0_mid _ _ _ hP
    have a2 : at0 (B.take j ++ B[j] :: x :: B.drop (j + 1)) (j + 1) = x := at0_mid1 _ _ _ _ (by omega)
    refine x93.cellB (by omega) (x93.cellB (by omega) ?_)
    rw [a1, a2]
    refine (ahead_ok x B[j] w93 _ fun w94 m94 => ?_ : Ca _ _ _ _ _)
    refine ⟨_, rfl, ?_⟩
    have x94 := x93.no m94
    have m94' := m93'.trans m94
    refine ifK_dec (fun hlt => ?_) (fun hc => ?_)
    · intro w98 e0
      have m98 : Mod no w94 w98 := by subst e0; exact Mod.drew _
      clear e0
      have x98 := x94.no m98
      refine x98.cellB (by omega) (x98.cellB (by omega) ?_)
      rw [a1, a2]
      refine ⟨_, rfl, by omega, by omega, ?_⟩
      rw [Int.toNat_natCast]
      refine putAt x98 rfl (by omega) x rfl fun w113 m113 x113 => ?_
      refine ⟨_, rfl, by omega, by omega, ?_⟩
      rw [Int.toNat_natCast]
      refine putAt x113 rfl (by omega) B[j] rfl fun w120 m120 x120 => ?_
      have hsw : ((B.take j ++ B[j] :: x :: B.drop (j + 1)).set j x).set (j + 1) B[j] = B.take j ++ x :: B.drop j := by
        have := swap_mid (B.take j) B[j] x (B.drop (j + 1))
        rw [hP] at this
        rw [this, ← List.drop_eq_getElem_cons hjX]
      rw [hsw] at x120
      refine ⟨⟨j, rfl, by omega, x120, (m94'.trans m98).new (m113.trans m120) fun k hk => by cases hk; exact hgn, fun y hy => ?_⟩, by simp only; omega⟩
      rw [List.drop_eq_getElem_cons hjX] at hy
      rcases List.mem_cons.1 hy with rfl | hy
      · exact hlt
      · exact hgt y hy
    · have hmin : ∀ j' y, j' + 1 = j + 1 → B[j']? = some y → ¬ x < y := by
        intro j' y he hy
        obtain rfl : j' = j := by omega
        rw [List.getElem?_eq_getElem hjX] at hy
        cases hy
        exact hc
      exact ⟨done _ m94 hmin, fz _ m94, fin _ m94 hmin⟩
  · have hmin : ∀ j y, j + 1 = i → B[j]? = some y → ¬ x < y := fun j y he => by omega
    exact ⟨done _ (Mod.refl _ _) hmin, fz _ (Mod.refl _ _), fin _ (Mod.refl _ _) hmin⟩
end Go.Proofs.YtehhhkcemmfjpaaGreatDoor

/- Both tables say the same: what each step does to them. -/
namespace Go.Proofs.YtehhhkcemmfjpaaGreatDoor
open Go Go.Proofs.YtehhhkcemmfjpaaGreatDoor Go.Proofs.YtehhhkcemmfjpaaGreatDoor.St

theorem findX_iff {n : ByteArray} {D : List Exc} (hD : (D.map (·.n)).Nodup) (e : Exc) : findX n D = some e ↔ e ∈ D ∧ e.n = n := by
  constructor
  · intro h
    have h1 := List.find?_some h
    exact ⟨List.mem_of_find?_eq_some h, (eq_of_beq h1).symm⟩
  · rintro ⟨hm, rfl⟩
    induction D with
    | nil => cases hm
    | cons y D ih =>
      rw [List.map_cons, List.nodup_cons] at hD
      rw [findX, List.find?_cons]
      rcases List.mem_cons.1 hm with rfl | hm
      · rw [beq_self_eq_true]
      · have : (e.n == y.n) = false := beq_false_of_ne fun h => hD.1 (h ▸ List.mem_map_of_mem hm)
        rw [this]
        exact ih hD.2 hm
theorem findX_perm {n : ByteArray} {D X : List Exc} (hD : (D.map (·.n)).Nodup) (hp : X.Perm D) : findX n X = findX n D := by
  apply Option.ext
  intro e
  rw [findX_iff hD, findX_iff ((hp.map (·.n)).nodup_iff.2 hD), hp.mem_iff]
theorem hx_iff {n : ByteArray} {D : List Exc} : hx n D = true ↔ ∃ e ∈ D, e.n = n := by
  rw [hx, findX, List.find?_isSome]
  exact ⟨fun ⟨e, h1, h2⟩ => ⟨e, h1, (eq_of_beq h2).symm⟩, fun ⟨e, h1, h2⟩ => ⟨e, h1, by rw [h2]; exact beq_self_eq_true _⟩⟩

/-- The reference's rows are the table's, sorted. -/
structure Sy (D X : List Exc) (B C : List Bnd) : Prop where
  xp : X.Perm D
  bp : C.Perm B
  xs : X.Pairwise (· < ·)
  bs : C.Pairwise (· < ·)
theorem sy_nil : Sy [] [] [] [] := ⟨.refl _, .refl _, .nil, .nil⟩
theorem exc_tr (a b c : Exc) (h1 : a < b) (h2 : b < c) : a < c := str_tr h1 h2
theorem exc_le (a b : Exc) (h : a < b) : a ≤ b := str_asym h
theorem bnd_le (a b : Bnd) (h : a < b) : a ≤ b := fun h' => bnd_irr a (bnd_tr h h')
theorem nodup_eq {D : List Exc} (hD : (D.map (·.n)).Nodup) {a b : Exc} (ha : a ∈ D) (hb : b ∈ D) (h : a.n = b.n) : a = b := by
  have h1 := (findX_iff hD a).2 ⟨ha, h⟩
  have h2 := (findX_iff hD b).2 ⟨hb, rfl⟩
  rw [h1] at h2
  injection h2
section
variable {D X : List Exc} {B C : List Bnd} (h : Sy D X B C)
include h
theorem Sy.xlen : X.length = D.length := h.xp.length_eq
theorem Sy.blen : C.length = B.length := h.bp.length_eq
theorem Sy.find (hD : (D.map (·.n)).Nodup) (n : ByteArray) : findX n X = findX n D := findX_perm hD h.xp
theorem Sy.exs (hD : (D.map (·.n)).Nodup) {xs : List Exc} (hp : xs.Perm D) (hs : Srt xs 0 xs.length) : xs = X :=
  rising_unique exc_le (fun a b ha hb hab hba => nodup_eq ((h.xp.map (·.n)).nodup_iff.2 hD) ha hb (str_total hba hab)) (hp.trans h.xp.symm) hs h.xs
theorem Sy.bnds {bs : List Bnd} (hp : bs.Perm B) (hs : Srt bs 0 bs.length) : bs = C :=
  rising_unique bnd_le (fun _ _ _ _ hab hba => bnd_total hba hab) (hp.trans h.bp.symm) hs h.bs
theorem Sy.filt (p : Exc → Bool) (q : Bnd → Bool) : Sy (D.filter p) (X.filter p) (B.filter q) (C.filter q) := ⟨h.xp.filter p, h.bp.filter q, h.xs.filter p, h.bs.filter q⟩
theorem Sy.filtB (q : Bnd → Bool) : Sy D X (B.filter q) (C.filter q) := ⟨h.xp, h.bp.filter q, h.xs, h.bs.filter q⟩
theorem Sy.insX {x : Exc} {X' : List Exc} (hn : findX x.n D = none) (hi : Inb x X X') : Sy (D ++ [x]) X' B C := by
  refine ⟨hi.perm.trans (h.xp.append_right _), h.bp, hi.rises exc_tr h.xs fun y hy => ?_, h.bs⟩
  have hy' : y.n ≠ x.n := fun e => findX_none.1 hn (e ▸ List.mem_map_of_mem (h.xp.mem_iff.1 hy))
  by_cases h1 : x.n < y.n
  · exact .inl h1
  · exact .inr (Classical.byContradiction fun h2 => hy' (str_total h2 h1))
theorem Sy.insB {b : Bnd} {C' : List Bnd} (hn : b ∉ B) (hi : Inb b C C') : Sy D X (B ++ [b]) C' := by
  refine ⟨h.xp, hi.perm.trans (h.bp.append_right _), h.xs, hi.rises (fun _ _ _ => bnd_tr) h.bs fun y hy => ?_⟩
  have hy' : y ≠ b := fun e => hn (e ▸ h.bp.mem_iff.1 hy)
  by_cases h1 : b < y
  · exact .inl h1
  · exact .inr (Classical.byContradiction fun h2 => hy' (bnd_total h2 h1))
end

/-- What is so of each table that calls made. -/
structure Ok7 (D : List Exc) (B : List Bnd) : Prop where
  xl : D.length ≤ 8
  bl : B.length ≤ 32
  good : ∀ e ∈ D, goodX e = true
  from_ : ∀ b ∈ B, hx b.x D = true
theorem ok7_nil : Ok7 [] [] := ⟨by simp, by simp, by simp, by simp⟩
section
variable {D : List Exc} {B : List Bnd} (h : Ok7 D B)
include h
theorem Ok7.filtB (q : Bnd → Bool) : Ok7 D (B.filter q) := ⟨h.xl, Nat.le_trans (List.length_filter_le _ _) h.bl, h.good, fun b hb => h.from_ b (List.mem_filter.1 hb).1⟩
theorem Ok7.decl (x : Exc) : Ok7 (declD x D) B := by
  unfold declD
  split
  · rename_i hc
    simp only [Bool.and_eq_true, decide_eq_true_eq] at hc
    refine ⟨by simp; omega, h.bl, fun e he => ?_, fun b hb => ?_⟩
    · rcases List.mem_append.1 he with he | he
      · exact h.good e he
      · rw [List.mem_singleton.1 he]; exact hc.1.1
    · obtain ⟨e, h1, h2⟩ := hx_iff.1 (h.from_ b hb)
      exact hx_iff.2 ⟨e, List.mem_append_left _ h1, h2⟩
  · exact h
theorem Ok7.drop (n : ByteArray) : Ok7 (D.filter fun e => !(e.n == n)) (B.filter fun b => !decide (b.x = n)) := by
  refine ⟨Nat.le_trans (List.length_filter_le _ _) h.xl, Nat.le_trans (List.length_filter_le _ _) h.bl, fun e he => h.good e (List.mem_filter.1 he).1, fun b hb => ?_⟩
  obtain ⟨hb, hn⟩ := List.mem_filter.1 hb
  obtain ⟨e, h1, h2⟩ := hx_iff.1 (h.from_ b hb)
  refine hx_iff.2 ⟨e, List.mem_filter.2 ⟨h1, ?_⟩, h2⟩
  rw [h2]
  simpa using hn
theorem Ok7.bind (b : Bnd) : Ok7 D (bindB b D B) := by
  unfold bindB
  split
  · rename_i hc
    refine ⟨h.xl, by simp; omega, h.good, fun y hy => ?_⟩
    rcases List.mem_append.1 hy with hy | hy
    · exact h.from_ y hy
    · rw [List.mem_singleton.1 hy]; exact hc.2.1
  · exact h
theorem Ok7.kind {n : ByteArray} (hn : hx n D = true) : (fx n D).k = 1 ∨ (fx n D).k = 2 ∨ (fx n D).k = 3 := by
  obtain ⟨e, he⟩ := Option.isSome_iff_exists.1 hn
  have hm := List.mem_of_find?_eq_some he
  have hg := h.good e hm
  rw [fx, he]
  simp only [Option.getD_some]
  rw [goodX, Bool.and_eq_true] at hg
  simpa [or_assoc] using hg.2
end
end Go.Proofs.YtehhhkcemmfjpaaGreatDoor

/- Arguments that are structs, opened field by field. It names no program. -/
namespace Go.Proofs.YtehhhkcemmfjpaaGreatDoor.St
open Go Go.ChangeShapes Go.WideShapes Go.Deep

section
variable {H : Type} {enc : TypeId × Value → H} {P : Program} {w : World} {base : Nat} {spare : Nat → Bool} {held : Bool}
theorem open_agg {r : Reach} {b0 : Nat} {t : TypeId} {fs : Array Field} {v : Value} {d : DataW H} {p : List MemPlace} (hs : P.underlying t = some (.struct fs)) (hone : oneCellFields P fs = true) (hC : P.cellsOf t = fs.size)
    (hv : Value.okWide P w r b0 t v) (h : DataW.Trod enc P w base spare held t v d p) :
    ∃ (cs : Array Value) (ys : List (DataW H × List MemPlace)) (n : Nat), v = .agg cs ∧ cs.size = fs.size ∧ d = .agg (ys.map (·.1)) ∧ ys.length = fs.size ∧
      ∀ (j : Nat) (f : Field), fs[j]? = some f → ∃ c y, cs[j]? = some c ∧ ys[j]? = some y ∧ DataW.trod enc P w base spare held n f.type [c] = some y := by
  obtain ⟨cs, rfl, hsz⟩ := okWide_struct hs hv
  obtain ⟨fuel, hf⟩ := h
  obtain ⟨ys, n, _, hy, _, hlen, hg⟩ := DataW.trod_struct hs hf
  simp only [Prod.mk.injEq] at hy
  refine ⟨cs, ys, n, rfl, hsz.trans hC, hy.1, hlen, fun j f hj => ?_⟩
  obtain ⟨ho, hk⟩ := hone_of hone j f hj
  have hjl : j < fs.size := (Array.getElem?_eq_some_iff.1 hj).1
  have hjc : j < cs.size := by rw [hsz, hC]; exact hjl
  have hg := hg j f hj
  rw [ho, hk] at hg
  have hone' : ((Value.agg cs).cells.toList.drop j).take 1 = [cs[j]] := by
    show (cs.toList.drop j).take 1 = _
    rw [List.drop_eq_getElem_cons (by simpa using hjc)]
    simp
  rw [hone'] at hg
  have hys : ys[j]? = some (ys[j]'(by omega)) := List.getElem?_eq_getElem (by omega)
  exact ⟨cs[j], _, Array.getElem?_eq_getElem hjc, hys, hg.trans hys⟩
theorem agg_weights {t : TypeId} {fs : Array Field} {ys : List (DataW H × List MemPlace)} (hs : P.underlying t = some (.struct fs)) {j : Nat} {f : Field} (hj : fs[j]? = some f) {y : DataW H × List MemPlace} (hy : ys[j]? = some y)
    {B : Nat} (h : ∀ n ∈ (DataW.agg (ys.map (·.1))).weights P t, n ≤ B) : ∀ n ∈ y.1.weights P f.type, n ≤ B := by
  intro n hn
  refine h n ?_
  rw [DataW.weights, hs]
  refine DataW.weights_mem_each (j := j) (t := f.type) (d := y.1) ?_ ?_ n hn
  · rw [List.getElem?_map, Array.getElem?_toList, hj]; rfl
  · rw [List.getElem?_map, hy]; rfl
theorem slice_weights {t e : TypeId} {elems spare' : List (DataW H)} (hs : P.underlying t = some (.slice e)) {x : DataW H} (hx : x ∈ elems ++ spare') {B : Nat} (h : ∀ n ∈ (DataW.slice elems spare').weights P t, n ≤ B) : ∀ n ∈ x.weights P e, n ≤ B := by
  have all : ∀ (l : List (DataW H)), x ∈ l → ∀ n ∈ x.weights P e, n ∈ DataW.weightsAll P e l := by
    intro l
    induction l with
    | nil => intro h; cases h
    | cons y r ih =>
      intro h n hn
      rw [DataW.weightsAll, List.mem_append]
      rcases List.mem_cons.1 h with rfl | h
      · exact .inl hn
      · exact .inr (ih h n hn)
  intro n hn
  refine h n ?_
  rw [DataW.weights, hs]
  rcases List.mem_append.1 hx with hx | hx
  · exact List.mem_cons_of_mem _ (List.mem_append_left _ (all _ hx n hn))
  · exact List.mem_cons_of_mem _ (List.mem_append_right _ (all _ hx n hn))
theorem slice_size {t e : TypeId} {elems spare' : List (DataW H)} (hs : P.underlying t = some (.slice e)) {B : Nat} (h : ∀ n ∈ (DataW.slice elems spare').weights P t, n ≤ B) : (elems.length + spare'.length) * P.bytesOf e ≤ B := by
  refine h _ ?_
  rw [DataW.weights, hs]
  exact List.mem_cons_self
end
end Go.Proofs.YtehhhkcemmfjpaaGreatDoor.St

/- Arguments that are rows of structs: they are read, never written. It names no program. -/
namespace Go.Proofs.YtehhhkcemmfjpaaGreatDoor.St
open Go Go.ChangeShapes Go.WideShapes Go.Deep

/-- An argument's row. -/
structure ArgRow {α : Type} (L : Lay α) (w : World) (a : Option Addr) (l c : Nat) (xs : List α) : Prop where
  len : xs.length = l
  lc : l ≤ c
  cm : c ≤ 9223372036854775807
  blk : ∀ ad, a = some ad → 0 < l → ad.block < w.heap.size
  get : ∀ (i : Nat) (h : i < xs.length), ∃ ad, a = some ad ∧ ∀ j v, (L.cs xs[i])[j]? = some v → w.cell? (Addr.add (Addr.add ad (i * L.s)) j) = some v
theorem cell_no {w w' : World} (h : Mod no w w') {ad : Addr} (hb : ad.block < w.heap.size) : w'.cell? ad = w.cell? ad := by
  have := h.keep ad.block hb id
  unfold World.cell?
  rw [this]
theorem add_block (ad : Addr) (n : Nat) : (Addr.add ad n).block = ad.block := by unfold Addr.add; split <;> rfl
theorem ArgRow.no {α : Type} {L : Lay α} {w w' : World} {a : Option Addr} {l c : Nat} {xs : List α} (h : ArgRow L w a l c xs) (hm : Mod no w w') : ArgRow L w' a l c xs := by
  refine ⟨h.len, h.lc, h.cm, fun ad had hl => Nat.lt_of_lt_of_le (h.blk ad had hl) hm.size, fun i hi => ?_⟩
  obtain ⟨ad, had, hg⟩ := h.get i hi
  refine ⟨ad, had, fun j v hj => ?_⟩
  rw [cell_no hm (by rw [add_block, add_block]; exact h.blk ad had (by have := h.len; omega))]
  exact hg j v hj
theorem cell_lt {w : World} {ad : Addr} {v : Value} (h : w.cell? ad = some v) : ad.block < w.heap.size := by
  unfold World.cell? at h
  cases hh : w.heap[ad.block]? with
  | none => rw [hh] at h; cases h
  | some o => exact lt_of_heap hh

section
variable {H : Type} {enc : TypeId × Value → H} {P : Program} {w : World} {base : Nat} {spare : Nat → Bool} {held : Bool}
theorem open_slice_fields {t e : TypeId} {fs : Array Field} {fuel : Nat} {cs : List Value} {x : DataW H × List MemPlace} (ht : P.underlying t = some (.slice e)) (he : P.underlying e = some (.struct fs))
    (hone : oneCellFields P fs = true) (hC : P.cellsOf e = fs.size) (h : DataW.trod enc P w base spare held fuel t cs = some x) :
    (cs = [.slice none 0 0] ∧ x = (.nil, [])) ∨
    ∃ (a : Addr) (len cap m : Nat) (D : Nat → DataW H) (Pl : Nat → List MemPlace), cs = [.slice (some a) len cap] ∧ base ≤ a.block ∧ len ≤ cap ∧ cap ≤ maxLen ∧ m = (if spare a.block then cap else len) ∧
      x = (.slice ((List.range len).map D) ((List.range (m - len)).map fun j => D (len + j)), MemPlace.row a (m * fs.size) ++ (List.range m).flatMap Pl) ∧
      ∀ i, i < m → ∃ (ys : List (DataW H × List MemPlace)) (n : Nat), D i = .agg (ys.map (·.1)) ∧ Pl i = ys.flatMap (·.2) ∧ ys.length = fs.size ∧
        ∀ (j : Nat) (f : Field), fs[j]? = some f → ∃ (v : Value) (y : DataW H × List MemPlace), w.cell? (a.add (i * fs.size + j)) = some v ∧ ys[j]? = some y ∧ DataW.trod enc P w base spare held n f.type [v] = some y := by
  rcases open_slice ht h with h0 | ⟨a, len, cap, m, n, D, Pl, hcs, hb, hl, hm, hmm, hx, hi⟩
  · exact .inl h0
  · refine .inr ⟨a, len, cap, m, D, Pl, hcs, hb, hl, hm, hmm, by rw [hC] at hx; exact hx, fun i him => ?_⟩
    obtain ⟨cs', hc, ht'⟩ := hi i him
    rw [hC] at hc
    obtain ⟨ys, n', hn', hy, hlen, hyl, hf⟩ := DataW.trod_struct he ht'
    obtain ⟨_, hcl, hat⟩ := World.cells?_some hc
    simp only [Prod.mk.injEq] at hy
    refine ⟨ys, n', hy.1, hy.2, hyl, fun j f hj => ?_⟩
    obtain ⟨ho, hk⟩ := hone_of hone j f hj
    have hjl : j < fs.size := (Array.getElem?_eq_some_iff.1 hj).1
    have hcell := hat j hjl
    have hv : cs'[j]? = some (cs'[j]'(by omega)) := List.getElem?_eq_getElem (by omega)
    have h1 := hf j f hj
    rw [ho, hk] at h1
    have hone' : (cs'.drop j).take 1 = [cs'[j]'(by omega)] := by
      rw [List.drop_eq_getElem_cons (by omega)]
      rfl
    rw [hone'] at h1
    have hys : ys[j]? = some (ys[j]'(by omega)) := List.getElem?_eq_getElem (by omega)
    refine ⟨_, _, ?_, hys, h1.trans hys⟩
    rw [← Go.Deep.add_add, hcell, hv]
end

/-- An argument of a slice type whose elements are such structs: each is read as Q says. -/
theorem args_row {H : Type} {enc : TypeId × Value → H} {P : Program} {w : World} {v : Value} {d : DataW H} {p : List MemPlace} {base : Nat} {r : Reach} {b0 : Nat} {t e : TypeId} {fs : Array Field} {α : Type} [Inhabited α] {L : Lay α} (Q : α → Prop) {B : Nat}
    (ht : P.underlying t = some (.slice e)) (he : P.underlying e = some (.struct fs)) (hone : oneCellFields P fs = true) (hC : P.cellsOf e = fs.size) (hs : L.s = fs.size)
    (hv : Value.okWide P w r b0 t v) (h : DataW.Trod enc P w base (fun _ => true) true t v d p) (hz : ∀ n ∈ d.weights P t, n ≤ B)
    (hx : ∀ (ys : List (DataW H × List MemPlace)) (n : Nat) (V : Nat → Value), (∀ (j : Nat) (f : Field), fs[j]? = some f → ∃ y, ys[j]? = some y ∧ DataW.trod enc P w base (fun _ => true) true n f.type [V j] = some y ∧ ∀ m ∈ y.1.weights P f.type, m ≤ B) →
      ∃ x : α, (∀ j u, (L.cs x)[j]? = some u → V j = u) ∧ Q x) :
    ∃ a l c xs, v = .slice a l c ∧ ArgRow L w a l c xs ∧ (∀ x ∈ xs, Q x) ∧ c * P.bytesOf e ≤ B := by
  obtain ⟨a, l, c, rfl⟩ := okWide_slice ht hv
  obtain ⟨fuel, hf⟩ := h
  rcases open_slice_fields ht he hone hC hf with ⟨hcs, _⟩ | ⟨ad, len, cap, m, D, Pl, hcs, _, hl, hm, hmm, hxx, hi⟩
  · simp only [Value.cells, List.cons.injEq, and_true] at hcs
    injection hcs with h1 h2 h3
    subst h1; subst h2; subst h3
    exact ⟨none, 0, 0, [], rfl, ⟨rfl, Nat.le_refl _, by decide, fun ad h => (by cases h), fun i h => (by simp at h)⟩, fun x h => (by cases h), by rw [Nat.zero_mul]; exact Nat.zero_le _⟩
  · simp only [Value.cells, List.cons.injEq, and_true] at hcs
    injection hcs with h1 h2 h3
    subst h1; subst h2; subst h3
    have hmc : m = c := by rw [hmm]; rfl
    have hd : d = .slice ((List.range l).map D) ((List.range (m - l)).map fun j => D (l + j)) := congrArg Prod.fst hxx
    have hone : ∀ i, i < l → ∃ x : α, (∀ j u, (L.cs x)[j]? = some u → w.cell? (Addr.add ad (i * L.s + j)) = some u) ∧ Q x := by
      intro i hil
      obtain ⟨ys, n, hD, _, _, hg⟩ := hi i (by omega)
      have hDz : ∀ n ∈ (D i).weights P e, n ≤ B := by
        rw [hd] at hz
        exact slice_weights ht (List.mem_append_left _ (List.mem_map.2 ⟨i, List.mem_range.2 hil, rfl⟩)) hz
      have hch : ∀ j, ∃ v : Value, ∀ f, fs[j]? = some f → w.cell? (ad.add (i * fs.size + j)) = some v ∧ ∃ y, ys[j]? = some y ∧ DataW.trod enc P w base (fun _ => true) true n f.type [v] = some y := by
        intro j
        cases hj : fs[j]? with
        | none => exact ⟨.tuple #[], fun f hf => by cases hf⟩
        | some f =>
          obtain ⟨v, y, q1, q2, q3⟩ := hg j f hj
          exact ⟨v, fun f' hf' => by cases hf'; exact ⟨q1, y, q2, q3⟩⟩
      obtain ⟨V, hV⟩ := Classical.axiomOfChoice hch
      obtain ⟨x, hx1, hx2⟩ := hx ys n V fun j f hj => by
        obtain ⟨_, y, q2, q3⟩ := hV j f hj
        rw [hD] at hDz
        exact ⟨y, q2, q3, agg_weights he hj q2 hDz⟩
      refine ⟨x, fun j u hj => ?_, hx2⟩
      have hjs : j < fs.size := by
        have := (List.getElem?_eq_some_iff.1 hj).1
        rw [L.len] at this
        omega
      have := (hV j _ (Array.getElem?_eq_getElem hjs)).1
      rw [hs, this, hx1 j u hj]
    have hall : ∀ i, ∃ x : α, i < l → (∀ j u, (L.cs x)[j]? = some u → w.cell? (Addr.add ad (i * L.s + j)) = some u) ∧ Q x := by
      intro i
      by_cases h : i < l
      · obtain ⟨x, hx⟩ := hone i h
        exact ⟨x, fun _ => hx⟩
      · exact ⟨default, fun h' => absurd h' h⟩
    obtain ⟨f, hf⟩ := Classical.axiomOfChoice hall
    refine ⟨some ad, l, c, (List.range l).map f, rfl, ⟨by simp, hl, by simpa [maxLen] using hm, fun ad' had hl0 => ?_, fun i h => ?_⟩, fun x hx => ?_, ?_⟩
    · cases had
      have hp := (hf 0 hl0).1 0 ((L.cs (f 0))[0]'(by rw [L.len]; exact L.pos)) (List.getElem?_eq_getElem _)
      have := cell_lt hp
      rwa [add_block] at this
    · refine ⟨ad, rfl, fun j v hj => ?_⟩
      rw [List.getElem_map, List.getElem_range] at hj
      have := (hf i (by simpa using h)).1 j v hj
      rwa [← Go.Deep.add_add] at this
    · obtain ⟨i, hi, rfl⟩ := List.mem_map.1 hx
      exact (hf i (List.mem_range.1 hi)).2
    · rw [hd] at hz
      have := slice_size ht hz
      rw [List.length_map, List.length_map, List.length_range, List.length_range, show l + (m - l) = c by omega] at this
      exact this
end Go.Proofs.YtehhhkcemmfjpaaGreatDoor.St

/- Arguments, whatever they are made of, told by their leaves. It names no program. -/
namespace Go.Proofs.YtehhhkcemmfjpaaGreatDoor.St
open Go Go.ChangeShapes Go.WideShapes Go.Deep

/-- These cells are a value of type t, as far as n steps go. -/
def Leaf (P : Program) (w : World) (B : Nat) : Nat → TypeId → List Value → Prop
  | 0, _, _ => True
  | n + 1, t, cs => match P.underlying t with
    | some (.struct fs) => cs.length = P.cellsOf t ∧ ∀ (i : Nat) (f : Field), fs[i]? = some f → Leaf P w B n f.type ((cs.drop f.offset).take (P.cellsOf f.type))
    | some (.int k) => ∃ x, cs = [.int k x] ∧ (Lit.int k x).wf = true
    | some .string => ∃ s : ByteArray, cs = [.string s] ∧ s.size ≤ B
    | some .bool => ∃ b, cs = [.bool b]
    | some (.slice e) => ∃ (a : Option Addr) (l c : Nat), cs = [.slice a l c] ∧ l ≤ c ∧ c ≤ 9223372036854775807 ∧ c * P.bytesOf e ≤ B ∧ (a = none → c = 0) ∧
        ∀ i, i < l → ∃ ad, a = some ad ∧ ∃ cs', cs'.length = P.cellsOf e ∧ (∀ j v, cs'[j]? = some v → w.cell? (Addr.add (Addr.add ad (i * P.cellsOf e)) j) = some v) ∧ Leaf P w B n e cs'
    | _ => True
section
variable {H : Type} {enc : TypeId × Value → H} {P : Program} {w : World} {base : Nat} {B : Nat}
theorem leaf_of : ∀ (m : Nat) {t : TypeId} {cs : List Value} {x : DataW H × List MemPlace} {fuel : Nat}, DataW.trod enc P w base (fun _ => true) true fuel t cs = some x → (∀ n ∈ x.1.weights P t, n ≤ B) → Leaf P w B m t cs
  | 0, _, _, _, _, _, _ => trivial
  | m + 1, t, cs, x, fuel, h, hz => by
    unfold Leaf
    split
    · rename_i fs ht
      obtain ⟨ys, n, _, rfl, hl, hlen, hf⟩ := DataW.trod_struct ht h
      refine ⟨hl, fun i f hi => ?_⟩
      have h1 := hf i f hi
      have hil : i < fs.size := (Array.getElem?_eq_some_iff.1 hi).1
      have hys : ys[i]? = some (ys[i]'(by omega)) := List.getElem?_eq_getElem (by omega)
      rw [hys] at h1
      exact leaf_of m h1 (agg_weights ht hi hys hz)
    · rename_i k ht
      obtain ⟨n, h1, _, h2⟩ := DataW.trod_int ht h
      exact ⟨n, h1, h2⟩
    · rename_i ht
      obtain ⟨s, h1, rfl, _⟩ := DataW.trod_string ht h
      exact ⟨s, h1, hz _ (by simp [DataW.weights])⟩
    · rename_i ht
      obtain ⟨b, h1, _⟩ := DataW.trod_bool ht h
      exact ⟨b, h1⟩
    · rename_i e ht
      rcases DataW.trod_slice ht h with ⟨h1, _⟩ | ⟨a, len, cap, elems, rest, n, _, h1, rfl, _, hl, hm, hel, hget, hsp, _⟩
      · exact ⟨none, 0, 0, h1, Nat.le_refl _, by decide, by rw [Nat.zero_mul]; exact Nat.zero_le _, fun _ => rfl, fun i hi => by omega⟩
      · refine ⟨some a, len, cap, h1, hl, by simpa [maxLen] using hm, ?_, (fun h => by cases h), fun i hi => ⟨a, rfl, ?_⟩⟩
        · have := slice_size ht hz
          rw [List.length_map, List.length_map, hel, (hsp rfl).1, show len + (cap - len) = cap by omega] at this
          exact this
        · have h2 := hget i hi
          have hys : elems[i]? = some (elems[i]'(by omega)) := List.getElem?_eq_getElem (by omega)
          rw [hys] at h2
          obtain ⟨cs', h3, h4⟩ := Option.bind_eq_some_iff.1 h2
          obtain ⟨_, hcl, hat⟩ := World.cells?_some h3
          refine ⟨cs', hcl, fun j v hj => ?_, leaf_of m h4 ?_⟩
          · have hjl : j < P.cellsOf e := by have := (List.getElem?_eq_some_iff.1 hj).1; omega
            rw [hat j hjl, hj]
          · exact slice_weights ht (List.mem_append_left _ (List.mem_map.2 ⟨_, List.getElem_mem (by omega), rfl⟩)) hz
    · trivial
/-- A row whose elements are told by their leaves. -/
theorem leaf_row {α : Type} [Inhabited α] {L : Lay α} (Q : α → Prop) {e : TypeId} {a : Option Addr} {l c n : Nat} (hs : L.s = P.cellsOf e) (hx : ∀ cs, cs.length = L.s → Leaf P w B n e cs → ∃ x, L.cs x = cs ∧ Q x) (hl : l ≤ c) (hc : c ≤ 9223372036854775807)
    (h : ∀ i, i < l → ∃ ad, a = some ad ∧ ∃ cs', cs'.length = P.cellsOf e ∧ (∀ j v, cs'[j]? = some v → w.cell? (Addr.add (Addr.add ad (i * P.cellsOf e)) j) = some v) ∧ Leaf P w B n e cs') : ∃ xs, ArgRow L w a l c xs ∧ ∀ x ∈ xs, Q x := by
  have hall : ∀ i, ∃ x : α, i < l → (∃ ad, a = some ad ∧ ∀ j u, (L.cs x)[j]? = some u → w.cell? (Addr.add (Addr.add ad (i * L.s)) j) = some u) ∧ Q x := by
    intro i
    by_cases hi : i < l
    · obtain ⟨ad, had, cs', h1, h2, h3⟩ := h i hi
      obtain ⟨x, rfl, hq⟩ := hx cs' (by rw [h1, hs]) h3
      exact ⟨x, fun _ => ⟨⟨ad, had, fun j u hj => by rw [hs]; exact h2 j u hj⟩, hq⟩⟩
    · exact ⟨default, fun h' => absurd h' hi⟩
  obtain ⟨f, hf⟩ := Classical.axiomOfChoice hall
  refine ⟨(List.range l).map f, ⟨by simp, hl, hc, fun ad had hl0 => ?_, fun i hi => ?_⟩, fun x hx => ?_⟩
  · obtain ⟨⟨ad', had', hg⟩, _⟩ := hf 0 hl0
    rw [had] at had'
    cases had'
    have := cell_lt (hg 0 ((L.cs (f 0))[0]'(by rw [L.len]; exact L.pos)) (List.getElem?_eq_getElem _))
    rwa [add_block, add_block] at this
  · rw [List.length_map, List.length_range] at hi
    obtain ⟨⟨ad, had, hg⟩, _⟩ := hf i hi
    refine ⟨ad, had, fun j v hj => ?_⟩
    rw [List.getElem_map, List.getElem_range] at hj
    exact hg j v hj
  · obtain ⟨i, hi, rfl⟩ := List.mem_map.1 hx
    exact (hf i (List.mem_range.1 hi)).2
end

/-! ### Rows of a program's own, read as an argument's; and an argument's, appended -/
theorem Row.arg {α : Type} {L : Lay α} {e : TypeId} {w : World} {a : Option Addr} {l c : Nat} {xs : List α} (h : Row L e w a l c xs) : ArgRow L w a l c xs := by
  have hl := h.len
  refine ⟨hl.1, hl.2.1, hl.2.2, fun ad had _ => ?_, fun i hi => ?_⟩
  · rcases h.block with ⟨h0, _⟩ | ⟨g, cur, hg, hh, _⟩
    · rw [h0] at had; cases had
    · rw [hg] at had; cases had; exact lt_of_heap hh
  · obtain ⟨g, had, hg⟩ := h.get hi
    exact ⟨_, had, hg⟩
theorem Lay.div {α : Type} (L : Lay α) : ∀ {xs : List α} {k : Nat} {v : Value}, (xs.flatMap L.cs)[k]? = some v → ∃ (i : Nat) (hi : i < xs.length) (j : Nat), k = i * L.s + j ∧ (L.cs (xs[i]'hi))[j]? = some v
  | [], k, v, h => by simp at h
  | x :: r, k, v, h => by
    rw [List.flatMap_cons] at h
    by_cases hk : k < L.s
    · rw [List.getElem?_append_left (by rw [L.len]; exact hk)] at h
      exact ⟨0, by simp, k, by simp, h⟩
    · rw [List.getElem?_append_right (by rw [L.len]; omega), L.len] at h
      obtain ⟨i, hi, j, he, hj⟩ := L.div h
      exact ⟨i + 1, by simpa using hi, j, by rw [Nat.add_mul]; omega, by simpa using hj⟩
theorem ArgRow.all {α : Type} {L : Lay α} {w : World} {a : Option Addr} {l c : Nat} {xs : List α} (h : ArgRow L w a l c xs) : (∀ ad, a = some ad → ∀ j v, (xs.flatMap L.cs)[j]? = some v → w.cell? (ad.add j) = some v) := by
  intro ad had k v hk
  obtain ⟨i, hi, j, rfl, hj⟩ := L.div hk
  obtain ⟨ad', had', hg⟩ := h.get i hi
  rw [had] at had'
  cases had'
  rw [← Go.Deep.add_add]
  exact hg j v hj
end Go.Proofs.YtehhhkcemmfjpaaGreatDoor.St

/- The laws of chapter 07: an act on both tables; a list of acts that is light; lives. -/
namespace Go.Proofs.YtehhhkcemmfjpaaGreatDoor
open Go Go.ChangeShapes Go.WideShapes Go.Deep Go.Proofs.YtehhhkcemmfjpaaGreatDoor Go.Proofs.YtehhhkcemmfjpaaGreatDoor.St

theorem cl3 {w : World} {k : Nat} {cs : Array Value} {e : TypeId} {fz : Nat × Nat} (h : w.heap[k]? = some (.cells cs e fz)) (i j l : Nat) : w.cell? (Addr.add (Addr.add (Addr.add ⟨k, 0, none⟩ i) j) l) = cs[i + j + l]? := by
  rw [add_lit, add_lit, add_lit, cl h, Nat.zero_add]
structure Ac where
  k : Int
  e : Exc
  b : Bnd
instance acInh : Inhabited Ac := ⟨⟨0, default, default⟩⟩
def acL : Lay Ac where
  cs x := [.int .i64 x.k, .string x.e.n, .int .i64 x.e.k, .bool x.e.f, .string x.b.x, .string x.b.q, .string x.b.p]
  s := 7
  pos := by decide
  len _ := rfl
  one x v hv := by simp at hv; rcases hv with rfl | rfl | rfl | rfl | rfl | rfl | rfl <;> rfl

/-! ### Both tables at once -/
structure TB7 (w : World) (t m1 m2 r : Nat) (D X : List Exc) (B C : List Bnd) : Prop where
  tb : Tbl w t m1 m2 D B
  rt : RTb w r X C
  sy : Sy D X B C
  ok : Ok7 D B
theorem TB7.no {w w' : World} {t m1 m2 r : Nat} {D X : List Exc} {B C : List Bnd} (h : TB7 w t m1 m2 r D X B C) (hm : Mod no w w') : TB7 w' t m1 m2 r D X B C := ⟨h.tb.no hm, h.rt.no hm, h.sy, h.ok⟩
/-- A reference's table stays as it is where only maps change. -/
theorem RTb.modM {S : Nat → Prop} {w w' : World} {r : Nat} {X : List Exc} {C : List Bnd} (h : RTb w r X C) (hm : Mod S w w') (hS : ∀ k, S k → ∃ es c, w.heap[k]? = some (.map es c)) : RTb w' r X C := by
  obtain ⟨a, l, c, a', l', c', h1, h2, h3, h4, h5⟩ := h.ex
  have hrow : ∀ {α : Type} {L : Lay α} {e : TypeId} {a : Option Addr} {l c : Nat} {xs : List α}, Row L e w a l c xs → ∀ k, rowB a k → ¬ S k := by
    intro α L e a l c xs hr k hk hs
    rcases hr.block with ⟨rfl, _⟩ | ⟨g, cur, rfl, hg, _⟩
    · cases hk
    · have e1 := rowB_eq hk
      obtain ⟨es, cc, he⟩ := hS k hs
      rw [e1, he] at hg
      cases hg
  exact ⟨a, l, c, a', l', c', hm.at h1 (fun hs => by obtain ⟨es, cc, he⟩ := hS r hs; rw [he] at h1; cases h1), Row.mod h2 hm (hrow h2), Row.mod h3 hm (hrow h3), h4, h5⟩
theorem Tbl.maps {w : World} {t m1 m2 : Nat} {D : List Exc} {B : List Bnd} (h : Tbl w t m1 m2 D B) : ∀ k, of2 m1 m2 k → ∃ es c, w.heap[k]? = some (.map es c) := by
  rintro k (rfl | rfl)
  · obtain ⟨es, c, he, _⟩ := h.x; exact ⟨es, c, he⟩
  · obtain ⟨es, c, he, _⟩ := h.b; exact ⟨es, c, he⟩
/-- A table stays as it is where only a reference's changes. -/
theorem Tbl.modR {w w' : World} {t m1 m2 r : Nat} {D X : List Exc} {B C : List Bnd} (h : Tbl w t m1 m2 D B) (hr : RTb w r X C) (hm : Mod (on r) w w') : Tbl w' t m1 m2 D B := by
  obtain ⟨a, l, c, a', l', c', h1, _⟩ := hr.ex
  refine h.mod hm ?_ ?_ ?_
  · intro hS
    have hS : t = r := hS
    have := h.cell
    rw [hS, h1] at this
    cases this
  · intro hS
    have hS : m1 = r := hS
    obtain ⟨es, c, he, _⟩ := h.x
    rw [hS, h1] at he
    cases he
  · intro hS
    have hS : m2 = r := hS
    obtain ⟨es, c, he, _⟩ := h.b
    rw [hS, h1] at he
    cases he
abbrev of3 (m1 m2 r : Nat) : Nat → Prop := fun k => k = m1 ∨ k = m2 ∨ k = r

theorem mayA_perm {D X : List Exc} {B C : List Bnd} (hD : (D.map (·.n)).Nodup) (h : Sy D X B C) (n : ByteArray) : fx n X = fx n D ∧ hx n X = hx n D := by
  rw [fx, fx, hx, hx, h.find hD]; exact ⟨rfl, rfl⟩
theorem declR_perm {D X : List Exc} {B C : List Bnd} (hD : (D.map (·.n)).Nodup) (h : Sy D X B C) (x : Exc) : declR x X = declR x D := by
  rw [declR, declR, h.find hD, h.xlen]
theorem bindR_perm {D X : List Exc} {B C : List Bnd} (hD : (D.map (·.n)).Nodup) (h : Sy D X B C) (b : Bnd) : bindR b X C = bindR b D B := by
  have hb : (b ∈ C) = (b ∈ B) := propext (h.bp.mem_iff)
  obtain ⟨h1, h2⟩ := mayA_perm hD h b.x
  rw [bindR, bindR, h1, h2, h.blen]
  simp only [hb]
theorem decl_sy {D X X' : List Exc} {B C : List Bnd} (hD : (D.map (·.n)).Nodup) (h : Sy D X B C) (x : Exc) (hx : AddedX x X X') : Sy (declD x D) X' B C := by
  rw [AddedX, h.find hD, h.xlen] at hx
  rw [declD]
  split
  · rename_i hc
    rw [if_pos hc] at hx
    simp only [Bool.and_eq_true] at hc
    exact h.insX (by simpa using hc.1.2) hx
  · rename_i hc
    rw [if_neg hc] at hx
    rw [hx]; exact h
theorem bind_sy {D X : List Exc} {B C C' : List Bnd} (hD : (D.map (·.n)).Nodup) (h : Sy D X B C) (b : Bnd) (hb : AddedB b X C C') : Sy D X (bindB b D B) C' := by
  have he : (b ∈ C) = (b ∈ B) := propext h.bp.mem_iff
  obtain ⟨h1, h2⟩ := mayA_perm hD h b.x
  rw [AddedB, h1, h2, h.blen] at hb
  simp only [he] at hb
  rw [bindB]
  split
  · rename_i hc
    rw [if_pos hc] at hb
    exact h.insB hc.2.2.2.1 hb
  · rename_i hc
    rw [if_neg hc] at hb
    rw [hb]; exact h

section
variable {w : World} {t m1 m2 r : Nat} {D X : List Exc} {B C : List Bnd} (h : TB7 w t m1 m2 r D X B C)
include h
theorem TB7.bl : B.length < 1099511627776 := by have := h.ok.bl; omega
theorem TB7.cl : C.length < 1000000000 := by have := h.ok.bl; have := h.sy.blen; omega
theorem TB7.xl : X.length < 1000000000 := by have := h.ok.xl; have := h.sy.xlen; omega
theorem act_ok (x : Ac) (hp : x.b.p.size < 1000000000) (R : Value → World → Prop) (hR : ∀ w' D' X' B' C', TB7 w' t m1 m2 r D' X' B' C' → Mod (of3 m1 m2 r) w w' → R (.bool true) w') :
    Ca Tryz.prog 13 #[.pointer (some ⟨t, 0, none⟩), .pointer (some ⟨r, 0, none⟩), .agg ⟨acL.cs x⟩] w R := by
  refine (ca13 (some ⟨t, 0, none⟩) (some ⟨r, 0, none⟩) x.k x.e.n x.e.k x.e.f x.b.x x.b.q x.b.p w R ?_ : Ca _ _ _ _ _)
  have hD := h.tb.dn
  intro w0 e0
  have m0 : Mod no w w0 := by subst e0; exact Mod.alloc _ _
  have b0 : w0.heap[w.heap.size]? = some (.cells #[.int .i64 x.k, .string x.e.n, .int .i64 x.e.k, .bool x.e.f, .string x.b.x, .string x.b.q, .string x.b.p] 37 (0, 0)) := by subst e0; exact new_at _ _
  clear e0
  have t0 := h.no m0
  have hlt : w.heap.size < w0.heap.size := lt_of_heap b0
  have hold : ∀ k, of3 m1 m2 r k → k < w.heap.size := by
    obtain ⟨_, _, q1, _⟩ := h.tb.x
    obtain ⟨_, _, q2, _⟩ := h.tb.b
    obtain ⟨_, _, _, _, _, _, q3, _⟩ := h.rt.ex
    have := lt_of_heap q1
    have := lt_of_heap q2
    have := lt_of_heap q3
    rintro k (rfl | rfl | rfl) <;> assumption
  have keep : ∀ {S : Nat → Prop} {w1 w2 : World}, Mod S w1 w2 → (∀ k, S k → of3 m1 m2 r k) → w1.heap[w.heap.size]? = some (.cells #[.int .i64 x.k, .string x.e.n, .int .i64 x.e.k, .bool x.e.f, .string x.b.x, .string x.b.q, .string x.b.p] 37 (0, 0)) → w2.heap[w.heap.size]? = some (.cells #[.int .i64 x.k, .string x.e.n, .int .i64 x.e.k, .bool x.e.f, .string x.b.x, .string x.b.q, .string x.b.p] 37 (0, 0)) := by
    intro S w1 w2 hm hS hb
    exact hm.at hb fun hs => by have := hold _ (hS _ hs); omega
  have i1 : ∀ k, on m1 k → of3 m1 m2 r k := fun k hk => .inl hk
  have i2 : ∀ k, on m2 k → of3 m1 m2 r k := fun k hk => .inr (.inl hk)
  have i12 : ∀ k, of2 m1 m2 k → of3 m1 m2 r k := fun k hk => hk.imp id .inl
  have i3 : ∀ k, on r k → of3 m1 m2 r k := fun k hk => .inr (.inr hk)
  refine ⟨_, by rw [cl1 b0]; rfl, ifK_eq (fun _ => ?_) (fun _ => ifK_eq (fun _ => ?_) (fun _ => ifK_eq (fun _ => ?_) (fun _ => ifK_eq (fun _ => ?_) (fun _ => ifK_eq (fun _ => ?_) (fun _ => ifK_eq (fun _ => ?_) (fun _ => ?_))))))⟩
  · -- Declare
    intro w2 e0
    have m2' : Mod no w0 w2 := by subst e0; exact Mod.drew _
    clear e0
    have t2 := t0.no m2'
    have b2 := m2'.at' b0
    refine ⟨_, by rw [cl2 b2]; rfl, _, by rw [cl2 b2]; rfl, _, by rw [cl2 b2]; rfl, _, by rw [cl2 b2]; rfl, _, by rw [cl2 b2]; rfl, _, by rw [cl2 b2]; rfl, ?_⟩
    refine (declare_ok t2.tb x.e _ fun w10 hT n10 => ?_ : Ca _ _ _ _ _)
    have b10 := keep n10 i1 b2
    have r10 := t2.rt.modM n10 fun k hk => t2.tb.maps k (.inl hk)
    refine ⟨_, rfl, by rw [cl2 b10]; rfl, by rw [cl2 b10]; rfl, by rw [cl2 b10]; rfl, ?_⟩
    refine (declareR_ok r10 x.e t2.xl _ fun w13 X' hX r13 n13 => ?_ : Ca _ _ _ _ _)
    have b13 := keep n13 i3 b10
    have T13 := hT.modR r10 n13
    refine ⟨_, rfl, ?_⟩
    rw [declR_perm hD t2.sy]
    refine ifK_eq (fun _ => ?_) (fun hne => absurd rfl hne)
    refine ⟨_, by rw [cl2 b13]; rfl, _, by rw [cl2 b13]; rfl, _, by rw [cl2 b13]; rfl, _, by rw [cl2 b13]; rfl, _, by rw [cl2 b13]; rfl, _, by rw [cl2 b13]; rfl, ?_⟩
    refine (good_ok x.e w13 _ fun w22 n22 => ?_ : Ca _ _ _ _ _)
    have b22 := n22.at' b13
    refine ⟨_, rfl, by rw [cl2 b22]; rfl, by rw [cl2 b22]; rfl, by rw [cl2 b22]; rfl, ?_⟩
    refine (goodR_ok x.e w22 _ fun w25 n25 => ?_ : Ca _ _ _ _ _)
    refine ⟨_, rfl, ?_⟩
    rw [beq_self_eq_true]
    have n1325 := n22.trans n25
    exact hR w25 (declD x.e D) X' B C ⟨T13.no n1325, r13.no n1325, decl_sy hD t2.sy x.e hX, t2.ok.decl x.e⟩ ((((m0.trans m2').no_trans (n10.mono fun k _ hk => i1 k hk)).trans (n13.mono fun k _ hk => i3 k hk)).trans_no n1325)
  · -- Drop
    intro w2 e0
    have m2' : Mod no w0 w2 := by subst e0; exact Mod.drew _
    clear e0
    have t2 := t0.no m2'
    have b2 := m2'.at' b0
    refine ⟨_, by rw [cl2 b2]; rfl, _, by rw [cl2 b2]; rfl, ?_⟩
    refine drop_ok t2.tb x.e.n t2.bl _ fun w10 hT n10 => ?_
    have b10 := keep n10 i12 b2
    have r10 := t2.rt.modM n10 t2.tb.maps
    refine ⟨_, rfl, by rw [cl3 b10]; rfl, ?_⟩
    refine dropR_ok r10 x.e.n t2.cl t2.xl _ fun w13 r13 n13 => ?_
    have T13 := hT.modR r10 n13
    have hM := ((m0.trans m2').no_trans (n10.mono fun k _ hk => i12 k hk)).trans (n13.mono fun k _ hk => i3 k hk)
    refine ⟨_, rfl, ?_⟩
    have hhx := (mayA_perm hD t2.sy x.e.n).2
    rw [hhx] at r13 ⊢
    rw [beq_self_eq_true]
    cases hh : hx x.e.n D with
    | false =>
      rw [hh] at r13 T13
      exact hR w13 D X B C ⟨T13, r13, t2.sy, t2.ok⟩ hM
    | true =>
      rw [hh] at r13 T13
      exact hR w13 _ _ _ _ ⟨T13, r13, t2.sy.filt _ _, t2.ok.drop x.e.n⟩ hM
  · -- Bind
    intro w2 e0
    have m2' : Mod no w0 w2 := by subst e0; exact Mod.drew _
    clear e0
    have t2 := t0.no m2'
    have b2 := m2'.at' b0
    refine ⟨_, by rw [cl2 b2]; rfl, _, by rw [cl2 b2]; rfl, _, by rw [cl2 b2]; rfl, _, by rw [cl2 b2]; rfl, _, by rw [cl2 b2]; rfl, _, by rw [cl2 b2]; rfl, ?_⟩
    refine (bind_ok t2.tb x.b hp _ fun w10 hT n10 => ?_ : Ca _ _ _ _ _)
    have b10 := keep n10 i2 b2
    have r10 := t2.rt.modM n10 fun k hk => t2.tb.maps k (.inr hk)
    refine ⟨_, rfl, by rw [cl2 b10]; rfl, by rw [cl2 b10]; rfl, by rw [cl2 b10]; rfl, ?_⟩
    obtain ⟨hfx, hhx⟩ := mayA_perm hD t2.sy x.b.x
    refine (bindRef_ok r10 x.b t2.xl t2.cl (fun hh => by rw [hfx]; exact t2.ok.kind (hhx ▸ hh)) _ fun w13 C' hC r13 n13 => ?_ : Ca _ _ _ _ _)
    have T13 := hT.modR r10 n13
    refine ⟨_, rfl, ?_⟩
    rw [bindR_perm hD t2.sy, beq_self_eq_true]
    exact hR w13 D X (bindB x.b D B) C' ⟨T13, r13, bind_sy hD t2.sy x.b hC, t2.ok.bind x.b⟩ (((m0.trans m2').no_trans (n10.mono fun k _ hk => i2 k hk)).trans (n13.mono fun k _ hk => i3 k hk))
  · -- Unbind
    intro w2 e0
    have m2' : Mod no w0 w2 := by subst e0; exact Mod.drew _
    clear e0
    have t2 := t0.no m2'
    have b2 := m2'.at' b0
    refine ⟨_, by rw [cl2 b2]; rfl, _, by rw [cl2 b2]; rfl, _, by rw [cl2 b2]; rfl, _, by rw [cl2 b2]; rfl, _, by rw [cl2 b2]; rfl, _, by rw [cl2 b2]; rfl, ?_⟩
    refine (unbind_ok t2.tb x.b t2.bl _ fun w10 hT n10 => ?_ : Ca _ _ _ _ _)
    have b10 := keep n10 i2 b2
    have r10 := t2.rt.modM n10 fun k hk => t2.tb.maps k (.inr hk)
    refine ⟨_, rfl, by rw [cl2 b10]; rfl, by rw [cl2 b10]; rfl, by rw [cl2 b10]; rfl, ?_⟩
    refine (unbindR_ok r10 x.b t2.cl _ fun w13 r13 n13 => ?_ : Ca _ _ _ _ _)
    have T13 := hT.modR r10 n13
    have hM := ((m0.trans m2').no_trans (n10.mono fun k _ hk => i2 k hk)).trans (n13.mono fun k _ hk => i3 k hk)
    have hb : (x.b ∈ C) = (x.b ∈ B) := propext t2.sy.bp.mem_iff
    have hbf : x.b ∉ B → B.filter (fun b => !decide (b = x.b)) = B := fun hn => List.filter_eq_self.2 fun y hy => by
      have : y ≠ x.b := fun e => hn (e ▸ hy)
      simp [this]
    have hcf : x.b ∉ B → C.filter (fun b => !decide (b = x.b)) = C := fun hn => List.filter_eq_self.2 fun y hy => by
      have : y ≠ x.b := fun e => hn (e ▸ t2.sy.bp.mem_iff.1 hy)
      simp [this]
    refine ⟨_, rfl, ?_⟩
    simp only [hb] at r13 ⊢
    rw [beq_self_eq_true]
    by_cases hm : x.b ∈ B
    · rw [if_pos hm] at r13
      exact hR w13 D X _ _ ⟨T13, r13, t2.sy.filtB _, t2.ok.filtB _⟩ hM
    · rw [if_neg hm] at r13
      rw [hbf hm] at T13
      exact hR w13 D X B C ⟨T13, r13, t2.sy, t2.ok⟩ hM
  · -- Forget
    intro w2 e0
    have m2' : Mod no w0 w2 := by subst e0; exact Mod.drew _
    clear e0
    have t2 := t0.no m2'
    have b2 := m2'.at' b0
    refine ⟨_, by rw [cl2 b2]; rfl, _, by rw [cl2 b2]; rfl, ?_⟩
    refine forget_ok t2.tb x.b.q t2.bl _ fun w10 hT n10 => ?_
    have b10 := keep n10 i2 b2
    have r10 := t2.rt.modM n10 fun k hk => t2.tb.maps k (.inr hk)
    refine ⟨_, rfl, by rw [cl3 b10]; rfl, ?_⟩
    refine forgetR_ok r10 x.b.q t2.cl _ fun w13 r13 n13 => ?_
    have T13 := hT.modR r10 n13
    refine ⟨_, rfl, ?_⟩
    have s13 := t2.sy.filtB fun b => !decide (b.q = x.b.q)
    rw [t2.sy.blen, s13.blen, beq_self_eq_true]
    exact hR w13 D X _ _ ⟨T13, r13, s13, t2.ok.filtB _⟩ (((m0.trans m2').no_trans (n10.mono fun k _ hk => i2 k hk)).trans (n13.mono fun k _ hk => i3 k hk))
  · -- Find
    refine ⟨_, by rw [cl2 b0]; rfl, find_ok t0.tb x.e.n _ fun w73 n73 => ⟨_, _, _, _, rfl, ?_⟩⟩
    intro w78 e0
    have m78 : Mod no w73 w78 := by subst e0; exact Mod.alloc _ _
    have b78 : Xc w78 w73.heap.size exc0 := by subst e0; exact new_at _ _
    clear e0
    refine put3 b78 fun w84 m84 b84 => ?_
    have m7384 : Mod no w73 w84 := m78.new m84 fun k hk => by cases hk; exact Nat.le_refl _
    have n84 := n73.trans m7384
    have t84 := t0.no n84
    have c84 := n84.at' b0
    refine ⟨_, by rw [cl2 c84]; rfl, findR_ok t84.rt x.e.n t84.xl _ fun w87 n87 => ⟨_, _, _, _, rfl, ?_⟩⟩
    intro w92 e0
    have m92 : Mod no w87 w92 := by subst e0; exact Mod.alloc _ _
    have b92 : Xc w92 w87.heap.size exc0 := by subst e0; exact new_at _ _
    clear e0
    refine put3 b92 fun w98 m98 b98 => ?_
    have m8798 : Mod no w87 w98 := m92.new m98 fun k hk => by cases hk; exact Nat.le_refl _
    have n98 := n87.trans m8798
    have b84 := n98.at' b84
    obtain ⟨hfx, hhx⟩ := mayA_perm hD h.sy x.e.n
    refine ⟨_, by rw [cl1 b84]; rfl, _, by rw [cl1 b84]; rfl, _, by rw [cl1 b84]; rfl, _, by rw [cl1 b98]; rfl, _, by rw [cl1 b98]; rfl, _, by rw [cl1 b98]; rfl, ?_⟩
    refine eqA_agg exc_s.guard (exc_s.eq (fx x.e.n D) (fx x.e.n X)) ?_
    rw [hfx, decide_eq_true rfl, hhx]
    refine (ifK_of (fun _ => ?_) (fun h => by cases h) : ifK true _ _)
    rw [beq_self_eq_true]
    exact hR w98 D X B C ((t0.no n84).no n98) ((m0.trans n84).trans n98).of_no
  · exact hR w0 D X B C t0 m0.of_no
end
end Go.Proofs.YtehhhkcemmfjpaaGreatDoor

/- The laws of chapter 07: a list of acts, whether it is light; the examples; BindActs. -/
namespace Go.Proofs.YtehhhkcemmfjpaaGreatDoor
open Go Go.ChangeShapes Go.WideShapes Go.Deep Go.Proofs.YtehhhkcemmfjpaaGreatDoor Go.Proofs.YtehhhkcemmfjpaaGreatDoor.St

theorem _root_.Eq.no {w w' : World} {k : Nat} {o : Obj} (h : w.heap[k]? = some o) (m : Mod St.no w w') : w'.heap[k]? = some o := m.at' h

/-- Its texts are no longer than a machine can hold. -/
structure AcOk (x : Ac) : Prop where
  sn : x.e.n.size ≤ 140737488355328
  sx : x.b.x.size ≤ 140737488355328
  sq : x.b.q.size ≤ 140737488355328
  sp : x.b.p.size ≤ 140737488355328
structure Acs (w : World) (a : Option Addr) (l c : Nat) (xs : List Ac) : Prop where
  row : ArgRow acL w a l c xs
  ok : ∀ x ∈ xs, AcOk x
theorem Acs.no {w w' : World} {a : Option Addr} {l c : Nat} {xs : List Ac} (h : Acs w a l c xs) (hm : Mod St.no w w') : Acs w' a l c xs := ⟨h.row.no hm, h.ok⟩
/-- One of the acts is copied into a place of its own. -/
theorem copyAc {w : World} {a : Option Addr} {l c : Nat} {xs : List Ac} (hr : Acs w a l c xs) (i : Nat) (hi : i < xs.length) {K : World → Prop}
    (hk : ∀ w', w'.heap[w.heap.size]? = some (.cells (acL.cs xs[i]).toArray 37 (0, 0)) → Mod St.no w w' → K w') :
    ∃ ad : Addr, a = some ad ∧ (0 : Int) ≤ (i : Int) ∧ (i : Int) < (↑l : Int) ∧ ∃ x0 : Int, w.cell? (Addr.add (Addr.add ad (Int.toNat (i : Int) * 7)) 0) = some (.int .i64 x0) ∧
      ∃ x1 : ByteArray, w.cell? (Addr.add (Addr.add ad (Int.toNat (i : Int) * 7)) 1) = some (.string x1) ∧ ∃ x2 : Int, w.cell? (Addr.add (Addr.add ad (Int.toNat (i : Int) * 7)) 2) = some (.int .i64 x2) ∧
      ∃ x3 : Bool, w.cell? (Addr.add (Addr.add ad (Int.toNat (i : Int) * 7)) 3) = some (.bool x3) ∧ ∃ x4 : ByteArray, w.cell? (Addr.add (Addr.add ad (Int.toNat (i : Int) * 7)) 4) = some (.string x4) ∧
      ∃ x5 : ByteArray, w.cell? (Addr.add (Addr.add ad (Int.toNat (i : Int) * 7)) 5) = some (.string x5) ∧ ∃ x6 : ByteArray, w.cell? (Addr.add (Addr.add ad (Int.toNat (i : Int) * 7)) 6) = some (.string x6) ∧
      atW (w.alloc (.cells ⟨[.int .i64 0, .string ⟨#[]⟩, .int .i64 0, .bool false, .string ⟨#[]⟩, .string ⟨#[]⟩, .string ⟨#[]⟩]⟩ 37 (0, 0))) fun w1 => fillC w.heap.size [.int .i64 x0, .string x1, .int .i64 x2, .bool x3, .string x4, .string x5, .string x6] 0 w1 K := by
  obtain ⟨ad, had, hg⟩ := hr.row.get i hi
  have hl := hr.row.len
  have hg : ∀ j v, (acL.cs xs[i])[j]? = some v → w.cell? (Addr.add (Addr.add ad (Int.toNat (i : Int) * 7)) j) = some v := hg
  refine ⟨_, had, by omega, by omega, _, hg 0 _ rfl, _, hg 1 _ rfl, _, hg 2 _ rfl, _, hg 3 _ rfl, _, hg 4 _ rfl, _, hg 5 _ rfl, _, hg 6 _ rfl, ?_⟩
  intro w2 e0
  have m2 : Mod no w w2 := by subst e0; exact Mod.alloc _ _
  have b2 : w2.heap[w.heap.size]? = some (.cells #[.int .i64 0, .string (ByteArray.mk #[]), .int .i64 0, .bool false, .string (ByteArray.mk #[]), .string (ByteArray.mk #[]), .string (ByteArray.mk #[])] 37 (0, 0)) := by subst e0; exact new_at _ _
  clear e0
  refine fillC_ok (vs := acL.cs xs[i]) b2 rfl fun w3 b3 m3 _ => hk w3 b3 (m2.new m3 fun k hk => by cases hk; exact Nat.le_refl _)
theorem light_ok (a : Option Addr) (l c : Nat) (xs : List Ac) (w : World) (hr : Acs w a l c xs) (R : Value → World → Prop) (h : ∀ w' b, Mod St.no w w' → (b = true → l ≤ 300 ∧ ∀ x ∈ xs, x.b.p.size < 1000000000) → R (.bool b) w') : Ca Tryz.prog 11 #[.slice a l c] w R := by
  have hl := hr.row.len
  refine ca11 a l c w R ?_
  refine ⟨fun n x w' => ∃ (i k : Nat), x = i ∧ n = k ∧ i ≤ k ∧ k ≤ 300 ∧ i ≤ l ∧ Mod St.no w w' ∧ ∀ j (hj : j < xs.length), j < i → xs[j].b.p.size < 1000000000, fun _ x _ => ((l : Int) - x).toNat, ⟨0, 0, rfl, rfl, Nat.zero_le _, by decide, Nat.zero_le _, Mod.refl _ _, fun j _ h => by omega⟩, ?_⟩
  rintro _ _ _ w1 ⟨i, k, rfl, rfl, hik, hk, hi, m1, hall⟩
  refine ifK_dec (fun hlt => ?_) (fun hge => h w1 true m1 fun _ => ⟨by omega, fun x hx => by
    obtain ⟨j, hj, rfl⟩ := List.getElem_of_mem hx
    exact hall j hj (by omega)⟩)
  have hil : i < xs.length := by omega
  refine copyAc (hr.no m1) i hil fun w2 b2 m2 => ?_
  have hok := hr.ok xs[i] (List.getElem_mem hil)
  have h1 := hok.sn
  have h2 := hok.sx
  have h3 := hok.sq
  have h4 := hok.sp
  refine ⟨_, by rw [cl2 b2]; rfl, _, by rw [cl2 b2]; rfl, _, by rw [cl2 b2]; rfl, _, by rw [cl2 b2]; rfl, by decide, ?_⟩
  obtain ⟨q4, hq4⟩ : ∃ q4, (xs[i]).b.p.size = q4 := ⟨_, rfl⟩
  rw [hq4] at h4 ⊢
  generalize (xs[i]).e.n.size = q1 at h1
  generalize (xs[i]).b.x.size = q2 at h2
  generalize (xs[i]).b.q.size = q3 at h3
  clear hok b2
  have e1 : IntKind.i64.wrap (IntKind.i64.wrap (IntKind.i64.wrap ((q1 : Int) + (q2 : Int)) + (q3 : Int)) + (q4 : Int)) = ((q1 + q2 + q3 + q4 : Nat) : Int) := by rw [wrap64 (x := (q1 : Int) + (q2 : Int)) (by omega) (by omega), wrap64 (x := (q1 : Int) + (q2 : Int) + (q3 : Int)) (by omega) (by omega), wrap64 (by omega) (by omega)]; omega
  have e2 : Int.tdiv ((q1 + q2 + q3 + q4 : Nat) : Int) 100 = ((q1 + q2 + q3 + q4) / 100 : Nat) := by rw [Int.tdiv_eq_ediv_of_nonneg (by omega)]; omega
  rw [e1, e2]
  have e3 : IntKind.i64.wrap (((q1 + q2 + q3 + q4) / 100 : Nat) : Int) = ((q1 + q2 + q3 + q4) / 100 : Nat) := wrap64 (by omega) (by omega)
  rw [e3]
  have e4 : IntKind.i64.wrap (1 + (((q1 + q2 + q3 + q4) / 100 : Nat) : Int)) = (1 + (q1 + q2 + q3 + q4) / 100 : Nat) := by rw [wrap64 (by omega) (by omega)]; omega
  rw [e4]
  have e5 : IntKind.i64.wrap ((k : Int) + ((1 + (q1 + q2 + q3 + q4) / 100 : Nat) : Int)) = (k + (1 + (q1 + q2 + q3 + q4) / 100) : Nat) := by rw [wrap64 (by omega) (by omega)]; omega
  rw [e5]
  have e6 : IntKind.i64.wrap ((i : Int) + 1) = ((i + 1 : Nat) : Int) := by rw [wrap64 (by omega) (by omega)]; rfl
  rw [e6]
  have hz1 : q4 / 100 ≤ (q1 + q2 + q3 + q4) / 100 := Nat.div_le_div_right (by omega)
  generalize (q1 + q2 + q3 + q4) / 100 = z at hz1
  refine ifK_dec (fun _ => h w2 false (m1.trans m2) fun h => by cases h) (fun hz => ?_)
  refine ⟨⟨i + 1, k + (1 + z), rfl, rfl, by omega, by omega, by omega, m1.trans m2, fun j hj hji => ?_⟩, by simp only; omega⟩
  by_cases e : j = i
  · subst e; omega
  · exact hall j hj (by omega)

/-! ### The examples -/
def exX : Exc := ⟨⟨#[120]⟩, 3, false⟩
def exB : Bnd := ⟨⟨#[120]⟩, ⟨#[113]⟩, ⟨#[97, 46, 42]⟩⟩
theorem ex_declR : declR exX [] = 0 := by decide +kernel
theorem ex_declD : declD exX [] = [exX] := by decide +kernel
theorem ex_bindR : bindR exB [exX] [] = 0 := by decide +kernel
theorem ex_bindB : bindB exB [exX] [] = [exB] := by decide +kernel
theorem ex_bindR2 : bindR exB [exX] [exB] = 0 := by decide +kernel
theorem ex_bindB2 : bindB exB [exX] [exB] = [exB] := by decide +kernel
theorem ex_fx : fx ⟨#[120]⟩ [exX] = exX := by decide +kernel
theorem ex_hx : hx ⟨#[120]⟩ [exX] = true := by decide +kernel
theorem ex_dropD : ([exX].filter fun e => !(e.n == ⟨#[120]⟩)) = [] := by decide +kernel
theorem ex_dropB : ([exB].filter fun b => !decide (b.x = ⟨#[120]⟩)) = [] := by decide +kernel
theorem lives_ok (w : World) (R : Value → World → Prop) (h : ∀ w', Mod St.no w w' → R (.bool true) w') : Ca Tryz.prog 12 #[] w R := by
  refine ca12 w R ?_
  refine new_ok w _ fun w1 t m1 m2 hT n1 ht hm1 hm2 => ⟨_, rfl, ?_⟩
  intro w3 e0
  have n3 : Mod no w1 w3 := by subst e0; exact Mod.alloc _ _
  have b3 : Xc w3 w1.heap.size exc0 := by subst e0; exact new_at _ _
  clear e0
  refine put3 b3 fun w9 n9 b9 => ?_
  have n19 : Mod St.no w1 w9 := n3.new n9 fun k hk => by cases hk; exact Nat.le_refl _
  have b9 : Xc w9 w1.heap.size exX := b9
  intro w10 e0
  have n10 : Mod no w9 w10 := by subst e0; exact Mod.alloc _ _
  have b10 : w10.heap[w9.heap.size]? = some (.cells #[.string (ByteArray.mk #[]), .string (ByteArray.mk #[]), .string (ByteArray.mk #[])] 35 (0, 0)) := by subst e0; exact new_at _ _
  clear e0
  refine put3 b10 fun w16 n16 b16 => ?_
  have b16 : Bc w16 w9.heap.size exB := b16
  have n916 : Mod St.no w9 w16 := n10.new n16 fun k hk => by cases hk; exact Nat.le_refl _
  have b9 := b9.no n916
  have hT := (hT.no n19).no n916
  have g1 := n1.size
  have g2 := n19.size
  have g3 := n916.size
  have l9 := lt_of_heap b9
  have l16 := lt_of_heap b16
  have m16 := (n1.trans n19).trans n916
  have nx : w1.heap.size ≠ m1 ∧ w1.heap.size ≠ m2 ∧ w9.heap.size ≠ m1 ∧ w9.heap.size ≠ m2 := by
    obtain ⟨_, _, q1, _⟩ := hT.x
    obtain ⟨_, _, q2, _⟩ := hT.b
    refine ⟨?_, ?_, ?_, ?_⟩ <;> intro e
    · rw [← e, b9] at q1; cases q1
    · rw [← e, b9] at q2; cases q2
    · rw [← e, b16] at q1; cases q1
    · rw [← e, b16] at q2; cases q2
  refine (ifK_of (fun h => by cases h) (fun _ => ?_) : ifK false _ _)
  refine ⟨_, by rw [cl1 b9]; rfl, _, by rw [cl1 b9]; rfl, _, by rw [cl1 b9]; rfl, ?_⟩
  refine (declare_ok hT exX _ fun w21 hT21 n21 => ?_ : Ca _ _ _ _ _)
  rw [ex_declR]
  rw [ex_declD] at hT21
  have m21 := m16.new n21 fun k hk => by cases hk; exact hm1
  have b9 := n21.at b9 nx.1
  have b16 := n21.at b16 nx.2.2.1
  refine ⟨_, rfl, (ifK_of (fun h => by cases h) (fun _ => ?_) : ifK false _ _)⟩
  refine ⟨_, by rw [cl1 b16]; rfl, _, by rw [cl1 b16]; rfl, _, by rw [cl1 b16]; rfl, ?_⟩
  refine (bind_ok hT21 exB (by decide) _ fun w27 hT27 n27 => ?_ : Ca _ _ _ _ _)
  rw [ex_bindR]
  rw [ex_bindB] at hT27
  have m27 := m21.new n27 fun k hk => by cases hk; exact hm2
  have b9 := n27.at b9 nx.2.1
  have b16 := n27.at b16 nx.2.2.2
  refine ⟨_, rfl, (ifK_of (fun h => by cases h) (fun _ => ?_) : ifK false _ _)⟩
  refine ⟨_, by rw [cl1 b16]; rfl, _, by rw [cl1 b16]; rfl, _, by rw [cl1 b16]; rfl, ?_⟩
  refine (bind_ok hT27 exB (by decide) _ fun w33 hT33 n33 => ?_ : Ca _ _ _ _ _)
  rw [ex_bindR2]
  rw [ex_bindB2] at hT33
  have m33 := m27.new n33 fun k hk => by cases hk; exact hm2
  have b9 := n33.at b9 nx.2.1
  refine ⟨_, rfl, (ifK_of (fun h => by cases h) (fun _ => ?_) : ifK false _ _)⟩
  refine bindings_ok hT33 (by decide) _ fun w36 p l c bs hbs hp _ n36 _ => ⟨_, _, _, rfl, ?_⟩
  have hl : l = 1 := by have := hbs.len.1; have := hp.length_eq; simp at this; omega
  subst hl
  refine (ifK_of (fun h => by cases h) (fun _ => ?_) : ifK false _ _)
  have hT36 := hT33.no n36
  refine find_ok hT36 _ _ fun w41 n41 => ?_
  rw [ex_fx, ex_hx]
  refine ⟨_, _, _, _, rfl, ?_⟩
  intro w46 e0
  have n46 : Mod no w41 w46 := by subst e0; exact Mod.alloc _ _
  have b46 : Xc w46 w41.heap.size exc0 := by subst e0; exact new_at _ _
  clear e0
  refine put3 b46 fun w52 n52 b52 => ?_
  have n4152 : Mod St.no w41 w52 := n46.new n52 fun k hk => by cases hk; exact Nat.le_refl _
  have b52 : Xc w52 w41.heap.size exX := b52
  have n3652 := n41.trans n4152
  have b9 := n3652.at' (n36.at' b9)
  refine (ifK_of (fun _ => ?_) (fun h => by cases h) : ifK true _ _)
  refine ⟨_, by rw [cl1 b52]; rfl, _, by rw [cl1 b52]; rfl, _, by rw [cl1 b52]; rfl, _, by rw [cl1 b9]; rfl, _, by rw [cl1 b9]; rfl, _, by rw [cl1 b9]; rfl, ?_⟩
  refine eqA_agg exc_s.guard (exc_s.eq exX exX) ?_
  rw [decide_eq_true rfl]
  refine (ifK_of (fun _ => ?_) (fun h => by cases h) : ifK true _ _)
  have m52 := (m33.trans n36).trans n3652
  refine drop_ok (hT36.no n3652) _ (by decide) _ fun w62 hT62 n62 => ?_
  rw [ex_hx] at hT62 ⊢
  simp only [if_true, ex_dropD, ex_dropB] at hT62
  have m62 := m52.new n62 fun k hk => by rcases hk with rfl | rfl <;> assumption
  refine ⟨_, rfl, (ifK_of (fun _ => ?_) (fun h => by cases h) : ifK true _ _)⟩
  refine bindings_ok hT62 (by decide) _ fun w65 p l c bs hbs hp _ n65 _ => ⟨_, _, _, rfl, ?_⟩
  have hl : l = 0 := by have h1 := hbs.len.1; have h2 : bs.length = 0 := hp.length_eq; omega
  subst hl
  refine (ifK_of (fun _ => ?_) (fun h => by cases h) : ifK true _ _)
  refine drop_ok (hT62.no n65) _ (by decide) _ fun w70 _ n70 => ?_
  exact ⟨_, rfl, h w70 ((m62.trans n65).new n70 fun k hk => by rcases hk with rfl | rfl <;> assumption)⟩
theorem TB7.new {w w' : World} {t m1 m2 : Nat} (hT : Tbl w t m1 m2 [] []) (n : Mod St.no w w') (hr : w'.heap[w.heap.size]? = some (.cells #[.slice none 0 0, .slice none 0 0] 29 (0, 0))) : TB7 w' t m1 m2 w.heap.size [] [] [] [] :=
  ⟨hT.no n, ⟨none, 0, 0, none, 0, 0, hr, Row.empty _ _ _, Row.empty _ _ _, fun h => (by cases h), fun h => (by cases h)⟩, sy_nil, ok7_nil⟩
theorem acts_walk (aa : Option Addr) (al ac : Nat) (xs : List Ac) (w : World) (hx : Acs w aa al ac xs) (R : Value → World → Prop) (hR : ∀ w', Mod St.no w w' → R (.bool true) w') : Ca Tryz.prog 3 #[.slice aa al ac] w R := by
  refine ca3 aa al ac w R ?_
  have hxl := hx.row.len
  have lives : ∀ w', Mod St.no w w' → Ca Tryz.prog 12 #[] w' fun v w'' => ∃ b, v = .bool b ∧ R (.bool b) w'' := fun w' m => lives_ok w' _ fun w'' m' => ⟨_, rfl, hR w'' (m.trans m')⟩
  refine new_ok w _ fun w1 t m1 m2 hT n1 ht hm1 hm2 => ⟨_, rfl, ?_⟩
  intro w3 e0
  have n3 : Mod no w1 w3 := by subst e0; exact Mod.alloc _ _
  have b3 : w3.heap[w1.heap.size]? = some (.cells #[.slice none 0 0, .slice none 0 0] 29 (0, 0)) := by subst e0; exact new_at _ _
  clear e0
  have T3 := TB7.new hT n3 b3
  have hr := n1.size
  clear b3 hT
  have n03 := n1.trans n3
  refine (ifK_of (fun h => by cases h) (fun _ => ?_) : ifK false _ _)
  refine light_ok aa al ac xs w3 (hx.no n03) _ fun w8 b n8 hb => ⟨b, rfl, ?_⟩
  have n08 := n03.trans n8
  cases b with
  | false =>
    refine (ifK_of (fun _ => ?_) (fun h => by cases h) : ifK true _ _)
    refine (ifK_of (fun _ => ?_) (fun h => by cases h) : ifK true _ _)
    exact lives w8 n08
  | true =>
  obtain ⟨hl, hp⟩ := hb rfl
  refine (ifK_of (fun h => by cases h) (fun _ => ?_) : ifK false _ _)
  refine ⟨fun y w' => ∃ (i : Nat) (D X : List Exc) (B C : List Bnd), y = i ∧ i ≤ al ∧ Mod St.no w w' ∧ TB7 w' t m1 m2 w1.heap.size D X B C, fun y _ => ((al : Int) - y).toNat, ⟨0, [], [], [], [], rfl, Nat.zero_le _, n08, T3.no n8⟩, ?_⟩
  rintro _ _ w17 ⟨i, D, X, B, C, rfl, hi, n17, T17⟩
  refine ifK_dec (fun hlt => ?_) (fun hge => lives w17 n17)
  have hil : i < xs.length := by omega
  have e1 : IntKind.i64.wrap ((i : Int) + 1) = ((i + 1 : Nat) : Int) := (by first | (simp only [IntKind.wrap_i64]; omega) | omega)
  rw [e1]
  clear e1
  refine copyAc (hx.no n17) i hil fun w40 b40 n40 => ?_
  have hp := hp xs[i] (List.getElem_mem hil)
  generalize xs[i] = x at hp b40
  have b40 : w40.heap[w17.heap.size]? = some (.cells #[.int .i64 x.k, .string x.e.n, .int .i64 x.e.k, .bool x.e.f, .string x.b.x, .string x.b.q, .string x.b.p] 37 (0, 0)) := b40
  refine ⟨_, by rw [cl1 b40]; rfl, _, by rw [cl1 b40]; rfl, _, by rw [cl1 b40]; rfl, _, by rw [cl1 b40]; rfl, _, by rw [cl1 b40]; rfl, _, by rw [cl1 b40]; rfl, _, by rw [cl1 b40]; rfl, ?_⟩
  refine (act_ok (T17.no n40) x hp _ fun w49 D X B C T49 n49 => ?_ : Ca _ _ _ _ _)
  have n049 := (n17.trans n40).new n49 fun k hk => by rcases hk with rfl | rfl | rfl <;> assumption
  refine ⟨_, rfl, (ifK_of (fun h => by cases h) (fun _ => ?_) : ifK false _ _)⟩
  refine exchanges_ok T49.tb (by have := T49.ok.xl; omega) _ fun w52 p q s xs' hxs hpx hsx n52 _ => ⟨_, _, _, rfl, ?_⟩
  have T52 := T49.no n52
  refine bindings_ok T52.tb (by have := T49.ok.bl; omega) _ fun w57 p' q' s' bs hbs hpb hsb n57 _ => ⟨_, _, _, rfl, ?_⟩
  have T57 := T52.no n57
  refine same_ok T57.rt (hxs.no n57) hbs T57.xl T57.cl _ fun w62 n62 => ⟨_, rfl, ?_⟩
  have ex := T57.sy.exs T57.tb.dn hpx (by rw [hxs.len.1]; exact hsx)
  have eb := T57.sy.bnds hpb (by rw [hbs.len.1]; exact hsb)
  rw [decide_eq_true ⟨ex, eb⟩]
  refine (ifK_of (fun h => by cases h) (fun _ => ?_) : ifK false _ _)
  exact ⟨⟨i + 1, D, X, B, C, rfl, by omega, ((n049.trans n52).trans n57).trans n62, T57.no n62⟩, by simp only; omega⟩
end Go.Proofs.YtehhhkcemmfjpaaGreatDoor

/- Leaves, opened; an exchange and a binding among the arguments, and rows of the laws' acts. -/
namespace Go.Proofs.YtehhhkcemmfjpaaGreatDoor.St
open Go Go.ChangeShapes Go.WideShapes Go.Deep
section
variable {P : Program} {w : World} {B n : Nat} {t : TypeId} {cs : List Value}
theorem leaf_struct {fs : Array Field} (ht : P.underlying t = some (.struct fs)) (h : Leaf P w B (n + 1) t cs) : cs.length = P.cellsOf t ∧ ∀ (i : Nat) (f : Field), fs[i]? = some f → Leaf P w B n f.type ((cs.drop f.offset).take (P.cellsOf f.type)) := by
  unfold Leaf at h; rw [ht] at h; exact h
theorem leaf_int {k : IntKind} (ht : P.underlying t = some (.int k)) (h : Leaf P w B (n + 1) t cs) : ∃ x, cs = [.int k x] ∧ (Lit.int k x).wf = true := by
  unfold Leaf at h; rw [ht] at h; exact h
theorem leaf_string (ht : P.underlying t = some .string) (h : Leaf P w B (n + 1) t cs) : ∃ s : ByteArray, cs = [.string s] ∧ s.size ≤ B := by
  unfold Leaf at h; rw [ht] at h; exact h
theorem leaf_bool (ht : P.underlying t = some .bool) (h : Leaf P w B (n + 1) t cs) : ∃ b, cs = [.bool b] := by
  unfold Leaf at h; rw [ht] at h; exact h
theorem leaf_slice {e : TypeId} (ht : P.underlying t = some (.slice e)) (h : Leaf P w B (n + 1) t cs) : ∃ (a : Option Addr) (l c : Nat), cs = [.slice a l c] ∧ l ≤ c ∧ c ≤ 9223372036854775807 ∧ c * P.bytesOf e ≤ B ∧ (a = none → c = 0) ∧
        ∀ i, i < l → ∃ ad, a = some ad ∧ ∃ cs', cs'.length = P.cellsOf e ∧ (∀ j v, cs'[j]? = some v → w.cell? (Addr.add (Addr.add ad (i * P.cellsOf e)) j) = some v) ∧ Leaf P w B n e cs' := by
  unfold Leaf at h; rw [ht] at h; exact h
/-- A field of one cell. -/
theorem field1 {fs : Array Field} {f : Field} (h : ∀ (i : Nat) (f : Field), fs[i]? = some f → Leaf P w B n f.type ((cs.drop f.offset).take (P.cellsOf f.type))) (i : Nat) (hf : fs[i]? = some f) {o : Nat} (ho : f.offset = o) {u : TypeId} (hu : f.type = u) {k : Nat} (hk : P.cellsOf u = k) : Leaf P w B n u ((cs.drop o).take k) := by
  subst ho; subst hu; subst hk; exact h i f hf
end
theorem row_arg {H : Type} {enc : TypeId × Value → H} {P : Program} {w : World} {v : Value} {d : DataW H} {p : List MemPlace} {base : Nat} {r : Reach} {b0 : Nat} {t e : TypeId} {α : Type} [Inhabited α] {L : Lay α} (Q : α → Prop) {B : Nat} (n : Nat) (ht : P.underlying t = some (.slice e))
    (hs : L.s = P.cellsOf e) (hv : Value.okWide P w r b0 t v) (h : DataW.Trod enc P w base (fun _ => true) true t v d p) (hz : ∀ n ∈ d.weights P t, n ≤ B) (hx : ∀ cs, cs.length = L.s → Leaf P w B n e cs → ∃ x, L.cs x = cs ∧ Q x) :
    ∃ a l c xs, v = .slice a l c ∧ ArgRow L w a l c xs ∧ (∀ x ∈ xs, Q x) ∧ c * P.bytesOf e ≤ B ∧ (a = none → c = 0) := by
  obtain ⟨a, l, c, rfl⟩ := okWide_slice ht hv
  obtain ⟨fuel, hf⟩ := h
  obtain ⟨a', l', c', hcs, h1, h2, h3, h3', h4⟩ := leaf_slice ht (leaf_of (n + 1) hf hz)
  simp only [Value.cells, List.cons.injEq, and_true] at hcs
  injection hcs with e1 e2 e3
  subst e1; subst e2; subst e3
  obtain ⟨xs, h5, h6⟩ := leaf_row Q hs hx h1 h2 h4
  exact ⟨a, l, c, xs, rfl, h5, h6, h3, h3'⟩
theorem struct_arg {H : Type} {enc : TypeId × Value → H} {P : Program} {w : World} {v : Value} {d : DataW H} {p : List MemPlace} {base : Nat} {r : Reach} {b0 : Nat} {t : TypeId} {fs : Array Field} {B : Nat} (n : Nat) (ht : P.underlying t = some (.struct fs))
    (hv : Value.okWide P w r b0 t v) (h : DataW.Trod enc P w base (fun _ => true) true t v d p) (hz : ∀ n ∈ d.weights P t, n ≤ B) : ∃ cs : List Value, v = .agg ⟨cs⟩ ∧ Leaf P w B n t cs := by
  obtain ⟨cs, rfl, _⟩ := okWide_struct ht hv
  obtain ⟨fuel, hf⟩ := h
  exact ⟨cs.toList, rfl, leaf_of n hf hz⟩
end Go.Proofs.YtehhhkcemmfjpaaGreatDoor.St
namespace Go.Proofs.YtehhhkcemmfjpaaGreatDoor
open Go Go.ChangeShapes Go.WideShapes Go.Deep Go.Proofs.YtehhhkcemmfjpaaGreatDoor Go.Proofs.YtehhhkcemmfjpaaGreatDoor.St

theorem c_str : Tryz.prog.cellsOf 9 = 1 := by kernel_rfl
theorem c_int : Tryz.prog.cellsOf 3 = 1 := by kernel_rfl
theorem c_bool : Tryz.prog.cellsOf 4 = 1 := by kernel_rfl
theorem c_exc : Tryz.prog.cellsOf 33 = 3 := by kernel_rfl
theorem c_bnd : Tryz.prog.cellsOf 35 = 3 := by kernel_rfl
theorem c_act : Tryz.prog.cellsOf 37 = 7 := by kernel_rfl
set_option maxRecDepth 100000 in
theorem leaf_exc {w : World} {B n : Nat} {cs : List Value} (h : Leaf Tryz.prog w B (n + 2) 33 cs) : ∃ e : Exc, cs = e.cs ∧ e.n.size ≤ B := by
  obtain ⟨hl, hf⟩ := leaf_struct Tryz.underlying33 h
  rw [c_exc] at hl
  match cs, hl with
  | [c0, c1, c2], _ =>
    obtain ⟨s, e0, hs⟩ := leaf_string Tryz.underlying9 (field1 (o := 0) hf 0 rfl rfl rfl c_str)
    obtain ⟨k, e1, _⟩ := leaf_int Tryz.underlying3 (field1 (o := 1) hf 1 rfl rfl rfl c_int)
    obtain ⟨f, e2⟩ := leaf_bool Tryz.underlying4 (field1 (o := 2) hf 2 rfl rfl rfl c_bool)
    have e0 : [c0] = [Value.string s] := e0
    have e1 : [c1] = [Value.int .i64 k] := e1
    have e2 : [c2] = [Value.bool f] := e2
    simp only [List.cons.injEq, and_true] at e0 e1 e2
    exact ⟨⟨s, k, f⟩, by rw [e0, e1, e2]; rfl, hs⟩
set_option maxRecDepth 100000 in
theorem leaf_bnd {w : World} {B n : Nat} {cs : List Value} (h : Leaf Tryz.prog w B (n + 2) 35 cs) : ∃ e : Bnd, cs = e.cs ∧ e.x.size ≤ B ∧ e.q.size ≤ B ∧ e.p.size ≤ B := by
  obtain ⟨hl, hf⟩ := leaf_struct Tryz.underlying35 h
  rw [c_bnd] at hl
  match cs, hl with
  | [c0, c1, c2], _ =>
    obtain ⟨s, e0, hs⟩ := leaf_string Tryz.underlying9 (field1 (o := 0) hf 0 rfl rfl rfl c_str)
    obtain ⟨k, e1, hk⟩ := leaf_string Tryz.underlying9 (field1 (o := 1) hf 1 rfl rfl rfl c_str)
    obtain ⟨f, e2, hf'⟩ := leaf_string Tryz.underlying9 (field1 (o := 2) hf 2 rfl rfl rfl c_str)
    have e0 : [c0] = [Value.string s] := e0
    have e1 : [c1] = [Value.string k] := e1
    have e2 : [c2] = [Value.string f] := e2
    simp only [List.cons.injEq, and_true] at e0 e1 e2
    exact ⟨⟨s, k, f⟩, by rw [e0, e1, e2]; rfl, hs, hk, hf'⟩
set_option maxRecDepth 100000 in
theorem leaf_act {w : World} {n : Nat} {cs : List Value} (h : Leaf Tryz.prog w reachBytes (n + 3) 37 cs) : ∃ x : Ac, acL.cs x = cs ∧ AcOk x := by
  obtain ⟨hl, hf⟩ := leaf_struct Tryz.underlying37 h
  rw [c_act] at hl
  match cs, hl with
  | [c0, c1, c2, c3, c4, c5, c6], _ =>
    obtain ⟨k, e0, _⟩ := leaf_int Tryz.underlying3 (field1 (o := 0) hf 0 rfl rfl rfl c_int)
    obtain ⟨e, e1, h1⟩ := leaf_exc (field1 (o := 1) hf 1 rfl rfl rfl c_exc)
    obtain ⟨b, e2, h2, h3, h4⟩ := leaf_bnd (field1 (o := 4) hf 2 rfl rfl rfl c_bnd)
    have e0 : [c0] = [Value.int .i64 k] := e0
    have e1 : [c1, c2, c3] = e.cs := e1
    have e2 : [c4, c5, c6] = b.cs := e2
    simp only [List.cons.injEq, and_true, Exc.cs, Bnd.cs] at e0 e1 e2
    obtain ⟨q1, q2, q3⟩ := e1
    obtain ⟨q4, q5, q6⟩ := e2
    have hb : reachBytes ≤ 140737488355328 := by decide
    exact ⟨⟨k, e, b⟩, by rw [e0, q1, q2, q3, q4, q5, q6]; rfl, by show e.n.size ≤ _; omega, by show b.x.size ≤ _; omega, by show b.q.size ≤ _; omega, by show b.p.size ≤ _; omega⟩
set_option maxRecDepth 100000 in
theorem args_acs {H : Type} {enc : TypeId × Value → H} {w : World} {v : Value} {d : DataW H} {p : List MemPlace} {base : Nat} {r : Reach} {b0 : Nat} (hv : Value.okWide Tryz.prog w r b0 22 v) (h : DataW.Trod enc Tryz.prog w base (fun _ => true) true 22 v d p)
    (hz : ∀ n ∈ d.weights Tryz.prog 22, n ≤ reachBytes) : ∃ a l c xs, v = .slice a l c ∧ Acs w a l c xs := by
  obtain ⟨a, l, c, xs, h1, h2, h3, h4, h5⟩ := row_arg (L := acL) AcOk 3 Tryz.underlying22 c_act.symm hv h hz fun cs _ hl => leaf_act hl
  exact ⟨a, l, c, xs, h1, h2, h3⟩
/-- The same; it is no longer than a machine can hold. -/
structure AcsB (w : World) (a : Option Addr) (l c : Nat) (xs : List Ac) : Prop where
  acs : Acs w a l c xs
  bytes : c * Tryz.prog.bytesOf 37 ≤ 140737488351232
  nil : a = none → c = 0
set_option maxRecDepth 100000 in
theorem args_acsB {H : Type} {enc : TypeId × Value → H} {w : World} {v : Value} {d : DataW H} {p : List MemPlace} {base : Nat} {r : Reach} {b0 : Nat} (hv : Value.okWide Tryz.prog w r b0 22 v) (h : DataW.Trod enc Tryz.prog w base (fun _ => true) true 22 v d p)
    (hz : ∀ n ∈ d.weights Tryz.prog 22, n ≤ reachBytes) : ∃ a l c xs, v = .slice a l c ∧ AcsB w a l c xs := by
  obtain ⟨a, l, c, xs, h1, h2, h3, h4, h5⟩ := row_arg (L := acL) AcOk 3 Tryz.underlying22 c_act.symm hv h hz fun cs _ hl => leaf_act hl
  exact ⟨a, l, c, xs, h1, ⟨h2, h3⟩, h4, h5⟩
/-- A binding's texts are no longer than a machine can hold. -/
structure BndOk (b : Bnd) : Prop where
  sx : b.x.size ≤ 140737488355328
  sq : b.q.size ≤ 140737488355328
  sp : b.p.size ≤ 140737488355328
set_option maxRecDepth 100000 in
theorem args_bnd {H : Type} {enc : TypeId × Value → H} {w : World} {v : Value} {d : DataW H} {p : List MemPlace} {base : Nat} {r : Reach} {b0 : Nat} (hv : Value.okWide Tryz.prog w r b0 35 v) (h : DataW.Trod enc Tryz.prog w base (fun _ => true) true 35 v d p)
    (hz : ∀ n ∈ d.weights Tryz.prog 35, n ≤ reachBytes) : ∃ b : Bnd, v = .agg ⟨b.cs⟩ ∧ BndOk b := by
  obtain ⟨cs, h1, h2⟩ := struct_arg 2 Tryz.underlying35 hv h hz
  obtain ⟨b, h3, h4, h5, h6⟩ := leaf_bnd h2
  have hb : reachBytes ≤ 140737488355328 := by decide
  exact ⟨b, by rw [h1, h3], by omega, by omega, by omega⟩
end Go.Proofs.YtehhhkcemmfjpaaGreatDoor

/- The walk of BindHolds. -/
namespace Go.Proofs.YtehhhkcemmfjpaaGreatDoor
open Go Go.ChangeShapes Go.WideShapes Go.Deep Go.Proofs.YtehhhkcemmfjpaaGreatDoor Go.Proofs.YtehhhkcemmfjpaaGreatDoor.St

theorem pw_at {α : Type} [Inhabited α] {r : α → α → Prop} {X : List α} (h : X.Pairwise r) {i : Nat} (hi : i + 1 < X.length) : r (at0 X i) (at0 X (i + 1)) := by
  rw [at0_eq (by omega), at0_eq hi]
  exact List.pairwise_iff_getElem.1 h i (i + 1) (by omega) hi (by omega)
theorem at0_mem {α : Type} [Inhabited α] {X : List α} {i : Nat} (hi : i < X.length) : at0 X i ∈ X := by rw [at0_eq hi]; exact List.getElem_mem hi
theorem holds_walk (aa : Option Addr) (al ac : Nat) (xs : List Ac) (w : World) (hA : Acs w aa al ac xs) (R : Value → World → Prop) (hR : ∀ w', Mod St.no w w' → R (.bool true) w') : Ca Tryz.prog 4 #[.slice aa al ac] w R := by
  refine ca4 aa al ac w R ?_
  have hxl := hA.row.len
  have lives : ∀ w', Mod St.no w w' → Ca Tryz.prog 12 #[] w' fun v w'' => ∃ b, v = .bool b ∧ R (.bool b) w'' := fun w' m => lives_ok w' _ fun w'' m' => ⟨_, rfl, hR w'' (m.trans m')⟩
  refine new_ok w _ fun w1 t m1 m2 hT n1 ht hm1 hm2 => ⟨_, rfl, ?_⟩
  intro w3 e0
  have n3 : Mod no w1 w3 := by subst e0; exact Mod.alloc _ _
  have b3 : w3.heap[w1.heap.size]? = some (.cells #[.slice none 0 0, .slice none 0 0] 29 (0, 0)) := by subst e0; exact new_at _ _
  clear e0
  have T3 := TB7.new hT n3 b3
  have hr := n1.size
  clear b3 hT
  have n03 := n1.trans n3
  refine (ifK_of (fun h => by cases h) (fun _ => ?_) : ifK false _ _)
  refine light_ok aa al ac xs w3 (hA.no n03) _ fun w8 b n8 hb => ⟨b, rfl, ?_⟩
  have n08 := n03.trans n8
  cases b with
  | false =>
    refine (ifK_of (fun _ => ?_) (fun h => by cases h) : ifK true _ _)
    refine (ifK_of (fun _ => ?_) (fun h => by cases h) : ifK true _ _)
    exact lives w8 n08
  | true =>
  obtain ⟨hl, hp⟩ := hb rfl
  refine (ifK_of (fun h => by cases h) (fun _ => ?_) : ifK false _ _)
  refine ⟨fun y w' => ∃ (i : Nat) (D X : List Exc) (B C : List Bnd), y = i ∧ i ≤ al ∧ Mod St.no w w' ∧ TB7 w' t m1 m2 w1.heap.size D X B C, fun y _ => ((al : Int) - y).toNat, ⟨0, [], [], [], [], rfl, Nat.zero_le _, n08, T3.no n8⟩, ?_⟩
  rintro _ _ w17 ⟨i, D, X, B, C, rfl, hi, n17, T17⟩
  refine ifK_dec (fun hlt => ?_) (fun hge => lives w17 n17)
  have hil : i < xs.length := by omega
  have e1 : IntKind.i64.wrap ((i : Int) + 1) = ((i + 1 : Nat) : Int) := (by first | (simp only [IntKind.wrap_i64]; omega) | omega)
  rw [e1]
  clear e1
  refine copyAc (hA.no n17) i hil fun w40 b40 n40 => ?_
  have hp := hp xs[i] (List.getElem_mem hil)
  generalize xs[i] = x at hp b40
  have b40 : w40.heap[w17.heap.size]? = some (.cells #[.int .i64 x.k, .string x.e.n, .int .i64 x.e.k, .bool x.e.f, .string x.b.x, .string x.b.q, .string x.b.p] 37 (0, 0)) := b40
  refine ⟨_, by rw [cl1 b40]; rfl, _, by rw [cl1 b40]; rfl, _, by rw [cl1 b40]; rfl, _, by rw [cl1 b40]; rfl, _, by rw [cl1 b40]; rfl, _, by rw [cl1 b40]; rfl, _, by rw [cl1 b40]; rfl, ?_⟩
  refine (act_ok (T17.no n40) x hp _ fun w49 D X B C T49 n49 => ?_ : Ca _ _ _ _ _)
  have n049 := (n17.trans n40).new n49 fun k hk => by rcases hk with rfl | rfl | rfl <;> assumption
  refine ⟨_, rfl, ?_⟩
  refine exchanges_ok T49.tb (by have := T49.ok.xl; omega) _ fun w52 p q s xs' hxs hpx hsx n52 _ => ⟨_, _, _, rfl, ?_⟩
  have T52 := T49.no n52
  refine bindings_ok T52.tb (by have := T49.ok.bl; omega) _ fun w57 p' q' s' bs hbs hpb hsb n57 _ => ⟨_, _, _, rfl, ?_⟩
  have T57 := T52.no n57
  have hxs := hxs.no n57
  have hdn := T57.tb.dn
  obtain rfl := T57.sy.exs hdn hpx (by rw [hxs.len.1]; exact hsx)
  obtain rfl := T57.sy.bnds hpb (by rw [hbs.len.1]; exact hsb)
  have e1 := hxs.len.1
  have e2 := hbs.len.1
  have n057 := (n049.trans n52).trans n57
  have l1 := T57.ok.xl
  have l2 := T57.ok.bl
  have l3 := T57.sy.xlen
  have l4 := T57.sy.blen
  refine ifK_dec (fun h => by omega) (fun _ => ifK_dec (fun h => by omega) (fun _ => ?_))
  -- each exchange
  refine ⟨fun y w' => ∃ j : Nat, y = j ∧ j ≤ q ∧ Mod St.no w57 w', fun y _ => ((q : Int) - y).toNat, ⟨0, rfl, Nat.zero_le _, Mod.refl _ _⟩, ?_⟩
  rintro _ _ w65 ⟨j, rfl, hj, n65⟩
  have T65 := T57.no n65
  refine ifK_dec (fun hjlt => ?_) (fun _ => ?_)
  · have hjx : j < xs'.length := by omega
    refine (hxs.no n65).cellX (by omega) ?_
    have hmem : at0 xs' j ∈ D := T57.sy.xp.mem_iff.1 (at0_mem hjx)
    have hfind : findX (at0 xs' j).n D = some (at0 xs' j) := (findX_iff hdn _).2 ⟨hmem, rfl⟩
    have hgood := T57.ok.good _ hmem
    intro w70 e0
    have n70 : Mod no w65 w70 := by subst e0; exact Mod.alloc _ _
    have b70 : Xc w70 w65.heap.size exc0 := by subst e0; exact new_at _ _
    clear e0
    refine put3 b70 fun w76 n76 b76 => ?_
    have n6576 : Mod St.no w65 w76 := n70.new n76 fun k hk => by cases hk; exact Nat.le_refl _
    refine ⟨_, by rw [cl1 b76]; rfl, find_ok (T65.tb.no n6576) _ _ fun w79 n79 => ⟨_, _, _, _, rfl, ?_⟩⟩
    intro w84 e0
    have n84 : Mod no w79 w84 := by subst e0; exact Mod.alloc _ _
    have b84 : Xc w84 w79.heap.size exc0 := by subst e0; exact new_at _ _
    clear e0
    refine put3 b84 fun w90 n90 b90 => ?_
    have n7990 : Mod St.no w79 w90 := n84.new n90 fun k hk => by cases hk; exact Nat.le_refl _
    intro w91 e0
    have n91 : Mod no w90 w91 := by subst e0; exact Mod.drew _
    clear e0
    have b91 := (n79.trans n7990).at' b76
    have b91 := b91.no n91
    have b90 := b90.no n91
    have n6591 := ((n6576.trans n79).trans n7990).trans n91
    rw [show hx (at0 xs' j).n D = true by simp only [hx, hfind, Option.isSome_some]]
    refine (ifK_of (fun h => by cases h) (fun _ => ?_) : ifK false _ _)
    refine ⟨_, by rw [cl1 b91]; rfl, _, by rw [cl1 b91]; rfl, _, by rw [cl1 b91]; rfl, _, by rw [cl1 b90]; rfl, _, by rw [cl1 b90]; rfl, _, by rw [cl1 b90]; rfl, ?_⟩
    refine eqA_agg exc_s.guard (exc_s.eq (at0 xs' j) (fx (at0 xs' j).n D)) ?_
    rw [show fx (at0 xs' j).n D = at0 xs' j by rw [fx, hfind]; rfl, decide_eq_true rfl]
    refine (ifK_of (fun h => by cases h) (fun _ => ?_) : ifK false _ _)
    have next : ∀ w', Mod St.no w91 w' → (∃ j' : Nat, IntKind.i64.wrap ((j : Int) + 1) = j' ∧ j' ≤ q ∧ Mod St.no w57 w') ∧ ((q : Int) - IntKind.i64.wrap ((j : Int) + 1)).toNat < ((q : Int) - (j : Int)).toNat := by
      intro w' m
      have e1 : IntKind.i64.wrap ((j : Int) + 1) = ((j + 1 : Nat) : Int) := (by first | (simp only [IntKind.wrap_i64]; omega) | omega)
      rw [e1]
      clear e1
      exact ⟨⟨j + 1, rfl, by omega, (n65.trans n6591).trans m⟩, by omega⟩
    have good : ∀ w', Mod St.no w91 w' → Xc w' w65.heap.size (at0 xs' j) := fun w' m => m.at' b91
    refine ifK_dec (fun hpos => ?_) (fun _ => ?_)
    · obtain ⟨i', rfl⟩ : ∃ i', j = i' + 1 := ⟨j - 1, by omega⟩
      have ej : IntKind.i64.wrap (((i' + 1 : Nat) : Int) - 1) = (i' : Int) := by rw [wrap64 (by omega) (by omega)]; omega
      rw [ej]
      clear ej
      refine ((hxs.no n65).no n6591).name (by omega) ⟨_, by rw [cl1 b91]; rfl, ?_⟩
      rw [lt_bool, decide_eq_true (show (at0 xs' i').n < (at0 xs' (i' + 1)).n from pw_at T57.sy.xs (by omega))]
      refine (ifK_of (fun h => by cases h) (fun _ => ?_) : ifK false _ _)
      refine ⟨_, by rw [cl1 b91]; rfl, _, by rw [cl1 b91]; rfl, _, by rw [cl1 b91]; rfl, (good_ok (at0 xs' (i' + 1)) _ _ fun w107 n107 => ?_ : Ca _ _ _ _ _)⟩
      refine ⟨_, rfl, ?_⟩
      rw [hgood]
      exact (ifK_of (fun h => by cases h) (fun _ => next w107 n107) : ifK false _ _)
    · refine ⟨_, by rw [cl1 b91]; rfl, _, by rw [cl1 b91]; rfl, _, by rw [cl1 b91]; rfl, (good_ok (at0 xs' j) _ _ fun w107 n107 => ?_ : Ca _ _ _ _ _)⟩
      refine ⟨_, rfl, ?_⟩
      rw [hgood]
      exact (ifK_of (fun h => by cases h) (fun _ => next w107 n107) : ifK false _ _)
  -- each binding
  refine ⟨fun y w' => ∃ j : Nat, y = j ∧ j ≤ q' ∧ Mod St.no w57 w', fun y _ => ((q' : Int) - y).toNat, ⟨0, rfl, Nat.zero_le _, n65⟩, ?_⟩
  rintro _ _ w119 ⟨j, rfl, hj, n119⟩
  have T119 := T57.no n119
  refine ifK_dec (fun hjlt => ?_) (fun _ => ?_)
  · have hjx : j < bs.length := by omega
    refine (hbs.no n119).cellB (by omega) ?_
    have hmem : at0 bs j ∈ B := T57.sy.bp.mem_iff.1 (at0_mem hjx)
    intro w124 e0
    have n124 : Mod no w119 w124 := by subst e0; exact Mod.alloc _ _
    have b124 : w124.heap[w119.heap.size]? = some (.cells #[.string (ByteArray.mk #[]), .string (ByteArray.mk #[]), .string (ByteArray.mk #[])] 35 (0, 0)) := by subst e0; exact new_at _ _
    clear e0
    refine put3 b124 fun w130 n130 b130 => ?_
    have n1 : Mod St.no w119 w130 := n124.new n130 fun k hk => by cases hk; exact Nat.le_refl _
    refine ⟨_, by rw [cl1 b130]; rfl, find_ok (T119.tb.no n1) _ _ fun w133 n133 => ⟨_, _, _, _, rfl, ?_⟩⟩
    intro w138 e0
    have n138 : Mod no w133 w138 := by subst e0; exact Mod.alloc _ _
    have b138 : Xc w138 w133.heap.size exc0 := by subst e0; exact new_at _ _
    clear e0
    refine put3 b138 fun w144 n144 _ => ?_
    have n2 : Mod St.no w133 w144 := n138.new n144 fun k hk => by cases hk; exact Nat.le_refl _
    intro w145 e0
    have n145 : Mod no w144 w145 := by subst e0; exact Mod.drew _
    clear e0
    have n3 := (n133.trans n2).trans n145
    have b145 : Bc w145 w119.heap.size (at0 bs j) := n3.at' b130
    have n119' := n1.trans n3
    rw [T57.ok.from_ _ hmem]
    refine (ifK_of (fun h => by cases h) (fun _ => ?_) : ifK false _ _)
    have next : ∀ w', Mod St.no w145 w' → (∃ j' : Nat, IntKind.i64.wrap ((j : Int) + 1) = j' ∧ j' ≤ q' ∧ Mod St.no w57 w') ∧ ((q' : Int) - IntKind.i64.wrap ((j : Int) + 1)).toNat < ((q' : Int) - (j : Int)).toNat := by
      intro w' m
      have e1 : IntKind.i64.wrap ((j : Int) + 1) = ((j + 1 : Nat) : Int) := (by first | (simp only [IntKind.wrap_i64]; omega) | omega)
      rw [e1]
      clear e1
      exact ⟨⟨j + 1, rfl, by omega, (n119.trans n119').trans m⟩, by omega⟩
    refine ifK_dec (fun hpos => ?_) (fun _ => next w145 (Mod.refl _ _))
    obtain ⟨i', rfl⟩ : ∃ i', j = i' + 1 := ⟨j - 1, by omega⟩
    have ej : IntKind.i64.wrap (((i' + 1 : Nat) : Int) - 1) = (i' : Int) := by rw [wrap64 (by omega) (by omega)]; omega
    rw [ej]
    clear ej
    refine ((hbs.no n119).no n119').cellB (by omega) ⟨_, by rw [cl1 b145]; rfl, _, by rw [cl1 b145]; rfl, _, by rw [cl1 b145]; rfl, ?_⟩
    refine eqA_agg bnd_s.guard (bnd_s.eq (at0 bs i') (at0 bs (i' + 1))) ?_
    have hlt : at0 bs i' < at0 bs (i' + 1) := pw_at T57.sy.bs (by omega)
    rw [decide_eq_false (fun e => bnd_irr _ (by rw [← e] at hlt; exact hlt))]
    exact (ifK_of (fun h => by cases h) (fun _ => next w145 (Mod.refl _ _)) : ifK false _ _)
  · exact ⟨⟨i + 1, D, xs', B, bs, rfl, by omega, n057.trans n119, T119⟩, by simp only; omega⟩
end Go.Proofs.YtehhhkcemmfjpaaGreatDoor

/- The formulas of functions, printed by a program of mine (gen.py) out of the translation. -/
namespace Go.Proofs.YtehhhkcemmfjpaaGreatDoor
open Go Go.Proofs.YtehhhkcemmfjpaaGreatDoor.St
open _root_.Go.Value (string int bool slice pointer agg tuple map func nilFunc iface)
open _root_.Go.World (cell? frozen? setCell alloc drew)
open _root_.Go.Addr (add)
open _root_.Go.Obj (cells)
open _root_.Go.IntKind (wrap i64 u64 i32 u32 u8)
set_option maxRecDepth 100000

/-- staith/staithlaw07.BindUndoes -/
noncomputable def C5 : Code := (Tryz.f5.body).getD .skip
def pl5 : Nat → Plan
  | 2 => (.quiet 0 (.quiet 1 (.quiet 2 (.quiet 4 (.quiet 6 (.quiet 7 (.fork (.eff 3 [6] (.fork (.eff 5 [6] (.eff 8 [] (.eff 9 [] (.eff 10 [] (.quiet 11 (.quiet 12 .done)))))) (.eff 8 [] (.eff 5 [6] (.eff 9 [] (.eff 10 [] (.quiet 11 (.quiet 12 .done)))))))) (.eff 8 [] (.eff 3 [6] (.eff 5 [6] (.eff 9 [] (.eff 10 [] (.quiet 11 (.quiet 12 .done))))))))))))))
  | _ => .done
def ls5 : Nat → List (Nat × LT)
  | 2 => [(0, .agg [])]
  | 7 => [(39, (.one (.int .i64)))]
  | 12 => [(0, .agg []), (9, (.one .slice)), (10, (.one .slice))]
  | 19 => [(0, .agg [])]
  | 28 => [(102, (.one (.int .i64)))]
  | _ => []
def W5 (actsa : Option Addr) (actsl : Nat) (actsc : Nat) (b0_ : ByteArray) (b1_ : ByteArray) (b2_ : ByteArray) (w : World) (R : Value → World → Prop) : Prop :=
  (atW (alloc w (cells (Array.mk [string b0_, string b1_, string b2_]) 35 (0, 0))) (fun w0 =>
(Ca Tryz.prog (10) (Array.mk []) (w0) (fun v1 => (fun w2 =>
(∃ p3 : Option Addr, ((v1 = pointer p3) ∧ (atW (alloc w2 (cells (Array.mk [slice none 0 0, slice none 0 0]) 29 (0, 0))) (fun w4 =>
(∃ z5 : World → Prop, ((atW (drew w4) (fun w6 =>
(ifK (Option.isNone p3)
(((ifK (!Option.isNone p3)
(Ca Tryz.prog (12) (Array.mk []) (w6) (fun v7 => (fun w8 =>
(∃ b9 : Bool, ((v7 = bool b9) ∧ (R (bool b9) (w8)))))))
(R (bool false) (w6))) ∧ (ifK (!Option.isNone p3)
(Ca Tryz.prog (12) (Array.mk []) (w6) (fun v10 => (fun w11 =>
(∃ b12 : Bool, ((v10 = bool b12) ∧ (R (bool b12) (w11)))))))
(R (bool false) (w6)))) ∧ (ifK (!Option.isNone p3)
(Ca Tryz.prog (12) (Array.mk []) (w6) (fun v13 => (fun w14 =>
(∃ b15 : Bool, ((v13 = bool b15) ∧ (R (bool b15) (w14)))))))
(R (bool false) (w6))))
(∃ s16 : ByteArray, ((cell? w6 (add (nw w) 0) = some (string s16)) ∧ (∃ s17 : ByteArray, ((cell? w6 (add (nw w) 1) = some (string s17)) ∧ (∃ s18 : ByteArray, ((cell? w6 (add (nw w) 2) = some (string s18)) ∧ ((atW (alloc w6 (cells (Array.mk []) 37 (0, 0))) (fun w19 =>
((cell? w19 (add (nw w) 0) = some (string s16)) ∧ ((cell? w19 (add (nw w) 1) = some (string s17)) ∧ ((cell? w19 (add (nw w) 2) = some (string s18)) ∧ ((∃ v20 : Value, (∃ w21 : World, ((Sem.run Tryz.prog (Builtin.append_ (Array.mk [22, 22]) 22 (Array.mk [slice (some (nw w6)) 0 0, slice actsa actsl actsc])) w19 = Result.ok v20 w21) ∧ (∃ p22 : Option Addr, (∃ n23 : Nat, (∃ n24 : Nat, ((v20 = slice p22 n23 n24) ∧ ((cell? w21 (add (nw w) 0) = some (string s16)) ∧ ((cell? w21 (add (nw w) 1) = some (string s17)) ∧ ((cell? w21 (add (nw w) 2) = some (string s18)) ∧ (atW (alloc w21 (cells (Array.mk [int i64 0, string (ByteArray.mk #[]), int i64 0, bool false, string s16, string s17, string s18]) 37 (0, 0))) (fun w25 =>
(∃ v26 : Value, (∃ w27 : World, ((Sem.run Tryz.prog (Builtin.append_ (Array.mk [22, 22]) 22 (Array.mk [slice p22 n23 n24, slice (some (nw w21)) 1 1])) w25 = Result.ok v26 w27) ∧ (∃ p28 : Option Addr, (∃ n29 : Nat, (∃ n30 : Nat, ((v26 = slice p28 n29 n30) ∧ (Ca Tryz.prog (11) (Array.mk [slice p28 n29 n30]) (w27) (fun v31 => (fun w32 =>
(∃ b33 : Bool, ((v31 = bool b33) ∧ (ifK (!b33)
(ifK (!Option.isNone p3)
(Ca Tryz.prog (12) (Array.mk []) (w32) (fun v34 => (fun w35 =>
(∃ b36 : Bool, ((v34 = bool b36) ∧ (R (bool b36) (w35)))))))
(R (bool false) (w32)))
(z5 (w32))))))))))))))))))))))))))) ∧ (atW (alloc w19 (cells (Array.mk [int i64 0, string (ByteArray.mk #[]), int i64 0, bool false, string s16, string s17, string s18]) 37 (0, 0))) (fun w37 =>
(∃ v38 : Value, (∃ w39 : World, ((Sem.run Tryz.prog (Builtin.append_ (Array.mk [22, 22]) 22 (Array.mk [slice (some (nw w6)) 0 0, slice actsa actsl actsc])) w37 = Result.ok v38 w39) ∧ (∃ p40 : Option Addr, (∃ n41 : Nat, (∃ n42 : Nat, ((v38 = slice p40 n41 n42) ∧ ((cell? w39 (add (nw w) 0) = some (string s16)) ∧ ((cell? w39 (add (nw w) 1) = some (string s17)) ∧ ((cell? w39 (add (nw w) 2) = some (string s18)) ∧ (∃ v43 : Value, (∃ w44 : World, ((Sem.run Tryz.prog (Builtin.append_ (Array.mk [22, 22]) 22 (Array.mk [slice p40 n41 n42, slice (some (nw w19)) 1 1])) w39 = Result.ok v43 w44) ∧ (∃ p45 : Option Addr, (∃ n46 : Nat, (∃ n47 : Nat, ((v43 = slice p45 n46 n47) ∧ (Ca Tryz.prog (11) (Array.mk [slice p45 n46 n47]) (w44) (fun v48 => (fun w49 =>
(∃ b50 : Bool, ((v48 = bool b50) ∧ (ifK (!b50)
(ifK (!Option.isNone p3)
(Ca Tryz.prog (12) (Array.mk []) (w49) (fun v51 => (fun w52 =>
(∃ b53 : Bool, ((v51 = bool b53) ∧ (R (bool b53) (w52)))))))
(R (bool false) (w49)))
(z5 (w49))))))))))))))))))))))))))))))))) ∧ (atW (alloc w6 (cells (Array.mk [int i64 0, string (ByteArray.mk #[]), int i64 0, bool false, string s16, string s17, string s18]) 37 (0, 0))) (fun w54 =>
(atW (alloc w54 (cells (Array.mk []) 37 (0, 0))) (fun w55 =>
((cell? w55 (add (nw w) 0) = some (string s16)) ∧ ((cell? w55 (add (nw w) 1) = some (string s17)) ∧ ((cell? w55 (add (nw w) 2) = some (string s18)) ∧ (∃ v56 : Value, (∃ w57 : World, ((Sem.run Tryz.prog (Builtin.append_ (Array.mk [22, 22]) 22 (Array.mk [slice (some (nw w54)) 0 0, slice actsa actsl actsc])) w55 = Result.ok v56 w57) ∧ (∃ p58 : Option Addr, (∃ n59 : Nat, (∃ n60 : Nat, ((v56 = slice p58 n59 n60) ∧ ((cell? w57 (add (nw w) 0) = some (string s16)) ∧ ((cell? w57 (add (nw w) 1) = some (string s17)) ∧ ((cell? w57 (add (nw w) 2) = some (string s18)) ∧ (∃ v61 : Value, (∃ w62 : World, ((Sem.run Tryz.prog (Builtin.append_ (Array.mk [22, 22]) 22 (Array.mk [slice p58 n59 n60, slice (some (nw w6)) 1 1])) w57 = Result.ok v61 w62) ∧ (∃ p63 : Option Addr, (∃ n64 : Nat, (∃ n65 : Nat, ((v61 = slice p63 n64 n65) ∧ (Ca Tryz.prog (11) (Array.mk [slice p63 n64 n65]) (w62) (fun v66 => (fun w67 =>
(∃ b68 : Bool, ((v66 = bool b68) ∧ (ifK (!b68)
(ifK (!Option.isNone p3)
(Ca Tryz.prog (12) (Array.mk []) (w67) (fun v69 => (fun w70 =>
(∃ b71 : Bool, ((v69 = bool b71) ∧ (R (bool b71) (w70)))))))
(R (bool false) (w67)))
(z5 (w67)))))))))))))))))))))))))))))))))))))))))) ∧ (∀ (_ : Nat → Value), (∀ (w73 : World), ((z5 (w73)) → (∃ z74 : Int → World → Prop, (∃ z75 : Int → World → Nat, ((z74 (0) (w73)) ∧ (∀ (_ : Nat → Value), (∀ (x77 : Int), (∀ (w78 : World), ((z74 (x77) (w78)) → (ifK (decide (x77 < (↑actsl : Int)))
(∃ a79 : Addr, ((actsa = some a79) ∧ (((0 : Int) ≤ x77) ∧ (((x77 : Int) < (↑actsl : Int)) ∧ (∃ x80 : Int, ((cell? w78 (add (add a79 (Int.toNat x77 * 7)) 0) = some (int i64 x80)) ∧ (∃ s81 : ByteArray, ((cell? w78 (add (add a79 (Int.toNat x77 * 7)) 1) = some (string s81)) ∧ (∃ x82 : Int, ((cell? w78 (add (add a79 (Int.toNat x77 * 7)) 2) = some (int i64 x82)) ∧ (∃ b83 : Bool, ((cell? w78 (add (add a79 (Int.toNat x77 * 7)) 3) = some (bool b83)) ∧ (∃ s84 : ByteArray, ((cell? w78 (add (add a79 (Int.toNat x77 * 7)) 4) = some (string s84)) ∧ (∃ s85 : ByteArray, ((cell? w78 (add (add a79 (Int.toNat x77 * 7)) 5) = some (string s85)) ∧ (∃ s86 : ByteArray, ((cell? w78 (add (add a79 (Int.toNat x77 * 7)) 6) = some (string s86)) ∧ (atW (alloc w78 (cells (Array.mk [int i64 0, string (ByteArray.mk #[]), int i64 0, bool false, string (ByteArray.mk #[]), string (ByteArray.mk #[]), string (ByteArray.mk #[])]) 37 (0, 0))) (fun w87 =>
(st1 (add (nw w78) 0) (int i64 x80) w87 (fun w89 =>
(st1 (add (nw w78) 1) (string s81) w89 (fun w91 =>
(st1 (add (nw w78) 2) (int i64 x82) w91 (fun w93 =>
(st1 (add (nw w78) 3) (bool b83) w93 (fun w95 =>
(st1 (add (nw w78) 4) (string s84) w95 (fun w97 =>
(st1 (add (nw w78) 5) (string s85) w97 (fun w99 =>
(st1 (add (nw w78) 6) (string s86) w99 (fun w101 =>
(∃ x102 : Int, ((cell? w101 (add (nw w78) 0) = some (int i64 x102)) ∧ (∃ s103 : ByteArray, ((cell? w101 (add (nw w78) 1) = some (string s103)) ∧ (∃ x104 : Int, ((cell? w101 (add (nw w78) 2) = some (int i64 x104)) ∧ (∃ b105 : Bool, ((cell? w101 (add (nw w78) 3) = some (bool b105)) ∧ (∃ s106 : ByteArray, ((cell? w101 (add (nw w78) 4) = some (string s106)) ∧ (∃ s107 : ByteArray, ((cell? w101 (add (nw w78) 5) = some (string s107)) ∧ (∃ s108 : ByteArray, ((cell? w101 (add (nw w78) 6) = some (string s108)) ∧ (Ca Tryz.prog (13) (Array.mk [pointer p3, pointer (some (nw w2)), agg (Array.mk (List.reverse [string s108, string s107, string s106, bool b105, int i64 x104, string s103, int i64 x102]))]) (w101) (fun v109 => (fun w110 =>
(∃ b111 : Bool, ((v109 = bool b111) ∧ ((z74 (wrap i64 (x77 + 1)) (w110)) ∧ (z75 (wrap i64 (x77 + 1)) w110 < z75 x77 w78)))))))))))))))))))))))))))))))))))))))))))))))))))))))
(∃ z112 : Option Addr → Nat → Nat → Option Addr → Nat → Nat → World → Prop, ((Ca Tryz.prog (15) (Array.mk [pointer p3]) (w78) (fun v113 => (fun w114 =>
(∃ p115 : Option Addr, (∃ n116 : Nat, (∃ n117 : Nat, ((v113 = slice p115 n116 n117) ∧ (Ca Tryz.prog (16) (Array.mk [pointer p3]) (w114) (fun v118 => (fun w119 =>
(∃ p120 : Option Addr, (∃ n121 : Nat, (∃ n122 : Nat, ((v118 = slice p120 n121 n122) ∧ (z112 (p115) (n116) (n117) (p120) (n121) (n122) (w119)))))))))))))))) ∧ (∀ (_ : Nat → Value), (∀ (p124 : Option Addr), (∀ (n125 : Nat), (∀ (n126 : Nat), (∀ (p127 : Option Addr), (∀ (n128 : Nat), (∀ (n129 : Nat), (∀ (w130 : World), ((z112 (p124) (n125) (n126) (p127) (n128) (n129) (w130)) → (atW (alloc w130 (cells (Array.mk [slice p124 n125 n126, slice p127 n128 n129]) 29 (0, 0))) (fun w131 =>
(Ca Tryz.prog (19) (Array.mk [pointer p3]) (w131) (fun v132 => (fun w133 =>
(∃ p134 : Option Addr, ((v132 = pointer p134) ∧ (ifK (Option.isNone p134)
(R (bool false) (w133))
(Ca Tryz.prog (15) (Array.mk [pointer p134]) (w133) (fun v135 => (fun w136 =>
(∃ p137 : Option Addr, (∃ n138 : Nat, (∃ n139 : Nat, ((v135 = slice p137 n138 n139) ∧ (Ca Tryz.prog (16) (Array.mk [pointer p134]) (w136) (fun v140 => (fun w141 =>
(∃ p142 : Option Addr, (∃ n143 : Nat, (∃ n144 : Nat, ((v140 = slice p142 n143 n144) ∧ (Ca Tryz.prog (14) (Array.mk [slice p137 n138 n139, slice p142 n143 n144, pointer (some (nw w130))]) (w141) (fun v145 => (fun w146 =>
(∃ b147 : Bool, ((v145 = bool b147) ∧ (ifK (!b147)
(R (bool false) (w146))
(∃ s148 : ByteArray, ((cell? w146 (add (nw w) 0) = some (string s148)) ∧ (∃ s149 : ByteArray, ((cell? w146 (add (nw w) 1) = some (string s149)) ∧ (∃ s150 : ByteArray, ((cell? w146 (add (nw w) 2) = some (string s150)) ∧ (Ca Tryz.prog (20) (Array.mk [pointer (some (nw w130)), agg (Array.mk (List.reverse [string s150, string s149, string s148]))]) (w146) (fun v151 => (fun w152 =>
(∃ b153 : Bool, ((v151 = bool b153) ∧ (∃ z154 : World → Prop, ((∃ s155 : ByteArray, ((cell? w152 (add (nw w) 0) = some (string s155)) ∧ (∃ s156 : ByteArray, ((cell? w152 (add (nw w) 1) = some (string s156)) ∧ (∃ s157 : ByteArray, ((cell? w152 (add (nw w) 2) = some (string s157)) ∧ (Ca Tryz.prog (21) (Array.mk [pointer p134, agg (Array.mk (List.reverse [string s157, string s156, string s155]))]) (w152) (fun v158 => (fun w159 =>
(∃ x160 : Int, ((v158 = int i64 x160) ∧ (ifK (x160 == 0)
(Ca Tryz.prog (15) (Array.mk [pointer p3]) (w159) (fun v161 => (fun w162 =>
(∃ p163 : Option Addr, (∃ n164 : Nat, (∃ n165 : Nat, ((v161 = slice p163 n164 n165) ∧ (Ca Tryz.prog (16) (Array.mk [pointer p3]) (w162) (fun v166 => (fun w167 =>
(∃ p168 : Option Addr, (∃ n169 : Nat, (∃ n170 : Nat, ((v166 = slice p168 n169 n170) ∧ (Ca Tryz.prog (14) (Array.mk [slice p163 n164 n165, slice p168 n169 n170, pointer (some (nw w130))]) (w167) (fun v171 => (fun w172 =>
(∃ b173 : Bool, ((v171 = bool b173) ∧ (ifK (!b173)
(R (bool false) (w172))
(∃ s174 : ByteArray, ((cell? w172 (add (nw w) 0) = some (string s174)) ∧ (∃ s175 : ByteArray, ((cell? w172 (add (nw w) 1) = some (string s175)) ∧ (∃ s176 : ByteArray, ((cell? w172 (add (nw w) 2) = some (string s176)) ∧ (Ca Tryz.prog (22) (Array.mk [pointer p134, agg (Array.mk (List.reverse [string s176, string s175, string s174]))]) (w172) (fun v177 => (fun w178 =>
(∃ x179 : Int, ((v177 = int i64 x179) ∧ (ifK (x179 != 0)
(R (bool false) (w178))
(ifK (!b153)
(Ca Tryz.prog (15) (Array.mk [pointer p134]) (w178) (fun v180 => (fun w181 =>
(∃ p182 : Option Addr, (∃ n183 : Nat, (∃ n184 : Nat, ((v180 = slice p182 n183 n184) ∧ (Ca Tryz.prog (16) (Array.mk [pointer p134]) (w181) (fun v185 => (fun w186 =>
(∃ p187 : Option Addr, (∃ n188 : Nat, (∃ n189 : Nat, ((v185 = slice p187 n188 n189) ∧ (Ca Tryz.prog (14) (Array.mk [slice p182 n183 n184, slice p187 n188 n189, pointer (some (nw w130))]) (w186) (fun v190 => (fun w191 =>
(∃ b192 : Bool, ((v190 = bool b192) ∧ (ifK (!b192)
(R (bool false) (w191))
(z154 (w191))))))))))))))))))))))
(z154 (w178)))))))))))))))))))))))))))))))))))
(z154 (w159)))))))))))))) ∧ (∀ (_ : Nat → Value), (∀ (w194 : World), ((z154 (w194)) → (∃ z195 : Int → World → Prop, (∃ z196 : Int → World → Nat, ((z195 (0) (w194)) ∧ (∀ (_ : Nat → Value), (∀ (x198 : Int), (∀ (w199 : World), ((z195 (x198) (w199)) → (ifK (decide (x198 < (↑n125 : Int)))
(∃ a200 : Addr, ((p124 = some a200) ∧ (((0 : Int) ≤ x198) ∧ (((x198 : Int) < (↑n125 : Int)) ∧ (∃ s201 : ByteArray, ((cell? w199 (add (add a200 (Int.toNat x198 * 3)) 0) = some (string s201)) ∧ (∃ x202 : Int, ((cell? w199 (add (add a200 (Int.toNat x198 * 3)) 1) = some (int i64 x202)) ∧ (∃ b203 : Bool, ((cell? w199 (add (add a200 (Int.toNat x198 * 3)) 2) = some (bool b203)) ∧ (atW (alloc w199 (cells (Array.mk [string (ByteArray.mk #[]), int i64 0, bool false]) 33 (0, 0))) (fun w204 =>
(st1 (add (nw w199) 0) (string s201) w204 (fun w206 =>
(st1 (add (nw w199) 1) (int i64 x202) w206 (fun w208 =>
(st1 (add (nw w199) 2) (bool b203) w208 (fun w210 =>
(∃ s211 : ByteArray, ((cell? w210 (add (nw w199) 0) = some (string s211)) ∧ (Ca Tryz.prog (23) (Array.mk [pointer p134, string s211]) (w210) (fun v212 => (fun w213 =>
(∃ x214 : Int, ((v212 = int i64 x214) ∧ ((z195 (wrap i64 (x198 + 1)) (w213)) ∧ (z196 (wrap i64 (x198 + 1)) w213 < z196 x198 w199)))))))))))))))))))))))))))
(Ca Tryz.prog (15) (Array.mk [pointer p134]) (w199) (fun v215 => (fun w216 =>
(∃ p217 : Option Addr, (∃ n218 : Nat, (∃ n219 : Nat, ((v215 = slice p217 n218 n219) ∧ (Ca Tryz.prog (16) (Array.mk [pointer p134]) (w216) (fun v220 => (fun w221 =>
(∃ p222 : Option Addr, (∃ n223 : Nat, (∃ n224 : Nat, ((v220 = slice p222 n223 n224) ∧ (ifK (wrap i64 ((↑n218 : Int) + (↑n223 : Int)) == 0)
(Ca Tryz.prog (15) (Array.mk [pointer p3]) (w221) (fun v225 => (fun w226 =>
(∃ p227 : Option Addr, (∃ n228 : Nat, (∃ n229 : Nat, ((v225 = slice p227 n228 n229) ∧ (Ca Tryz.prog (16) (Array.mk [pointer p3]) (w226) (fun v230 => (fun w231 =>
(∃ p232 : Option Addr, (∃ n233 : Nat, (∃ n234 : Nat, ((v230 = slice p232 n233 n234) ∧ (Ca Tryz.prog (14) (Array.mk [slice p227 n228 n229, slice p232 n233 n234, pointer (some (nw w130))]) (w231) (fun v235 => (fun w236 =>
(∃ b237 : Bool, ((v235 = bool b237) ∧ (ifK (b237)
(Ca Tryz.prog (12) (Array.mk []) (w236) (fun v238 => (fun w239 =>
(∃ b240 : Bool, ((v238 = bool b240) ∧ (R (bool b240) (w239)))))))
(R (bool false) (w236))))))))))))))))))))))
(R (bool false) (w221))))))))))))))))))))))))))))))))))))))))))))))))))))))))))))))))))))))))))))))))))))))))))))))))))))))
theorem ca5 (actsa : Option Addr) (actsl : Nat) (actsc : Nat) (b0_ : ByteArray) (b1_ : ByteArray) (b2_ : ByteArray) (w : World) (R : Value → World → Prop) (h : W5 actsa actsl actsc b0_ b1_ b2_ w R) : Ca Tryz.prog 5 ⟨[(.slice actsa actsl actsc), (.agg ⟨[(.string b0_), (.string b1_), (.string b2_)]⟩)]⟩ w R :=
  caB (fn := Tryz.f5) (pl := pl5) (ls := ls5) Tryz.func5 (by kernel_rfl) (by kernel_rfl) h
end Go.Proofs.YtehhhkcemmfjpaaGreatDoor

/- The walk of BindUndoes. -/
namespace Go.Proofs.YtehhhkcemmfjpaaGreatDoor
open Go Go.ChangeShapes Go.WideShapes Go.Deep Go.Proofs.YtehhhkcemmfjpaaGreatDoor Go.Proofs.YtehhhkcemmfjpaaGreatDoor.St

theorem bytes_act : Tryz.prog.bytesOf 37 = 88 := by kernel_rfl
theorem lay_act : laidOk Tryz.prog 22 37 acL.s = true := by kernel_rfl
/-- append([]Act{}, acts...), where []Act{} lies at k. -/
theorem copyAcs {w : World} {k : Nat} (hk : w.heap[k]? = some (.cells #[] 37 (0, 0))) {a : Option Addr} {l c : Nat} {xs : List Ac} (h : AcsB w a l c xs) :
    ∃ a' c' w', (Builtin.append_ #[22, 22] 22 #[.slice (some ⟨k, 0, none⟩) 0 0, .slice a l c]).run Tryz.prog w = .ok (.slice a' l c') w' ∧ Row acL 37 w' a' l c' xs ∧ Mod (on k) w w' ∧ (∀ j, rowB a' j → j = k ∨ w.heap.size ≤ j) := by
  have hr : Row acL 37 w (some ⟨k, 0, none⟩) 0 0 [] := Row.lit acL hk [] rfl (Nat.zero_le _)
  have hb := h.bytes
  have hlc := h.acs.row.lc
  rw [bytes_act] at hb
  obtain ⟨a', c', w', h1, h2, h3, h4⟩ := hr.pushBig (P := Tryz.prog) (t := 22) (ty := 22) (b := a) (m := l) (cc := c) (ys := xs) lay_act h.acs.row.len h.acs.row.all (fun e => by have h0 := h.nil e; exact ⟨by omega, h0⟩) (by rw [bytes_act]; omega) (by simp only [maxLen]; omega)
  rw [Nat.zero_add] at h1 h2
  exact ⟨a', c', w', h1, h2, h3.mono fun j _ hj => (by cases hj; rfl), fun j hj => (h4 j hj).imp (fun hj => by cases hj; rfl) id⟩
theorem pushAc {w : World} {a : Option Addr} {l c : Nat} {L : List Ac} (h : Row acL 37 w a l c L) (hl : l * 88 ≤ 140737488351232) {k : Nat} {x : Ac} (hk : w.heap[k]? = some (.cells (acL.cs x).toArray 37 (0, 0))) :
    ∃ a' c' w', (Builtin.append_ #[22, 22] 22 #[.slice a l c, .slice (some ⟨k, 0, none⟩) 1 1]).run Tryz.prog w = .ok (.slice a' (l + 1) c') w' ∧ Row acL 37 w' a' (l + 1) c' (L ++ [x]) ∧ Mod (rowB a) w w' ∧ (∀ k, rowB a' k → rowB a k ∨ w.heap.size ≤ k) :=
  h.pushBig (P := Tryz.prog) (t := 22) (ty := 22) lay_act (b := some ⟨k, 0, none⟩) (m := 1) (cc := 1) (ys := [x]) rfl (fun ad had j v hj => by
    cases had
    rw [cl1 hk]
    simpa using hj) (fun h => by cases h) (by rw [bytes_act]; omega) (by simp only [maxLen]; omega)
theorem bind_zero {b : Bnd} {D : List Exc} {B : List Bnd} (h : bindR b D B = 0) : b ∈ bindB b D B := by
  unfold bindR at h
  split at h
  · cases h
  split at h
  · cases h
  split at h
  · cases h
  split at h
  · rename_i h1 h2 h3 h4
    rw [bindB, if_neg (fun hc => hc.2.2.2.1 h4)]; exact h4
  split at h
  · cases h
  · rename_i h1 h2 h3 h4 h5
    rw [bindB, if_pos ⟨eq_true_of_ne_false h1, eq_true_of_ne_false h2, eq_true_of_ne_false h3, h4, by omega⟩]
    simp
theorem bind_unbind {b : Bnd} {D : List Exc} {B : List Bnd} (hb : b ∉ B) : (bindB b D B).filter (fun y => !decide (y = b)) = B := by
  have hB : B.filter (fun y => !decide (y = b)) = B := List.filter_eq_self.2 fun y hy => by
    have : y ≠ b := fun e => hb (e ▸ hy)
    simp [this]
  unfold bindB
  split
  · rw [List.filter_append, hB]; simp
  · exact hB
theorem bindB_sub {b : Bnd} {D : List Exc} {B : List Bnd} : ∀ y ∈ (bindB b D B).filter (fun y => !decide (y = b)), y ∈ B := by
  intro y hy
  obtain ⟨h1, h2⟩ := List.mem_filter.1 hy
  unfold bindB at h1
  split at h1
  · rcases List.mem_append.1 h1 with h | h
    · exact h
    · rw [List.mem_singleton.1 h] at h2; simp at h2
  · exact h1
theorem bindB_len {b : Bnd} {D : List Exc} {B : List Bnd} : (bindB b D B).length ≤ B.length + 1 := by
  unfold bindB
  split <;> simp

theorem undoes_walk (aa : Option Addr) (al ac : Nat) (xs : List Ac) (b : Bnd) (w : World) (hA : AcsB w aa al ac xs) (hb : BndOk b) (R : Value → World → Prop) (hR : ∀ w', Mod St.no w w' → R (.bool true) w') : Ca Tryz.prog 5 #[.slice aa al ac, .agg ⟨b.cs⟩] w R := by
  refine (ca5 aa al ac b.x b.q b.p w R ?_ : Ca _ _ _ _ _)
  have hxl := hA.acs.row.len
  have hbytes : al * 88 ≤ 140737488351232 := by
    have h1 := hA.bytes
    have h2 := hA.acs.row.lc
    rw [bytes_act] at h1
    omega
  have lives : ∀ w', Mod St.no w w' → Ca Tryz.prog 12 #[] w' fun v w'' => ∃ b, v = .bool b ∧ R (.bool b) w'' := fun w' m => lives_ok w' _ fun w'' m' => ⟨_, rfl, hR w'' (m.trans m')⟩
  intro w0 e0
  have n0 : Mod no w w0 := by subst e0; exact Mod.alloc _ _
  have b0 : Bc w0 w.heap.size b := by subst e0; exact new_at _ _
  clear e0
  refine new_ok w0 _ fun w1 t m1 m2 hT n1 ht hm1 hm2 => ⟨_, rfl, ?_⟩
  intro w3 e0
  have n3 : Mod no w1 w3 := by subst e0; exact Mod.alloc _ _
  have b3 : w3.heap[w1.heap.size]? = some (.cells #[.slice none 0 0, .slice none 0 0] 29 (0, 0)) := by subst e0; exact new_at _ _
  clear e0
  have T3 := TB7.new hT n3 b3
  have g0 := n0.size
  have hr := n1.size
  have n03 := (n0.trans n1).trans n3
  have b3' := n3.at' (n1.at' b0)
  refine ⟨fun w' => Mod St.no w w' ∧ TB7 w' t m1 m2 w1.heap.size [] [] [] [] ∧ Bc w' w.heap.size b ∧ b.p.size < 1000000000 ∧ ∀ x ∈ xs, x.b.p.size < 1000000000, ?_, ?_⟩
  · intro w6 e0
    have n6 : Mod no w3 w6 := by subst e0; exact Mod.drew _
    clear e0
    have n06 := n03.trans n6
    have T6 := T3.no n6
    have b6 := n6.at' b3'
    have A6 : AcsB w6 aa al ac xs := ⟨hA.acs.no n06, hA.bytes, hA.nil⟩
    refine (ifK_of (fun h => by cases h) (fun _ => ?_) : ifK false _ _)
    have newAct : AcOk ⟨0, exc0, b⟩ := ⟨by show (ByteArray.mk #[]).size ≤ _; decide, hb.sx, hb.sq, hb.sp⟩
    -- what follows where the row is made
    have go : ∀ w' p c, Mod St.no w6 w' → Row acL 37 w' p (al + 1) c (xs ++ [⟨0, exc0, b⟩]) → Ca Tryz.prog 11 #[.slice p (al + 1) c] w' fun v w'' => ∃ b33 : Bool, v = .bool b33 ∧ ifK (!b33) (ifK true (Ca Tryz.prog 12 #[] w'' fun v w'' => ∃ b, v = .bool b ∧ R (.bool b) w'') (R (.bool false) w'')) (Mod St.no w w'' ∧ TB7 w'' t m1 m2 w1.heap.size [] [] [] [] ∧ Bc w'' w.heap.size b ∧ b.p.size < 1000000000 ∧ ∀ x ∈ xs, x.b.p.size < 1000000000) := by
      intro w' p c n hrow
      have hacs : Acs w' p (al + 1) c (xs ++ [⟨0, exc0, b⟩]) := ⟨hrow.arg, fun x hx => (List.mem_append.1 hx).elim (hA.acs.ok x) fun h => by rw [List.mem_singleton.1 h]; exact newAct⟩
      refine light_ok p (al + 1) c (xs ++ [⟨0, exc0, b⟩]) w' hacs _ fun w'' o n' ho => ?_
      refine ⟨o, rfl, ?_⟩
      have n'' := n.trans n'
      cases o with
      | false => exact (ifK_of (fun _ => (ifK_of (fun _ => lives w'' (n06.trans n'')) (fun h => by cases h) : ifK true _ _)) (fun h => by cases h) : ifK true _ _)
      | true =>
        obtain ⟨_, hall⟩ := ho rfl
        refine (ifK_of (fun h => by cases h) (fun _ => ?_) : ifK false _ _)
        exact ⟨n06.trans n'', T6.no n'', n''.at' b6, hall _ (List.mem_append_right _ (List.mem_singleton.2 rfl)), fun x hx => hall x (List.mem_append_left _ hx)⟩
    have g6 := n06.size
    refine ⟨_, by rw [cl1 b6]; rfl, _, by rw [cl1 b6]; rfl, _, by rw [cl1 b6]; rfl, ⟨?_, ?_⟩⟩
    · intro w19 e0
      have n19 : Mod no w6 w19 := by subst e0; exact Mod.alloc _ _
      have e19 : w19.heap[w6.heap.size]? = some (.cells #[] 37 (0, 0)) := by subst e0; exact new_at _ _
      clear e0
      have b19 := n19.at' b6
      have g19 := n19.size
      have l19 := lt_of_heap e19
      refine ⟨by rw [cl1 b19]; rfl, by rw [cl1 b19]; rfl, by rw [cl1 b19]; rfl, ⟨?_, ?_⟩⟩
      · obtain ⟨p, c2, w21, hrun, x21, m21, k21⟩ := copyAcs e19 ⟨A6.acs.no n19, A6.bytes, A6.nil⟩
        have n621 : Mod St.no w6 w21 := n19.new m21 fun k hk => by cases hk; exact Nat.le_refl _
        have b21 := n621.at' b6
        have g21 := m21.size
        refine ⟨_, w21, hrun, _, _, _, rfl, by rw [cl1 b21]; rfl, by rw [cl1 b21]; rfl, by rw [cl1 b21]; rfl, ?_⟩
        intro w25 e0
        have n25 : Mod no w21 w25 := by subst e0; exact Mod.alloc _ _
        have e25 : w25.heap[w21.heap.size]? = some (.cells (acL.cs ⟨0, exc0, b⟩).toArray 37 (0, 0)) := by subst e0; exact new_at _ _
        clear e0
        obtain ⟨p2, c3, w27, hrun2, x27, m27, _⟩ := pushAc (x21.no n25) hbytes e25
        refine ⟨_, w27, hrun2, _, _, _, rfl, go w27 p2 c3 ((n621.trans n25).new m27 fun k hk => by have := k21 k hk; omega) x27⟩
      · intro w37 e0
        have n37 : Mod no w19 w37 := by subst e0; exact Mod.alloc _ _
        have e37 : w37.heap[w19.heap.size]? = some (.cells (acL.cs ⟨0, exc0, b⟩).toArray 37 (0, 0)) := by subst e0; exact new_at _ _
        clear e0
        have g37 := n37.size
        have l37 := lt_of_heap e37
        obtain ⟨p, c2, w39, hrun, x39, m39, k39⟩ := copyAcs (n37.at' e19) ⟨(A6.acs.no n19).no n37, A6.bytes, A6.nil⟩
        have n639 : Mod St.no w6 w39 := (n19.trans n37).new m39 fun k hk => by cases hk; exact Nat.le_refl _
        have b39 := n639.at' b6
        have e39 := m39.at e37 (fun hS => by have e : w19.heap.size = w6.heap.size := hS; omega)
        obtain ⟨p2, c3, w44, hrun2, x44, m44, _⟩ := pushAc x39 hbytes e39
        refine ⟨_, w39, hrun, _, _, _, rfl, by rw [cl1 b39]; rfl, by rw [cl1 b39]; rfl, by rw [cl1 b39]; rfl, _, w44, hrun2, _, _, _, rfl, go w44 p2 c3 (n639.new m44 fun k hk => by have := k39 k hk; omega) x44⟩
    · intro w54 e0
      have n54 : Mod no w6 w54 := by subst e0; exact Mod.alloc _ _
      have e54 : w54.heap[w6.heap.size]? = some (.cells (acL.cs ⟨0, exc0, b⟩).toArray 37 (0, 0)) := by subst e0; exact new_at _ _
      clear e0
      intro w55 e0
      have n55 : Mod no w54 w55 := by subst e0; exact Mod.alloc _ _
      have e55 : w55.heap[w54.heap.size]? = some (.cells #[] 37 (0, 0)) := by subst e0; exact new_at _ _
      clear e0
      have n655 := n54.trans n55
      have b55 := n655.at' b6
      have g54 := n54.size
      have l54 := lt_of_heap e54
      obtain ⟨p, c2, w57, hrun, x57, m57, k57⟩ := copyAcs e55 ⟨A6.acs.no n655, A6.bytes, A6.nil⟩
      have n657 : Mod St.no w6 w57 := n655.new m57 fun k hk => by cases hk; exact g54
      have b57 := n657.at' b6
      have e57 := m57.at (n55.at' e54) (fun hS => by have e : w6.heap.size = w54.heap.size := hS; omega)
      have g55 := n55.size
      obtain ⟨p2, c3, w62, hrun2, x62, m62, _⟩ := pushAc x57 hbytes e57
      refine ⟨by rw [cl1 b55]; rfl, by rw [cl1 b55]; rfl, by rw [cl1 b55]; rfl, _, w57, hrun, _, _, _, rfl, by rw [cl1 b57]; rfl, by rw [cl1 b57]; rfl, by rw [cl1 b57]; rfl, _, w62, hrun2, _, _, _, rfl, go w62 p2 c3 (n657.new m62 fun k hk => by have := k57 k hk; omega) x62⟩
  rintro _ w73 ⟨n73, T73, b73, hbp, hp⟩
  refine ⟨fun y w' => ∃ (i : Nat) (D X : List Exc) (B C : List Bnd), y = i ∧ i ≤ al ∧ Mod St.no w w' ∧ Bc w' w.heap.size b ∧ TB7 w' t m1 m2 w1.heap.size D X B C, fun y _ => ((al : Int) - y).toNat, ⟨0, [], [], [], [], rfl, Nat.zero_le _, n73, b73, T73⟩, ?_⟩
  rintro _ _ w78 ⟨i, D, X, B, C, rfl, hi, n78, b78, T78⟩
  refine ifK_dec (fun hlt => ?_) (fun hge => ?_)
  · have hil : i < xs.length := by omega
    have e1 : IntKind.i64.wrap ((i : Int) + 1) = ((i + 1 : Nat) : Int) := (by first | (simp only [IntKind.wrap_i64]; omega) | omega)
    rw [e1]
    clear e1
    refine copyAc (hA.acs.no n78) i hil fun w40 b40 n40 => ?_
    have hp := hp xs[i] (List.getElem_mem hil)
    generalize xs[i] = x at hp b40
    have b40 : w40.heap[w78.heap.size]? = some (.cells #[.int .i64 x.k, .string x.e.n, .int .i64 x.e.k, .bool x.e.f, .string x.b.x, .string x.b.q, .string x.b.p] 37 (0, 0)) := b40
    refine ⟨_, by rw [cl1 b40]; rfl, _, by rw [cl1 b40]; rfl, _, by rw [cl1 b40]; rfl, _, by rw [cl1 b40]; rfl, _, by rw [cl1 b40]; rfl, _, by rw [cl1 b40]; rfl, _, by rw [cl1 b40]; rfl, ?_⟩
    refine (act_ok (T78.no n40) x hp _ fun w49 D X B C T49 n49 => ?_ : Ca _ _ _ _ _)
    have hold : ∀ k, of3 m1 m2 w1.heap.size k → w0.heap.size ≤ k := by rintro k (rfl | rfl | rfl) <;> assumption
    have l0 := lt_of_heap b0
    have n049 := (n78.trans n40).new n49 fun k hk => by have := hold k hk; omega
    have b49 := n49.at (n40.at' b78) (fun hS => by have := hold _ hS; omega)
    exact ⟨_, rfl, ⟨i + 1, D, X, B, C, rfl, by omega, n049, b49, T49⟩, by simp only; omega⟩
  have hdn := T78.tb.dn
  have l1 := T78.ok.xl
  have l2 := T78.ok.bl
  have l3 := T78.sy.xlen
  have l4 := T78.sy.blen
  refine ⟨fun p q s p' q' s' w' => Rx excL 33 w' p q s X ∧ Rx bndL 35 w' p' q' s' C ∧ Mod St.no w78 w', ?_, ?_⟩
  · refine exchanges_ok T78.tb (by omega) _ fun w52 p q s xs' hxs hpx hsx n52 _ => ⟨_, _, _, rfl, ?_⟩
    have T52 := T78.no n52
    refine bindings_ok T52.tb (by omega) _ fun w57 p' q' s' bs hbs hpb hsb n57 _ => ⟨_, _, _, rfl, ?_⟩
    obtain rfl := T78.sy.exs hdn hpx (by rw [hxs.len.1]; exact hsx)
    obtain rfl := T78.sy.bnds hpb (by rw [hbs.len.1]; exact hsb)
    exact ⟨hxs.no n57, hbs, n52.trans n57⟩
  rintro _ p q s p' q' s' w130 ⟨hX, hC, n130⟩
  have T130 := T78.no n130
  have b130 := n130.at' b78
  have e1 := hX.len.1
  have e2 := hC.len.1
  intro w131 e0
  have n131 : Mod no w130 w131 := by subst e0; exact Mod.alloc _ _
  have c131 : w131.heap[w130.heap.size]? = some (.cells #[.slice p q s, .slice p' q' s'] 29 (0, 0)) := by subst e0; exact new_at _ _
  clear e0
  have was : RTb w131 w130.heap.size X C := ⟨p, q, s, p', q', s', c131, hX.no n131, hC.no n131, fun hk => by have := Row.lt hX _ hk; omega, fun hk => by have := Row.lt hC _ hk; omega⟩
  have T131 := T130.no n131
  have b131 := n131.at' b130
  have hX := hX.no n131
  have m131 := (n78.trans n130).trans n131
  clear c131 hC
  have gX : X.length < 1000000000 := by omega
  have gC : C.length < 1000000000 := by omega
  -- the table is as it was
  have same : ∀ w', Mod St.no w131 w' → ∀ K : Value → World → Prop, (∀ w'', Mod St.no w' w'' → K (.bool true) w'') →
      Ca Tryz.prog 15 #[.pointer (some ⟨t, 0, none⟩)] w' fun v w1 => ∃ (p : Option Addr) (l c : Nat), v = .slice p l c ∧ Ca Tryz.prog 16 #[.pointer (some ⟨t, 0, none⟩)] w1 fun v w2 => ∃ (p' : Option Addr) (l' c' : Nat), v = .slice p' l' c' ∧ Ca Tryz.prog 14 #[.slice p l c, .slice p' l' c', .pointer (some ⟨w130.heap.size, 0, none⟩)] w2 K := by
    intro w' n K hK
    have T := T131.no n
    refine exchanges_ok T.tb (by omega) _ fun w52 p q s xs' hxs hpx hsx n52 _ => ⟨_, _, _, rfl, ?_⟩
    refine bindings_ok (T.no n52).tb (by omega) _ fun w57 p' q' s' bs hbs hpb hsb n57 _ => ⟨_, _, _, rfl, ?_⟩
    have ex := T.sy.exs hdn hpx (by rw [hxs.len.1]; exact hsx)
    have eb := T.sy.bnds hpb (by rw [hbs.len.1]; exact hsb)
    have n' := n52.trans n57
    refine same_ok (was.no (n.trans n')) (hxs.no n57) hbs gX gC _ fun w62 n62 => ?_
    rw [decide_eq_true ⟨ex, eb⟩]
    exact hK w62 (n'.trans n62)
  -- a table that says the same
  have alike : ∀ {u k1 k2 : Nat} {B' : List Bnd} (w' : World), Tbl w' u k1 k2 D B' → B' = B → Mod St.no w131 w' → ∀ K : Value → World → Prop, (∀ w'', Mod St.no w' w'' → K (.bool true) w'') →
      Ca Tryz.prog 15 #[.pointer (some ⟨u, 0, none⟩)] w' fun v w1 => ∃ (p : Option Addr) (l c : Nat), v = .slice p l c ∧ Ca Tryz.prog 16 #[.pointer (some ⟨u, 0, none⟩)] w1 fun v w2 => ∃ (p' : Option Addr) (l' c' : Nat), v = .slice p' l' c' ∧ Ca Tryz.prog 14 #[.slice p l c, .slice p' l' c', .pointer (some ⟨w130.heap.size, 0, none⟩)] w2 K := by
    rintro u k1 k2 _ w' hu rfl n K hK
    refine exchanges_ok hu (by omega) _ fun w52 p q s xs' hxs hpx hsx n52 _ => ⟨_, _, _, rfl, ?_⟩
    refine bindings_ok (hu.no n52) (by omega) _ fun w57 p' q' s' bs hbs hpb hsb n57 _ => ⟨_, _, _, rfl, ?_⟩
    have ex := T131.sy.exs hdn hpx (by rw [hxs.len.1]; exact hsx)
    have eb := T131.sy.bnds hpb (by rw [hbs.len.1]; exact hsb)
    have n' := n52.trans n57
    refine same_ok (was.no (n.trans n')) (hxs.no n57) hbs gX gC _ fun w62 n62 => ?_
    rw [decide_eq_true ⟨ex, eb⟩]
    exact hK w62 (n'.trans n62)
  refine copy_ok T131.tb _ fun w133 u k1 k2 hU n133 hu hk1 hk2 => ⟨_, rfl, ?_⟩
  refine (ifK_of (fun h => by cases h) (fun _ => ?_) : ifK false _ _)
  refine alike w133 hU rfl n133 _ fun w146 n146 => ⟨_, rfl, (ifK_of (fun h => by cases h) (fun _ => ?_) : ifK false _ _)⟩
  have n146' := n133.trans n146
  have b146 := n146'.at' b131
  refine ⟨_, by rw [cl1 b146]; rfl, _, by rw [cl1 b146]; rfl, _, by rw [cl1 b146]; rfl, (hasR_ok (was.no n146') b gC _ fun w152 n152 => ?_ : Ca _ _ _ _ _)⟩
  refine ⟨_, rfl, ?_⟩
  have n152' := n146'.trans n152
  have b152 := n152'.at' b131
  have hU152 := (hU.no n146).no n152
  have hnew : ∀ k, of2 k1 k2 k → w131.heap.size ≤ k := by rintro k (rfl | rfl) <;> assumption
  have hmC : (b ∈ C) = (b ∈ B) := propext T131.sy.bp.mem_iff
  refine ⟨fun w' => ∃ B', Tbl w' u k1 k2 D B' ∧ (∀ y ∈ B', y ∈ B) ∧ B'.length ≤ 33 ∧ Mod St.no w131 w', ?_, ?_⟩
  · refine ⟨_, by rw [cl1 b152]; rfl, _, by rw [cl1 b152]; rfl, _, by rw [cl1 b152]; rfl, (bind_ok hU152 b hbp _ fun w159 hU159 n159 => ?_ : Ca _ _ _ _ _)⟩
    have n159' := n152'.new n159 fun k hk => hnew k (.inr hk)
    refine ⟨_, rfl, ifK_eq (fun h0 => ?_) (fun hne => ⟨B, ?_, fun y hy => hy, by omega, n159'⟩)⟩
    · refine same w159 n159' _ fun w172 n172 => ⟨_, rfl, (ifK_of (fun h => by cases h) (fun _ => ?_) : ifK false _ _)⟩
      have n172' := n159'.trans n172
      have b172 := n172'.at' b131
      have hbl := bindB_len (b := b) (D := D) (B := B)
      refine ⟨_, by rw [cl1 b172]; rfl, _, by rw [cl1 b172]; rfl, _, by rw [cl1 b172]; rfl, (unbind_ok (hU159.no n172) b (by omega) _ fun w178 hU178 n178 => ?_ : Ca _ _ _ _ _)⟩
      have n178' := n172'.new n178 fun k hk => hnew k (.inr hk)
      rw [if_pos (bind_zero h0)]
      refine ⟨_, rfl, (ifK_of (fun h => by cases h) (fun _ => ?_) : ifK false _ _)⟩
      have hend : ∀ w', Mod St.no w178 w' → ∃ B', Tbl w' u k1 k2 D B' ∧ (∀ y ∈ B', y ∈ B) ∧ B'.length ≤ 33 ∧ Mod St.no w131 w' := fun w' n => ⟨_, hU178.no n, bindB_sub, by have := List.length_filter_le (fun y => !decide (y = b)) (bindB b D B); omega, n178'.trans n⟩
      by_cases hmem : b ∈ B
      · rw [show decide (b ∈ C) = true from decide_eq_true (hmC ▸ hmem)]
        exact (ifK_of (fun h => by cases h) (fun _ => hend w178 (Mod.refl _ _)) : ifK false _ _)
      · rw [show decide (b ∈ C) = false from decide_eq_false (hmC ▸ hmem)]
        refine (ifK_of (fun _ => ?_) (fun h => by cases h) : ifK true _ _)
        refine alike w178 hU178 (bind_unbind hmem) n178' _ fun w191 n191 => ⟨_, rfl, (ifK_of (fun h => by cases h) (fun _ => hend w191 n191) : ifK false _ _)⟩
    · have : bindB b D B = B := by
        unfold bindB
        split
        · rename_i hc
          exact absurd (by rw [bindR, if_neg (by rw [hc.1]; decide), if_neg (by rw [hc.2.1]; decide), if_neg (by rw [hc.2.2.1]; decide), if_neg hc.2.2.2.1, if_neg (by omega)]) hne
        · rfl
      rw [this] at hU159
      exact hU159
  rintro _ w194 ⟨B1, hU194, hsub, hB1, n194⟩
  refine ⟨fun y w' => ∃ (j : Nat) (D' : List Exc) (B' : List Bnd), y = j ∧ j ≤ q ∧ Tbl w' u k1 k2 D' B' ∧ (∀ e ∈ D', e ∈ X.drop j) ∧ (∀ y ∈ B', hx y.x D' = true) ∧ B'.length ≤ 33 ∧ D'.length ≤ 8 ∧ Mod St.no w131 w', fun y _ => ((q : Int) - y).toNat,
    ⟨0, D, B1, rfl, Nat.zero_le _, hU194, fun e he => T131.sy.xp.mem_iff.2 he, fun y hy => T131.ok.from_ y (hsub y hy), hB1, l1, n194⟩, ?_⟩
  rintro _ _ w199 ⟨j, D', B', rfl, hj, hU199, hD', hB', lB', lD', n199⟩
  refine ifK_dec (fun hlt => ?_) (fun hge => ?_)
  · have hjX : j < X.length := by omega
    refine (hX.no n199).cellX (by omega) ?_
    intro w204 e0
    have n204 : Mod no w199 w204 := by subst e0; exact Mod.alloc _ _
    have b204 : Xc w204 w199.heap.size exc0 := by subst e0; exact new_at _ _
    clear e0
    refine put3 b204 fun w210 n210 b210 => ?_
    have n1 : Mod St.no w199 w210 := n204.new n210 fun k hk => by cases hk; exact Nat.le_refl _
    refine ⟨_, by rw [cl1 b210]; rfl, drop_ok (hU199.no n1) _ (by omega) _ fun w213 hU213 n213 => ⟨_, rfl, ?_⟩⟩
    have e1 : IntKind.i64.wrap ((j : Int) + 1) = ((j + 1 : Nat) : Int) := (by first | (simp only [IntKind.wrap_i64]; omega) | omega)
    rw [e1]
    clear e1
    have hdrop : X.drop j = at0 X j :: X.drop (j + 1) := by rw [List.drop_eq_getElem_cons hjX, at0_eq hjX]
    refine ⟨⟨j + 1, _, _, rfl, by omega, hU213, ?_, ?_, ?_, ?_, (n199.trans n1).new n213 hnew⟩, by simp only; omega⟩
    · intro e he
      by_cases hh : hx (at0 X j).n D' = true
      · rw [if_pos hh] at he
        obtain ⟨h1, h2⟩ := List.mem_filter.1 he
        have := hD' e h1
        rw [hdrop] at this
        refine (List.mem_cons.1 this).resolve_left fun e0 => ?_
        rw [e0] at h2
        simp at h2
      · rw [if_neg hh] at he
        have := hD' e he
        rw [hdrop] at this
        exact (List.mem_cons.1 this).resolve_left fun e0 => hh (hx_iff.2 ⟨e, he, by rw [e0]⟩)
    · intro y hy
      by_cases hh : hx (at0 X j).n D' = true
      · rw [if_pos hh] at hy ⊢
        obtain ⟨h1, h2⟩ := List.mem_filter.1 hy
        obtain ⟨e, he, hn⟩ := hx_iff.1 (hB' y h1)
        refine hx_iff.2 ⟨e, List.mem_filter.2 ⟨he, ?_⟩, hn⟩
        rw [hn]
        simpa using h2
      · rw [if_neg hh] at hy ⊢
        exact hB' y hy
    · split
      · exact Nat.le_trans (List.length_filter_le _ _) lB'
      · exact lB'
    · split
      · exact Nat.le_trans (List.length_filter_le _ _) lD'
      · exact lD'
  have hDn : D' = [] := List.eq_nil_iff_forall_not_mem.2 fun e he => by
    have := hD' e he
    rw [List.drop_eq_nil_of_le (by omega)] at this
    cases this
  subst hDn
  have hBn : B' = [] := List.eq_nil_iff_forall_not_mem.2 fun y hy => by
    obtain ⟨e, he, _⟩ := hx_iff.1 (hB' y hy)
    cases he
  subst hBn
  refine exchanges_ok hU199 (by decide) _ fun w216 pp ll cc xs' hxs hpx _ n216 _ => ⟨_, _, _, rfl, ?_⟩
  refine bindings_ok (hU199.no n216) (by decide) _ fun w221 pp' ll' cc' bs hbs hpb _ n221 _ => ⟨_, _, _, rfl, ?_⟩
  have z1 : ll = 0 := by have h1 := hxs.len.1; have h2 : xs'.length = 0 := hpx.length_eq; omega
  have z2 : ll' = 0 := by have h1 := hbs.len.1; have h2 : bs.length = 0 := hpb.length_eq; omega
  subst z1
  subst z2
  refine (ifK_of (fun _ => ?_) (fun h => by cases h) : ifK true _ _)
  have n221' := (n199.trans n216).trans n221
  refine same w221 n221' _ fun w236 n236 => ⟨_, rfl, (ifK_of (fun _ => ?_) (fun h => by cases h) : ifK true _ _)⟩
  exact lives w236 ((m131.trans n221').trans n236)
end Go.Proofs.YtehhhkcemmfjpaaGreatDoor
