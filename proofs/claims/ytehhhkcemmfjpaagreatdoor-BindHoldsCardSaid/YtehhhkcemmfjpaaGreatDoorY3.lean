/- Parts of the proof of BindHoldsCard. -/
import Derived.Laws.RangeString
import Derived.Test.YtehhhkcemmfjpaaGreatDoorCore9
import Derived.Test.YtehhhkcemmfjpaaGreatDoorProg
import Derived.Laws.Externs
import Derived.Lib.Bytealg
import Derived.WalkKit
import Derived.MapKept
import Derived.Test.YtehhhkcemmfjpaaGreatDoorY2
/- The program's functions 'plain' and 'Name': what a name is (Con2, for any seat). -/
namespace Go.Proofs.YtehhhkcemmfjpaaGreatDoor
open Go Go.Proofs.YtehhhkcemmfjpaaGreatDoor.St

def letter (c : Nat) : Bool := (decide (97 ≤ c) && decide (c ≤ 122)) || (decide (48 ≤ c) && decide (c ≤ 57)) || c == 45 || c == 95
def lettersB (s : ByteArray) : Bool := s.data.toList.all (fun b => letter b.toNat)
def plainB (s : ByteArray) : Bool := lettersB s && !(ByteArray.toList s == ByteArray.toList (ByteArray.mk #[]))
def nameB (s : ByteArray) : Bool := decide ((s.size : Int) ≤ 20) && plainB s

theorem decode_high (s : ByteArray) (pos : Nat) (h : pos < s.size) (ha : ¬ (s[pos]'h).toNat < 128) : 128 ≤ (Utf8.decode s pos).1 := by
  have e : s.get! (pos + 0) = s[pos]'h := by
    show s.get! pos = _
    simp [ByteArray.get!, getElem!_pos, h]
    rfl
  simp only [Utf8.decode, e, ha, if_false]
  repeat' split
  all_goals simp_all [Utf8.runeError] <;> omega

theorem lettersB_at {s : ByteArray} (h : lettersB s = true) {pos : Nat} (hp : pos < s.size) : letter (s[pos]'hp).toNat = true := by
  rw [lettersB, List.all_eq_true] at h
  exact h _ (by simp [ByteArray.getElem_eq_getElem_data])

theorem lettersB_of {s : ByteArray} (h : ∀ (pos : Nat) (hp : pos < s.size), letter (s[pos]'hp).toNat = true) : lettersB s = true := by
  rw [lettersB, List.all_eq_true]
  intro x hx
  obtain ⟨i, hi, rfl⟩ := List.getElem_of_mem hx
  exact h i (by simpa using hi)

def itPos (w : World) (k n : Nat) : Nat := match w.heap[k]? with | some (.stringIter _ p) => n - p | _ => 0
theorem itPos_of {w : World} {k n p : Nat} {s : ByteArray} (h : w.heap[k]? = some (.stringIter s p)) : itPos w k n = n - p := by simp [itPos, h]

theorem plain_ok (s : ByteArray) (w : World) (R : Value → World → Prop) (h : ∀ w', Mod no w w' → R (.bool (plainB s)) w') : Ca Tryz.prog 82 #[.string s] w R := by
  refine ca82 s w R ?_
  intro w1 e
  subst e
  refine ⟨fun w' => ∃ pos, pos ≤ s.size ∧ w'.heap[w.heap.size]? = some (.stringIter s pos) ∧ Mod no w w' ∧ ∀ (i : Nat) (hi : i < s.size), i < pos → letter (s[i]'hi).toNat = true,
    fun w' => itPos w' w.heap.size s.size, ⟨0, Nat.zero_le _, new_at w _, Mod.alloc w _, fun _ _ h => absurd h (Nat.not_lt_zero _)⟩, ?_⟩
  rintro _ w4 ⟨pos, hle, hit, hm, hgood⟩
  refine ⟨s, pos, hit, ifK_of (fun hp => ?_) (fun hp => ?_)⟩
  · have hp : pos < s.size := of_decide_eq_true hp
    intro w7 e7
    have hm7 : Mod no w w7 := by subst e7; exact hm.new (Mod.putObj w4 _ _) fun k hk => by cases hk; exact Nat.le_refl _
    have hit7 : w7.heap[w.heap.size]? = some (.stringIter s (pos + (Utf8.decode s pos).2)) := by subst e7; exact put_at _ hit
    have hA : letter (Utf8.decode s pos).1 = true → (∃ pos, pos ≤ s.size ∧ w7.heap[w.heap.size]? = some (.stringIter s pos) ∧ Mod no w w7 ∧ ∀ (i : Nat) (hi : i < s.size), i < pos → letter (s[i]'hi).toNat = true) ∧
        itPos w7 w.heap.size s.size < itPos w4 w.heap.size s.size := by
      intro hl
      have hlow : (s[pos]'hp).toNat < 128 := by
        apply Decidable.byContradiction
        intro hh
        have := decode_high s pos hp hh
        simp [letter] at hl
        omega
      have hd := decode_ascii s pos hp hlow
      rw [hd] at hit7 hl
      rw [itPos_of hit, itPos_of hit7]
      refine ⟨⟨pos + 1, hp, hit7, hm7, fun i hi hlt => ?_⟩, by simp only; omega⟩
      by_cases e : i = pos
      · subst e; exact hl
      · exact hgood i hi (by omega)
    have hB : letter (Utf8.decode s pos).1 = false → R (.bool false) w7 := by
      intro hl
      have : plainB s = false := by
        rw [plainB]
        cases hall : lettersB s with
        | false => rfl
        | true =>
          have := lettersB_at hall hp
          by_cases hlow : (s[pos]'hp).toNat < 128
          · rw [decode_ascii s pos hp hlow] at hl; rw [this] at hl; cases hl
          · simp [letter] at this; omega
      have h' := h w7 hm7
      rwa [this] at h'
    have hL : letter (Utf8.decode s pos).1 = ((decide (((Utf8.decode s pos).1 : Int) ≥ 97) && decide (((Utf8.decode s pos).1 : Int) ≤ 122)) || (decide (((Utf8.decode s pos).1 : Int) ≥ 48) && decide (((Utf8.decode s pos).1 : Int) ≤ 57)) ||
        (((Utf8.decode s pos).1 : Int) == 45) || (((Utf8.decode s pos).1 : Int) == 95)) := by
      rw [letter]
      congr 1
      · congr 1
        · congr 1
          · congr 1 <;> exact decide_eq_decide.2 (by omega)
          · congr 1 <;> exact decide_eq_decide.2 (by omega)
        · rw [Bool.eq_iff_iff]; simp; omega
      · rw [Bool.eq_iff_iff]; simp; omega
    rw [hL] at hA hB
    clear hL
    revert hA hB
    dsimp only
    generalize ((∃ pos, pos ≤ s.size ∧ w7.heap[w.heap.size]? = some (.stringIter s pos) ∧ Mod no w w7 ∧ ∀ (i : Nat) (hi : i < s.size), i < pos → letter (s[i]'hi).toNat = true) ∧ itPos w7 w.heap.size s.size < itPos w4 w.heap.size s.size) = A
    generalize decide (((Utf8.decode s pos).1 : Int) ≥ 97) = b1
    generalize decide (((Utf8.decode s pos).1 : Int) ≤ 122) = b2
    generalize decide (((Utf8.decode s pos).1 : Int) ≥ 48) = b3
    generalize decide (((Utf8.decode s pos).1 : Int) ≤ 57) = b4
    generalize (((Utf8.decode s pos).1 : Int) == 45) = b5
    generalize (((Utf8.decode s pos).1 : Int) == 95) = b6
    intro hA hB
    cases b1 <;> cases b2 <;> cases b3 <;> cases b4 <;> cases b5 <;> cases b6 <;> first | exact hA rfl | exact hB rfl
  · have hp : ¬ pos < s.size := of_decide_eq_false hp
    have : lettersB s = true := lettersB_of fun i hi => hgood i hi (by omega)
    have h' := h w4 hm
    rwa [plainB, this, Bool.true_and] at h'

theorem name_ok (s : ByteArray) (w : World) (R : Value → World → Prop) (h : ∀ w', Mod no w w' → R (.bool (nameB s)) w') : Ca Tryz.prog 53 #[.string s] w R := by
  refine ca53 s w R (ifK_of (fun hb => ?_) (fun hb => ?_))
  · refine plain_ok s w _ fun w' hm => ⟨_, rfl, ?_⟩
    have h' := h w' hm
    rwa [nameB, hb, Bool.true_and] at h'
  · have h' := h w (Mod.refl _ _)
    rwa [nameB, hb, Bool.false_and] at h'
end Go.Proofs.YtehhhkcemmfjpaaGreatDoor

/- The table's functions: Find, Good, Declare, Drop, Unbind, Forget. -/
namespace Go.Proofs.YtehhhkcemmfjpaaGreatDoor
open Go Go.Proofs.YtehhhkcemmfjpaaGreatDoor Go.Proofs.YtehhhkcemmfjpaaGreatDoor.St

def exc0 : Exc := ⟨ByteArray.mk #[], 0, false⟩
def findX (n : ByteArray) (D : List Exc) : Option Exc := D.find? fun e => n == e.n
abbrev fx (n : ByteArray) (D : List Exc) : Exc := (findX n D).getD exc0
abbrev hx (n : ByteArray) (D : List Exc) : Bool := (findX n D).isSome
theorem getX (n : ByteArray) : ∀ D : List Exc, getG n (exL D) = (findX n D).map fun e => .agg ⟨e.cs⟩
  | [] => rfl
  | e :: D => by
    have ih := getX n D
    simp only [getG, exL, findX, List.map_cons, List.find?_cons] at ih ⊢
    cases h : (n == e.n) with
    | true => rfl
    | false => exact ih
theorem getB (b : Bnd) : ∀ B : List Bnd, getG b (bnL B) = if b ∈ B then some (.agg ⟨[]⟩) else none
  | [] => rfl
  | x :: B => by
    have ih := getB b B
    simp only [getG, bnL, List.map_cons, List.find?_cons] at ih ⊢
    by_cases h : b = x
    · have : (b == x) = true := decide_eq_true h
      simp [this, h]
    · have hb : (b == x) = false := decide_eq_false h
      simp only [hb]
      rw [ih]
      simp [h]
theorem zero_of {t : TypeId} {z : Value} (h : (Tryz.prog.info? t).bind (·.zero) = some z) (w : World) : (zeroValue t).run Tryz.prog w = .ok z w := by
  cases hi : Tryz.prog.info? t with
  | none => rw [hi] at h; cases h
  | some i => rw [hi] at h; exact run_zeroValue' hi h
theorem look_x {w : World} {m : Nat} {D : List Exc} (h : XMap w m D) (n : ByteArray) :
    Sem.run Tryz.prog (Instr.lookup 67 (.map (some m)) (.string n) true) w = Result.ok (.tuple #[.agg ⟨(fx n D).cs⟩, .bool (hx n D)]) w := by
  rw [lookup_k (keys_string Tryz.underlying9) Tryz.underlying67 (z := .agg ⟨exc0.cs⟩) (zero_of (by kernel_rfl)) h n trivial (fun _ _ => trivial) true, getX]
  cases h : findX n D <;> simp [fx, hx, h]
theorem look_b {w : World} {m : Nat} {B : List Bnd} (h : BMap w m B) (b : Bnd) :
    Sem.run Tryz.prog (Instr.lookup 68 (.map (some m)) (.agg ⟨b.cs⟩) true) w = Result.ok (.tuple #[.agg ⟨[]⟩, .bool (decide (b ∈ B))]) w := by
  have := lookup_k (keys_bnd bnd_s) Tryz.underlying68 (z := .agg ⟨[]⟩) (zero_of (by kernel_rfl)) h b trivial (fun _ _ => trivial) true
  rw [getB] at this
  refine this.trans ?_
  by_cases hb : b ∈ B <;> simp [hb]

theorem put3 {k : Nat} {e : TypeId} {w : World} {x y z a b c : Value} {K : World → Prop} (h : w.heap[k]? = some (.cells #[x, y, z] e (0, 0))) (hk : ∀ w', Mod (on k) w w' → w'.heap[k]? = some (.cells #[a, b, c] e (0, 0)) → K w') :
    (∃ v : Value, w.cell? (Addr.add ⟨k, 0, none⟩ 0) = some v) ∧ w.frozen? (Addr.add ⟨k, 0, none⟩ 0) = false ∧ atW (w.setCell (Addr.add ⟨k, 0, none⟩ 0) a) fun w1 =>
    (∃ v : Value, w1.cell? (Addr.add ⟨k, 0, none⟩ 1) = some v) ∧ w1.frozen? (Addr.add ⟨k, 0, none⟩ 1) = false ∧ atW (w1.setCell (Addr.add ⟨k, 0, none⟩ 1) b) fun w2 =>
    (∃ v : Value, w2.cell? (Addr.add ⟨k, 0, none⟩ 2) = some v) ∧ w2.frozen? (Addr.add ⟨k, 0, none⟩ 2) = false ∧ atW (w2.setCell (Addr.add ⟨k, 0, none⟩ 2) c) K := by
  refine ⟨⟨x, by rw [cl1 h]; rfl⟩, fz1 h _, fun w1 e1 => ?_⟩
  have h1 : w1.heap[k]? = some (.cells #[a, y, z] e (0, 0)) := by subst e1; rw [set1 h]; rfl
  have m1 : Mod (on k) w w1 := by subst e1; exact Mod.set1 _ _ _ _
  clear e1
  refine ⟨⟨y, by rw [cl1 h1]; rfl⟩, fz1 h1 _, fun w2 e2 => ?_⟩
  have h2 : w2.heap[k]? = some (.cells #[a, b, z] e (0, 0)) := by subst e2; rw [set1 h1]; rfl
  have m2 : Mod (on k) w1 w2 := by subst e2; exact Mod.set1 _ _ _ _
  clear e2
  refine ⟨⟨z, by rw [cl1 h2]; rfl⟩, fz1 h2 _, fun w3 e3 => ?_⟩
  have h3 : w3.heap[k]? = some (.cells #[a, b, c] e (0, 0)) := by subst e3; rw [set1 h2]; rfl
  have m3 : Mod (on k) w2 w3 := by subst e3; exact Mod.set1 _ _ _ _
  clear e3
  exact hk w3 ((m1.trans m2).trans m3) h3

/-- The three cells of an exchange. -/
abbrev Xc (w : World) (k : Nat) (x : Exc) : Prop := w.heap[k]? = some (.cells #[.string x.n, .int .i64 x.k, .bool x.f] 33 (0, 0))
abbrev Bc (w : World) (k : Nat) (x : Bnd) : Prop := w.heap[k]? = some (.cells #[.string x.x, .string x.q, .string x.p] 35 (0, 0))

section
variable {w : World} {t m1 m2 : Nat} {D : List Exc} {B : List Bnd} (hT : Tbl w t m1 m2 D B)
include hT
theorem find_ok (n : ByteArray) (R : Value → World → Prop) (h : ∀ w', Mod no w w' → R (.tuple #[.agg ⟨(fx n D).cs⟩, .bool (hx n D)]) w') :
    Ca Tryz.prog 17 #[.pointer (some ⟨t, 0, none⟩), .string n] w R := by
  refine ca17 (some ⟨t, 0, none⟩) n w R ?_
  intro w0 e0
  have m0 : Mod no w w0 := by subst e0; exact Mod.alloc _ _
  have b0 : Xc w0 w.heap.size exc0 := by subst e0; exact new_at _ _
  clear e0
  have hT0 := hT.no m0
  refine made_ok hT0 _ ⟨true, rfl, ifK_of (fun h => by cases h) fun _ => ?_⟩
  refine ⟨some m1, by rw [cl1 hT0.cell]; rfl, _, _, look_x hT0.x n, _, _, _, _, rfl, ?_⟩
  intro w1 e1
  have n1 : Mod no w0 w1 := by subst e1; exact Mod.alloc _ _
  have b1 : Xc w1 w0.heap.size exc0 := by subst e1; exact new_at _ _
  clear e1
  refine put3 b1 fun w2 n2 b2 => ?_
  refine ⟨_, by rw [cl1 b2]; rfl, _, by rw [cl1 b2]; rfl, _, by rw [cl1 b2]; rfl, ?_⟩
  have n12 : Mod no w0 w2 := n1.new n2 fun k hk => by cases hk; exact Nat.le_refl _
  refine put3 (n12.at' b0) fun w3 n3 b3 => ?_
  refine ⟨_, by rw [cl1 b3]; rfl, _, by rw [cl1 b3]; rfl, _, by rw [cl1 b3]; rfl, ?_⟩
  exact h w3 ((m0.trans n12).new n3 fun k hk => by cases hk; exact Nat.le_refl _)
end

/-- Whether an exchange may be. -/
def goodX (x : Exc) : Bool := nameB x.n && (x.k == 1 || x.k == 2 || x.k == 3)
theorem good_ok (x : Exc) (w : World) (R : Value → World → Prop) (h : ∀ w', Mod no w w' → R (.bool (goodX x)) w') : Ca Tryz.prog 18 #[.agg ⟨x.cs⟩] w R := by
  refine (ca18 x.n x.k x.f w R ?_ : Ca _ _ _ _ _)
  intro w0 e0
  have m0 : Mod no w w0 := by subst e0; exact Mod.alloc _ _
  have b0 : Xc w0 w.heap.size x := by subst e0; exact new_at _ _
  clear e0
  refine ⟨_, by rw [cl1 b0]; rfl, name_ok _ _ _ fun w1 m1 => ⟨_, rfl, ?_⟩⟩
  have b1 := m1.at' b0
  have m01 := m0.trans m1
  have h := h w1 m01
  unfold goodX at h
  refine ifK_of (fun hn => ?_) (fun hn => ?_)
  · rw [hn, Bool.true_and] at h
    refine ⟨_, by rw [cl1 b1]; rfl, ifK_of (fun h1 => ?_) (fun h1 => ?_)⟩
    · rw [h1] at h; exact h
    · rw [h1] at h
      refine ⟨_, by rw [cl1 b1]; rfl, ifK_of (fun h2 => ?_) (fun h2 => ?_)⟩
      · rw [h2] at h; exact h
      · rw [h2] at h; exact ⟨_, by rw [cl1 b1]; rfl, h⟩
  · rw [hn, Bool.false_and] at h; exact h
end Go.Proofs.YtehhhkcemmfjpaaGreatDoor

/- The table's functions: Declare, Drop, Unbind, Forget. -/
namespace Go.Proofs.YtehhhkcemmfjpaaGreatDoor
open Go Go.Proofs.YtehhhkcemmfjpaaGreatDoor Go.Proofs.YtehhhkcemmfjpaaGreatDoor.St

theorem findX_none {n : ByteArray} {D : List Exc} : findX n D = none ↔ n ∉ D.map (·.n) := by
  unfold findX
  rw [List.find?_eq_none]
  constructor
  · intro h hn
    obtain ⟨e, he, rfl⟩ := List.mem_map.1 hn
    exact h e he (beq_self_eq_true _)
  · intro h e he hb
    exact h (List.mem_map.2 ⟨e, he, (eq_of_beq hb).symm⟩)
theorem findX_some {n : ByteArray} {D : List Exc} {e : Exc} (h : findX n D = some e) : e ∈ D ∧ e.n = n := ⟨List.mem_of_find?_eq_some h, (eq_of_beq (List.find?_some (p := fun e : Exc => n == e.n) (l := D) h)).symm⟩
theorem exL_fst (D : List Exc) : (exL D).map (·.1) = D.map (·.n) := by rw [exL, List.map_map]; rfl
theorem bnL_fst (B : List Bnd) : (bnL B).map (·.1) = B := by
  rw [bnL, List.map_map]
  conv => rhs; rw [← List.map_id B]
  rfl
def excV (x : Exc) : Value := .agg ⟨[.string x.n, .int .i64 x.k, .bool x.f]⟩
theorem put_x {w : World} {m : Nat} {D : List Exc} (h : XMap w m D) (x : Exc) (hn : x.n ∉ D.map (·.n)) :
    ∃ w', Sem.run Tryz.prog (Instr.mapUpdate 67 (.map (some m)) (.string x.n) (excV x)) w = Result.ok () w' ∧ Mod (on m) w w' ∧ XMap w' m (D ++ [x]) := by
  obtain ⟨w', h1, h2, h3⟩ := update_k (keys_string Tryz.underlying9) Tryz.underlying67 h x.n trivial (fun _ _ => trivial) (excV x)
  refine ⟨w', h1, h2, ?_⟩
  rw [setG_none (by rw [exL_fst]; exact hn)] at h3
  have : exL (D ++ [x]) = exL D ++ [(x.n, excV x)] := by rw [exL, List.map_append]; rfl
  rw [XMap, this]
  exact h3
theorem delX (n : ByteArray) : ∀ {D : List Exc}, (D.map (·.n)).Nodup → delG n (exL D) = exL (D.filter fun e => !(e.n == n))
  | [], _ => rfl
  | e :: D, h => by
    rw [List.map_cons, List.nodup_cons] at h
    simp only [exL, List.map_cons, delG]
    by_cases he : n = e.n
    · subst he
      rw [if_pos (beq_self_eq_true _), List.filter_cons_of_neg (by simp), List.filter_eq_self.2]
      intro y hy
      have : (y.n == e.n) = false := beq_false_of_ne fun h' => h.1 (by rw [← h']; exact List.mem_map_of_mem hy)
      simp [this]
    · have hne : (e.n == n) = false := beq_false_of_ne fun h' => he h'.symm
      rw [if_neg (fun h' => he (eq_of_beq h')), List.filter_cons_of_pos (by simp [hne]), List.map_cons]
      congr 1
      exact delX n h.2
theorem del_x {w : World} {m : Nat} {D : List Exc} (h : XMap w m D) (n : ByteArray) (hD : (D.map (·.n)).Nodup) :
    ∃ w', Sem.run Tryz.prog (Builtin.delete_ #[67, 9] 0 #[.map (some m), .string n]) w = Result.ok (.tuple #[]) w' ∧ Mod (on m) w w' ∧ XMap w' m (D.filter fun e => !(e.n == n)) := by
  obtain ⟨w', h1, h2, h3⟩ := delete_k (keys_string Tryz.underlying9) (u := 9) (ty := 0) Tryz.underlying67 h n trivial (fun _ _ => trivial)
  refine ⟨w', h1, h2, ?_⟩
  rw [delX n hD] at h3
  exact h3

/-! ### What Declare answers, and leaves -/
def declR (x : Exc) (D : List Exc) : Int := if goodX x then (match findX x.n D with | some y => if y = x then 0 else 12 | none => if D.length ≥ 8 then 5 else 0) else 2
def declD (x : Exc) (D : List Exc) : List Exc := if goodX x && (findX x.n D).isNone && decide (D.length < 8) then D ++ [x] else D

section
variable {w : World} {t m1 m2 : Nat} {D : List Exc} {B : List Bnd} (hT : Tbl w t m1 m2 D B)
include hT
theorem declare_ok (x : Exc) (R : Value → World → Prop) (h : ∀ w', Tbl w' t m1 m2 (declD x D) B → Mod (on m1) w w' → R (.int .i64 (declR x D)) w') :
    Ca Tryz.prog 35 #[.pointer (some ⟨t, 0, none⟩), .agg ⟨x.cs⟩] w R := by
  refine (ca35 (some ⟨t, 0, none⟩) x.n x.k x.f w R ?_ : Ca _ _ _ _ _)
  intro w0 e0
  have n0 : Mod no w w0 := by subst e0; exact Mod.alloc _ _
  have b0 : Xc w0 w.heap.size x := by subst e0; exact new_at _ _
  clear e0
  have hT0 := hT.no n0
  refine made_ok hT0 _ ⟨true, rfl, ifK_of (fun h => by cases h) fun _ => ?_⟩
  refine ⟨_, by rw [cl1 b0]; rfl, _, by rw [cl1 b0]; rfl, _, by rw [cl1 b0]; rfl, ?_⟩
  refine (good_ok x w0 _ fun w8 n8 => ?_ : Ca _ _ _ _ _)
  refine ⟨_, rfl, ?_⟩
  have n08 := n0.trans n8
  refine ifK_of (fun hg => ?_) (fun hg => ?_)
  · have hg : goodX x = false := by simpa using hg
    have h' := h w8 (by rw [declD, hg]; exact hT.no n08) n08.of_no
    rw [declR, hg] at h'
    exact h'
  have hg : goodX x = true := by simpa using hg
  refine ⟨fun p b w' => ∃ k, p = some ⟨k, 0, none⟩ ∧ Xc w' k (fx x.n D) ∧ b = hx x.n D ∧ Xc w' w.heap.size x ∧ Tbl w' t m1 m2 D B ∧ Mod no w w', ?_, ?_⟩
  · intro w11 e11
    have n11 : Mod no w8 w11 := by subst e11; exact Mod.drew _
    clear e11
    have b11 := n11.at' (n8.at' b0)
    have n011 := n08.trans n11
    have hT11 := hT.no n011
    refine ⟨some m1, by rw [cl1 hT11.cell]; rfl, _, by rw [cl1 b11]; rfl, ⟨_, _, look_x hT11.x x.n, _, _, _, _, rfl, ?_⟩, ?_⟩
    · intro w21 e21
      have n21 : Mod no w11 w21 := by subst e21; exact Mod.alloc _ _
      have b21 : Xc w21 w11.heap.size exc0 := by subst e21; exact new_at _ _
      clear e21
      have hT21 := hT11.no n21
      have bx := n21.at' b11
      refine ⟨by rw [cl2 hT21.cell]; rfl, by rw [cl2 bx]; rfl, put3 b21 fun w27 n27 b27 => ?_⟩
      have n1127 : Mod no w11 w27 := n21.new n27 fun k hk => by cases hk; exact Nat.le_refl _
      exact ⟨_, rfl, b27, rfl, n1127.at' b11, hT11.no n1127, n011.trans n1127⟩
    · intro w21 e21
      have n21 : Mod no w11 w21 := by subst e21; exact Mod.alloc _ _
      have b21 : Xc w21 w11.heap.size exc0 := by subst e21; exact new_at _ _
      clear e21
      have hT21 := hT11.no n21
      have bx := n21.at' b11
      refine ⟨by rw [cl2 hT21.cell]; rfl, by rw [cl2 bx]; rfl, _, _, look_x hT21.x x.n, _, _, _, _, rfl, put3 b21 fun w27 n27 b27 => ?_⟩
      have n1127 : Mod no w11 w27 := n21.new n27 fun k hk => by cases hk; exact Nat.le_refl _
      exact ⟨_, rfl, b27, rfl, n1127.at' b11, hT11.no n1127, n011.trans n1127⟩
  rintro _ _ _ w44 ⟨k, rfl, bk, rfl, bx, hT44, n44⟩
  have add : ∀ w' , Mod no w w' → Tbl w' t m1 m2 D B → Xc w' w.heap.size x → findX x.n D = none →
      (∃ p66 : Option Nat, w'.cell? (Addr.add ⟨t, 0, none⟩ 0) = some (.map p66) ∧ lenM p66 w' fun x67 => ifK (decide (x67 ≥ 8)) (R (.int .i64 5) w') (atW w'.drew fun w68 =>
        ∃ p70 : Option Nat, w68.cell? (Addr.add ⟨t, 0, none⟩ 0) = some (.map p70) ∧ ∃ s71 : ByteArray, w68.cell? (Addr.add ⟨w.heap.size, 0, none⟩ 0) = some (.string s71) ∧ ∃ s72 : ByteArray, w68.cell? (Addr.add ⟨w.heap.size, 0, none⟩ 0) = some (.string s72) ∧
        ∃ x73 : Int, w68.cell? (Addr.add ⟨w.heap.size, 0, none⟩ 1) = some (.int .i64 x73) ∧ ∃ b74 : Bool, w68.cell? (Addr.add ⟨w.heap.size, 0, none⟩ 2) = some (.bool b74) ∧
        ∃ w75 : World, Sem.run Tryz.prog (Instr.mapUpdate 67 (.map p70) (.string s71) (.agg ⟨[.string s72, .int .i64 x73, .bool b74]⟩)) w68 = Result.ok () w75 ∧ R (.int .i64 0) w75)) := by
    intro w' nw hTw bw hf
    obtain ⟨es, clock, hes, hlen⟩ := xmap_len hTw.x
    refine ⟨some m1, by rw [cl1 hTw.cell]; rfl, es, clock, hes, ifK_dec (fun hge => ?_) (fun hlt => ?_)⟩
    · rw [hlen] at hge
      have h' := h w' (by rw [declD, hg, hf, show decide (D.length < 8) = false from decide_eq_false (by omega)]; exact hTw) nw.of_no
      rw [declR, hg, hf] at h'
      simp only [if_true] at h'
      rw [if_pos (by omega)] at h'
      exact h'
    · rw [hlen] at hlt
      intro w68 e68
      have n68 : Mod no w' w68 := by subst e68; exact Mod.drew _
      clear e68
      have hT68 := hTw.no n68
      have b68 := n68.at' bw
      have hnm : x.n ∉ D.map (·.n) := findX_none.1 hf
      obtain ⟨w75, hr, n75, hx75⟩ := put_x hT68.x x hnm
      refine ⟨some m1, by rw [cl1 hT68.cell]; rfl, _, by rw [cl1 b68]; rfl, _, by rw [cl1 b68]; rfl, _, by rw [cl1 b68]; rfl, _, by rw [cl1 b68]; rfl, w75, hr, ?_⟩
      have h' := h w75 (by
        rw [declD, hg, hf, show decide (D.length < 8) = true from decide_eq_true (by omega)]
        show Tbl w75 t m1 m2 (D ++ [x]) B
        refine ⟨n75.at hT68.cell hT.t1, hx75, hT68.b.mod n75 (fun hS => hT.ne hS.symm), hT.ne, ?_, hT.bn⟩
        rw [List.map_append, List.nodup_append]
        refine ⟨hT.dn, by simp, fun a ha b hb => ?_⟩
        simp only [List.map_cons, List.map_nil, List.mem_singleton] at hb
        rintro rfl
        exact hnm (hb ▸ ha)) ((nw.trans n68).no_trans n75)
      rw [declR, hg, hf] at h'
      simp only [if_true] at h'
      rw [if_neg (by omega)] at h'
      exact h'
  cases hf : findX x.n D with
  | none =>
    have hb : hx x.n D = false := by rw [hx, hf]; rfl
    rw [hb]
    exact ifK_of (fun h => by cases h) fun _ => ifK_of (fun h => by cases h) fun _ => add w44 n44 hT44 bx hf
  | some y =>
    have hb : hx x.n D = true := by rw [hx, hf]; rfl
    have hy : fx x.n D = y := by rw [fx, hf]; rfl
    rw [hb]
    rw [hy] at bk
    refine ifK_of (fun _ => ?_) fun h => by cases h
    refine ⟨_, by rw [cl1 bk]; rfl, _, by rw [cl1 bk]; rfl, _, by rw [cl1 bk]; rfl, _, by rw [cl1 bx]; rfl, _, by rw [cl1 bx]; rfl, _, by rw [cl1 bx]; rfl, ?_⟩
    have hD : declD x D = D := by rw [declD, hf]; simp
    refine eqA_agg exc_s.guard (exc_s.eq y x) (ifK_dec (fun he => ?_) (fun he => ifK_of (fun _ => ?_) fun h => by cases h))
    · have h' := h w44 (by rw [hD]; exact hT44) n44.of_no
      rw [declR, hg, hf] at h'
      simp only [if_true, if_pos he] at h'
      exact h'
    · have h' := h w44 (by rw [hD]; exact hT44) n44.of_no
      rw [declR, hg, hf] at h'
      simp only [if_true, if_neg he] at h'
      exact h'
theorem forget_ok (n : ByteArray) (hl : B.length < 1099511627776) (R : Value → World → Prop) (h : ∀ w', Tbl w' t m1 m2 D (B.filter fun b => !decide (b.q = n)) → Mod (on m2) w w' → R (.int .i64 ((B.length : Int) - (B.filter fun b => !decide (b.q = n)).length)) w') :
    Ca Tryz.prog 41 #[.pointer (some ⟨t, 0, none⟩), .string n] w R := by
  refine ca41 (some ⟨t, 0, none⟩) n w R ?_
  intro w0 e0
  have n0 : Mod no w w0 := by subst e0; exact Mod.alloc _ _
  have b0 : w0.heap[w.heap.size]? = some (.cells #[.string n] 9 (0, 0)) := by subst e0; exact new_at _ _
  clear e0
  have hT0 := hT.no n0
  refine made_ok hT0 _ ⟨true, rfl, ifK_of (fun h => by cases h) fun _ => ?_⟩
  have hmlt : m2 < w.heap.size := by obtain ⟨_, _, hh, _⟩ := hT.b; exact lt_of_heap hh
  exact sweep_ok _ _ _ _ hT0 hl (test2 n b0 (by omega)) _ fun w1 hT1 n1 => ⟨_, rfl, h w1 hT1 (n0.no_trans n1)⟩
omit hT in
theorem filter_len_eq {p : Bnd → Bool} {B : List Bnd} : (B.length : Int) - (B.filter fun b => !p b).length = 0 ↔ ∀ b ∈ B, p b = false := by
  have hle : (B.filter fun b => !p b).length ≤ B.length := List.length_filter_le _ _
  constructor
  · intro h
    have := List.length_filter_eq_length_iff.1 (show (B.filter fun b => !p b).length = B.length by omega)
    intro b hb
    simpa using this b hb
  · intro h
    have : (B.filter fun b => !p b).length = B.length := List.length_filter_eq_length_iff.2 fun b hb => by simp [h b hb]
    omega
theorem unbind_ok (x : Bnd) (hl : B.length < 1099511627776) (R : Value → World → Prop) (h : ∀ w', Tbl w' t m1 m2 D (B.filter fun b => !decide (b = x)) → Mod (on m2) w w' → R (.int .i64 (if x ∈ B then 0 else 3)) w') :
    Ca Tryz.prog 22 #[.pointer (some ⟨t, 0, none⟩), .agg ⟨x.cs⟩] w R := by
  refine (ca22 (some ⟨t, 0, none⟩) x.x x.q x.p w R ?_ : Ca _ _ _ _ _)
  intro w0 e0
  have n0 : Mod no w w0 := by subst e0; exact Mod.alloc _ _
  have b0 : Bc w0 w.heap.size x := by subst e0; exact new_at _ _
  clear e0
  have hT0 := hT.no n0
  refine made_ok hT0 _ ⟨true, rfl, ifK_of (fun h => by cases h) fun _ => ?_⟩
  have hmlt : m2 < w.heap.size := by obtain ⟨_, _, hh, _⟩ := hT.b; exact lt_of_heap hh
  refine sweep_ok _ _ _ _ hT0 hl (test3 x b0 (by omega)) _ fun w1 hT1 n1 => ⟨_, rfl, ?_⟩
  have h' := h w1 hT1 (n0.no_trans n1)
  by_cases hx : x ∈ B
  · rw [if_pos hx] at h'
    refine ifK_eq (fun h0 => ?_) (fun _ => h')
    have := filter_len_eq.1 h0 x hx
    simp at this
  · rw [if_neg hx] at h'
    refine ifK_eq (fun _ => h') (fun h0 => absurd (filter_len_eq.2 fun b hb => ?_) h0)
    exact decide_eq_false fun e => hx (e ▸ hb)
theorem drop_ok (n : ByteArray) (hl : B.length < 1099511627776) (R : Value → World → Prop)
    (h : ∀ w', Tbl w' t m1 m2 (if hx n D then D.filter fun e => !(e.n == n) else D) (if hx n D then B.filter fun b => !decide (b.x = n) else B) → Mod (of2 m1 m2) w w' → R (.int .i64 (if hx n D then 0 else 3)) w') :
    Ca Tryz.prog 23 #[.pointer (some ⟨t, 0, none⟩), .string n] w R := by
  refine ca23 (some ⟨t, 0, none⟩) n w R ?_
  intro w0 e0
  have n0 : Mod no w w0 := by subst e0; exact Mod.alloc _ _
  have b0 : w0.heap[w.heap.size]? = some (.cells #[.string n] 9 (0, 0)) := by subst e0; exact new_at _ _
  clear e0
  have hT0 := hT.no n0
  refine made_ok hT0 _ ⟨true, rfl, ifK_of (fun h => by cases h) fun _ => ?_⟩
  have hm2 : m2 < w.heap.size := by obtain ⟨_, _, hh, _⟩ := hT.b; exact lt_of_heap hh
  have hm1 : m1 < w.heap.size := by obtain ⟨_, _, hh, _⟩ := hT.x; exact lt_of_heap hh
  refine ⟨fun b w' => b = hx n D ∧ w'.heap[w.heap.size]? = some (.cells #[.string n] 9 (0, 0)) ∧ Tbl w' t m1 m2 D B ∧ Mod no w w', ?_, ?_⟩
  · intro w11 e11
    have n11 : Mod no w0 w11 := by subst e11; exact Mod.drew _
    clear e11
    have b11 := n11.at' b0
    have n011 := n0.trans n11
    have hT11 := hT.no n011
    refine ⟨some m1, by rw [cl1 hT11.cell]; rfl, _, by rw [cl b11]; rfl, ⟨_, _, look_x hT11.x n, _, _, _, _, rfl, ?_⟩, ?_⟩
    · intro w21 e21
      have n21 : Mod no w11 w21 := by subst e21; exact Mod.alloc _ _
      have b21 : Xc w21 w11.heap.size exc0 := by subst e21; exact new_at _ _
      clear e21
      have hT21 := hT11.no n21
      have bx := n21.at' b11
      refine ⟨by rw [cl2 hT21.cell]; rfl, by rw [cl1 bx]; rfl, put3 b21 fun w27 n27 b27 => ?_⟩
      have n1127 : Mod no w11 w27 := n21.new n27 fun k hk => by cases hk; exact Nat.le_refl _
      exact ⟨rfl, n1127.at' b11, hT11.no n1127, n011.trans n1127⟩
    · intro w21 e21
      have n21 : Mod no w11 w21 := by subst e21; exact Mod.alloc _ _
      have b21 : Xc w21 w11.heap.size exc0 := by subst e21; exact new_at _ _
      clear e21
      have hT21 := hT11.no n21
      have bx := n21.at' b11
      refine ⟨by rw [cl2 hT21.cell]; rfl, by rw [cl1 bx]; rfl, _, _, look_x hT21.x n, _, _, _, _, rfl, put3 b21 fun w27 n27 b27 => ?_⟩
      have n1127 : Mod no w11 w27 := n21.new n27 fun k hk => by cases hk; exact Nat.le_refl _
      exact ⟨rfl, n1127.at' b11, hT11.no n1127, n011.trans n1127⟩
  rintro _ _ w44 ⟨rfl, bn, hT44, n44⟩
  cases hh : hx n D with
  | false =>
    refine ifK_of (fun _ => ?_) fun h => by cases h
    have h' := h w44 (by rw [hh]; exact hT44) n44.of_no
    rw [hh] at h'
    exact h'
  | true =>
    refine ifK_of (fun h => by cases h) fun _ => ?_
    rw [hh] at h
    intro w38 e38
    have n38 : Mod no w44 w38 := by subst e38; exact Mod.drew _
    clear e38
    have hT38 := hT44.no n38
    have b38 := n38.at' bn
    have n038 := n44.trans n38
    obtain ⟨w43, hr, n43, hx43⟩ := del_x hT38.x n hT.dn
    refine ⟨some m1, by rw [cl1 hT38.cell]; rfl, _, by rw [cl b38]; rfl, _, w43, hr, rfl, ?_⟩
    have hT43 : Tbl w43 t m1 m2 (D.filter fun e => !(e.n == n)) B := ⟨n43.at hT38.cell hT.t1, hx43, hT38.b.mod n43 (fun hS => hT.ne hS.symm), hT.ne, hT.dn.sublist (List.filter_sublist.map _), hT.bn⟩
    have b43 := n43.at b38 (show ¬ w.heap.size = m1 by omega)
    refine sweep_ok _ _ _ _ hT43 hl (test1 n b43 (by omega)) _ fun w45 hT45 n45 => ⟨_, rfl, ?_⟩
    exact h w45 hT45 (((n038.no_trans n43).mono fun k _ hk => .inl hk).trans (n45.mono fun k _ hk => .inr hk))
end
end Go.Proofs.YtehhhkcemmfjpaaGreatDoor

/- The formulas of functions, printed by a program of mine (gen.py) out of the translation. -/
namespace Go.Proofs.YtehhhkcemmfjpaaGreatDoor
open Go Go.Proofs.YtehhhkcemmfjpaaGreatDoor.St
open _root_.Go.Value (string int bool slice pointer agg tuple map func nilFunc iface)
open _root_.Go.World (cell? frozen? setCell alloc drew)
open _root_.Go.Addr (add)
open _root_.Go.Obj (cells)
open _root_.Go.IntKind (wrap i64 u64 i32 u32 u8)
set_option maxRecDepth 100000

/-- strings.SplitSeq -/
noncomputable def C137 : Code := (Tryz.f137.body).getD .skip
def pl137 : Nat → Plan := fun _ => .done
def ls137 : Nat → List (Nat × LT) := fun _ => []
def W137 (s : ByteArray) (sep : ByteArray) (w : World) (R : Value → World → Prop) : Prop :=
  (Ca Tryz.prog (150) (Array.mk [string s, string sep, int i64 0]) (w) (fun v0 => (fun w1 =>
(∃ v2 : Value, ((v0 = v2) ∧ (R (v2) (w1)))))))
theorem ca137 (s : ByteArray) (sep : ByteArray) (w : World) (R : Value → World → Prop) (h : W137 s sep w R) : Ca Tryz.prog 137 ⟨[(.string s), (.string sep)]⟩ w R :=
  caB (fn := Tryz.f137) (pl := pl137) (ls := ls137) Tryz.func137 (by kernel_rfl) (by kernel_rfl) h

/-- strings.splitSeq -/
noncomputable def C150 : Code := (Tryz.f150.body).getD .skip
def pl150 : Nat → Plan := fun _ => .done
def ls150 : Nat → List (Nat × LT) := fun _ => []
def W150 (s : ByteArray) (sep : ByteArray) (sepSave : Int) (w : World) (R : Value → World → Prop) : Prop :=
  (atW (alloc w (cells (Array.mk [string s]) 9 (0, 0))) (fun w0 =>
(atW (alloc w0 (cells (Array.mk [string sep]) 9 (0, 0))) (fun w1 =>
(atW (alloc w1 (cells (Array.mk [int i64 sepSave]) 3 (0, 0))) (fun w2 =>
(R (func (Fn.func 154) (Array.mk []) (Array.mk [pointer (some (nw w0)), pointer (some (nw w)), pointer (some (nw w1))])) (w2))))))))
theorem ca150 (s : ByteArray) (sep : ByteArray) (sepSave : Int) (w : World) (R : Value → World → Prop) (h : W150 s sep sepSave w R) : Ca Tryz.prog 150 ⟨[(.string s), (.string sep), (.int .i64 sepSave)]⟩ w R :=
  caB (fn := Tryz.f150) (pl := pl150) (ls := ls150) Tryz.func150 (by kernel_rfl) (by kernel_rfl) h

/-- strings.splitSeq$1 -/
noncomputable def C154 : Code := (Tryz.f154.body).getD .skip
def pl154 : Nat → Plan := fun _ => .done
def ls154 : Nat → List (Nat × LT)
  | 3 => []
  | 10 => []
  | _ => []
def W154 (yield : Value) (c0 : Option Addr) (c1 : Option Addr) (c2 : Option Addr) (w : World) (R : Value → World → Prop) : Prop :=
  (onP (c0) (fun a0 =>
(∃ s1 : ByteArray, ((cell? w a0 = some (string s1)) ∧ (ifK ((↑(ByteArray.size s1) : Int) == 0)
(∃ z2 : World → Prop, (∃ z3 : World → Nat, ((z2 (w)) ∧ (∀ (_ : Nat → Value), (∀ (w5 : World), ((z2 (w5)) → (onP (c1) (fun a6 =>
(∃ s7 : ByteArray, ((cell? w5 a6 = some (string s7)) ∧ (ifK (decide ((↑(ByteArray.size s7) : Int) > 0))
(onP (c1) (fun a8 =>
(∃ s9 : ByteArray, ((cell? w5 a8 = some (string s9)) ∧ (Ca Tryz.prog (155) (Array.mk [string s9]) (w5) (fun v10 => (fun w11 =>
(∃ x12 : Int, (∃ x13 : Int, ((v10 = tuple (Array.mk (List.reverse [int i64 x13, int i32 x12]))) ∧ (onP (c1) (fun a14 =>
(∃ s15 : ByteArray, ((cell? w11 a14 = some (string s15)) ∧ (((0 : Int) ≤ 0) ∧ (((0 : Int) ≤ x13) ∧ (((x13 : Int) ≤ (↑(ByteArray.size s15) : Int)) ∧ (CaV Tryz.prog (yield) (Array.mk [string (ByteArray.extract s15 0 (Int.toNat x13))]) (w11) (fun v16 => (fun w17 =>
(∃ b18 : Bool, ((v16 = bool b18) ∧ (ifK (!b18)
(R (tuple (Array.mk (List.reverse []))) (w17))
(onP (c1) (fun a19 =>
(∃ s20 : ByteArray, ((cell? w17 a19 = some (string s20)) ∧ (((0 : Int) ≤ x13) ∧ (((x13 : Int) ≤ (↑(ByteArray.size s20) : Int)) ∧ ((((↑(ByteArray.size s20) : Int) : Int) ≤ (↑(ByteArray.size s20) : Int)) ∧ (onP (c1) (fun a21 =>
(st1 (add a21 0) (string (ByteArray.extract s20 (Int.toNat x13) (Int.toNat (↑(ByteArray.size s20) : Int)))) w17 (fun w23 =>
((z2 (w23)) ∧ (z3 w23 < z3 w5))))))))))))))))))))))))))))))))))))
(R (tuple (Array.mk (List.reverse []))) (w5)))))))))))))
(∃ z24 : World → Prop, (∃ z25 : World → Nat, ((z24 (w)) ∧ (∀ (_ : Nat → Value), (∀ (w27 : World), ((z24 (w27)) → (onP (c1) (fun a28 =>
(∃ s29 : ByteArray, ((cell? w27 a28 = some (string s29)) ∧ (onP (c0) (fun a30 =>
(∃ s31 : ByteArray, ((cell? w27 a30 = some (string s31)) ∧ (Ca Tryz.prog (156) (Array.mk [string s29, string s31]) (w27) (fun v32 => (fun w33 =>
(∃ x34 : Int, ((v32 = int i64 x34) ∧ (ifK (decide (x34 < 0))
(onP (c1) (fun a35 =>
(∃ s36 : ByteArray, ((cell? w33 a35 = some (string s36)) ∧ (CaV Tryz.prog (yield) (Array.mk [string s36]) (w33) (fun v37 => (fun w38 =>
(∃ b39 : Bool, ((v37 = bool b39) ∧ (R (tuple (Array.mk (List.reverse []))) (w38)))))))))))
(onP (c1) (fun a40 =>
(∃ s41 : ByteArray, ((cell? w33 a40 = some (string s41)) ∧ (onP (c2) (fun a42 =>
(∃ x43 : Int, ((cell? w33 a42 = some (int i64 x43)) ∧ (((0 : Int) ≤ 0) ∧ (((0 : Int) ≤ wrap i64 (x34 + x43)) ∧ (((wrap i64 (x34 + x43) : Int) ≤ (↑(ByteArray.size s41) : Int)) ∧ (CaV Tryz.prog (yield) (Array.mk [string (ByteArray.extract s41 0 (Int.toNat (wrap i64 (x34 + x43))))]) (w33) (fun v44 => (fun w45 =>
(∃ b46 : Bool, ((v44 = bool b46) ∧ (ifK (!b46)
(R (tuple (Array.mk (List.reverse []))) (w45))
(onP (c1) (fun a47 =>
(∃ s48 : ByteArray, ((cell? w45 a47 = some (string s48)) ∧ (onP (c0) (fun a49 =>
(∃ s50 : ByteArray, ((cell? w45 a49 = some (string s50)) ∧ (((0 : Int) ≤ wrap i64 (x34 + (↑(ByteArray.size s50) : Int))) ∧ (((wrap i64 (x34 + (↑(ByteArray.size s50) : Int)) : Int) ≤ (↑(ByteArray.size s48) : Int)) ∧ ((((↑(ByteArray.size s48) : Int) : Int) ≤ (↑(ByteArray.size s48) : Int)) ∧ (onP (c1) (fun a51 =>
((∃ v52 : Value, (cell? w45 (add a51 0) = some v52)) ∧ ((frozen? w45 (add a51 0) = false) ∧ (atW (setCell w45 (add a51 0) (string (ByteArray.extract s48 (Int.toNat (wrap i64 (x34 + (↑(ByteArray.size s50) : Int)))) (Int.toNat (↑(ByteArray.size s48) : Int))))) (fun w53 =>
((z24 (w53)) ∧ (z25 w53 < z25 w27)))))))))))))))))))))))))))))))))))))))))))))))))))))))))))))
theorem ca154 (yield : Value) (c0 : Option Addr) (c1 : Option Addr) (c2 : Option Addr) (w : World) (R : Value → World → Prop) (h : W154 yield c0 c1 c2 w R) : Ca Tryz.prog 154 ⟨[yield, (.pointer c0), (.pointer c1), (.pointer c2)]⟩ w R :=
  caB (fn := Tryz.f154) (pl := pl154) (ls := ls154) Tryz.func154 (by kernel_rfl) (by kernel_rfl) h

/-- strings.Index -/
noncomputable def C156 : Code := (Tryz.f156.body).getD .skip
def pl156 : Nat → Plan := fun _ => .done
def ls156 : Nat → List (Nat × LT) := fun _ => []
def W156 (s : ByteArray) (substr : ByteArray) (w : World) (R : Value → World → Prop) : Prop :=
  (Ca Tryz.prog (158) (Array.mk [string s, string substr]) (w) (fun v0 => (fun w1 =>
(∃ x2 : Int, ((v0 = int i64 x2) ∧ (R (int i64 x2) (w1)))))))
theorem ca156 (s : ByteArray) (substr : ByteArray) (w : World) (R : Value → World → Prop) (h : W156 s substr w R) : Ca Tryz.prog 156 ⟨[(.string s), (.string substr)]⟩ w R :=
  caB (fn := Tryz.f156) (pl := pl156) (ls := ls156) Tryz.func156 (by kernel_rfl) (by kernel_rfl) h

/-- internal/stringslite.Index -/
noncomputable def C158 : Code := (Tryz.f158.body).getD .skip
def pl158 : Nat → Plan := fun _ => .done
def ls158 : Nat → List (Nat × LT)
  | 17 => [(8, (.one (.int .i64))), (10, (.one (.int .i64)))]
  | _ => []
def W158 (s : ByteArray) (substr : ByteArray) (w : World) (R : Value → World → Prop) : Prop :=
  (ifK ((↑(ByteArray.size substr) : Int) == 0)
(R (int i64 0) (w))
(ifK (ByteArray.toList substr == ByteArray.toList s)
(R (int i64 0) (w))
(ifK ((↑(ByteArray.size substr) : Int) == 1)
(((0 : Int) ≤ 0) ∧ (((0 : Int) < (↑(ByteArray.size substr) : Int)) ∧ (Ca Tryz.prog (159) (Array.mk [string s, int u8 (byteAt substr 0)]) (w) (fun v0 => (fun w1 =>
(∃ x2 : Int, ((v0 = int i64 x2) ∧ (R (int i64 x2) (w1)))))))))
(ifK (decide ((↑(ByteArray.size substr) : Int) ≥ (↑(ByteArray.size s) : Int)))
(R (int i64 (-1)) (w))
(∃ x3 : Int, ((cell? w (Addr.mk 2 0 none) = some (int i64 x3)) ∧ (ifK (decide ((↑(ByteArray.size substr) : Int) ≤ x3))
(ifK (decide ((↑(ByteArray.size s) : Int) ≤ 64))
(Ca Tryz.prog (160) (Array.mk [string s, string substr]) (w) (fun v4 => (fun w5 =>
(∃ x6 : Int, ((v4 = int i64 x6) ∧ (R (int i64 x6) (w5)))))))
(((0 : Int) ≤ 0) ∧ (((0 : Int) < (↑(ByteArray.size substr) : Int)) ∧ (((0 : Int) ≤ 1) ∧ (((1 : Int) < (↑(ByteArray.size substr) : Int)) ∧ (∃ z7 : Int → Int → World → Prop, (∃ z8 : Int → Int → World → Nat, ((z7 (0) (0) (w)) ∧ (∀ (_ : Nat → Value), (∀ (x10 : Int), (∀ (x11 : Int), (∀ (w12 : World), ((z7 (x10) (x11) (w12)) → (ifK (decide (x10 < wrap i64 (wrap i64 ((↑(ByteArray.size s) : Int) - (↑(ByteArray.size substr) : Int)) + 1)))
(((0 : Int) ≤ x10) ∧ (((x10 : Int) < (↑(ByteArray.size s) : Int)) ∧ (ifK (byteAt s (Int.toNat x10) != byteAt substr 0)
(((0 : Int) ≤ wrap i64 (x10 + 1)) ∧ (((wrap i64 (x10 + 1) : Int) ≤ wrap i64 (wrap i64 ((↑(ByteArray.size s) : Int) - (↑(ByteArray.size substr) : Int)) + 1)) ∧ (((wrap i64 (wrap i64 ((↑(ByteArray.size s) : Int) - (↑(ByteArray.size substr) : Int)) + 1) : Int) ≤ (↑(ByteArray.size s) : Int)) ∧ (Ca Tryz.prog (159) (Array.mk [string (ByteArray.extract s (Int.toNat (wrap i64 (x10 + 1))) (Int.toNat (wrap i64 (wrap i64 ((↑(ByteArray.size s) : Int) - (↑(ByteArray.size substr) : Int)) + 1)))), int u8 (byteAt substr 0)]) (w12) (fun v13 => (fun w14 =>
(∃ x15 : Int, ((v13 = int i64 x15) ∧ (ifK (decide (x15 < 0))
(R (int i64 (-1)) (w14))
(((0 : Int) ≤ wrap i64 (wrap i64 (x10 + wrap i64 (x15 + 1)) + 1)) ∧ (((wrap i64 (wrap i64 (x10 + wrap i64 (x15 + 1)) + 1) : Int) < (↑(ByteArray.size s) : Int)) ∧ (ifK (byteAt s (Int.toNat (wrap i64 (wrap i64 (x10 + wrap i64 (x15 + 1)) + 1))) == byteAt substr 1)
(((0 : Int) ≤ wrap i64 (x10 + wrap i64 (x15 + 1))) ∧ (((wrap i64 (x10 + wrap i64 (x15 + 1)) : Int) ≤ wrap i64 (wrap i64 (x10 + wrap i64 (x15 + 1)) + (↑(ByteArray.size substr) : Int))) ∧ (((wrap i64 (wrap i64 (x10 + wrap i64 (x15 + 1)) + (↑(ByteArray.size substr) : Int)) : Int) ≤ (↑(ByteArray.size s) : Int)) ∧ (ifK (ByteArray.toList (ByteArray.extract s (Int.toNat (wrap i64 (x10 + wrap i64 (x15 + 1)))) (Int.toNat (wrap i64 (wrap i64 (x10 + wrap i64 (x15 + 1)) + (↑(ByteArray.size substr) : Int))))) == ByteArray.toList substr)
(R (int i64 (wrap i64 (x10 + wrap i64 (x15 + 1)))) (w14))
(∃ x16 : Int, ((cell? w14 (Addr.mk 2 0 none) = some (int i64 x16)) ∧ (ifK (decide ((↑(ByteArray.size substr) : Int) ≤ x16))
(Ca Tryz.prog (161) (Array.mk [int i64 (wrap i64 (wrap i64 (x10 + wrap i64 (x15 + 1)) + 1))]) (w14) (fun v17 => (fun w18 =>
(∃ x19 : Int, ((v17 = int i64 x19) ∧ (ifK (decide (wrap i64 (x11 + 1) > x19))
(((0 : Int) ≤ wrap i64 (wrap i64 (x10 + wrap i64 (x15 + 1)) + 1)) ∧ (((wrap i64 (wrap i64 (x10 + wrap i64 (x15 + 1)) + 1) : Int) ≤ (↑(ByteArray.size s) : Int)) ∧ ((((↑(ByteArray.size s) : Int) : Int) ≤ (↑(ByteArray.size s) : Int)) ∧ (Ca Tryz.prog (160) (Array.mk [string (ByteArray.extract s (Int.toNat (wrap i64 (wrap i64 (x10 + wrap i64 (x15 + 1)) + 1))) (Int.toNat (↑(ByteArray.size s) : Int))), string substr]) (w18) (fun v20 => (fun w21 =>
(∃ x22 : Int, ((v20 = int i64 x22) ∧ (ifK (decide (x22 ≥ 0))
(R (int i64 (wrap i64 (x22 + wrap i64 (wrap i64 (x10 + wrap i64 (x15 + 1)) + 1)))) (w21))
(R (int i64 (-1)) (w21)))))))))))
(∃ x23 : Int, ((cell? w18 (Addr.mk 2 0 none) = some (int i64 x23)) ∧ (ifK (decide ((↑(ByteArray.size substr) : Int) > x23))
(((0 : Int) ≤ 4) ∧ (ifK (decide (wrap i64 (x11 + 1) ≥ wrap i64 (4 + Int.fdiv (wrap i64 (wrap i64 (x10 + wrap i64 (x15 + 1)) + 1)) (2 ^ 4))))
(ifK (decide (wrap i64 (wrap i64 (x10 + wrap i64 (x15 + 1)) + 1) < wrap i64 (wrap i64 ((↑(ByteArray.size s) : Int) - (↑(ByteArray.size substr) : Int)) + 1)))
(((0 : Int) ≤ wrap i64 (wrap i64 (x10 + wrap i64 (x15 + 1)) + 1)) ∧ (((wrap i64 (wrap i64 (x10 + wrap i64 (x15 + 1)) + 1) : Int) ≤ (↑(ByteArray.size s) : Int)) ∧ ((((↑(ByteArray.size s) : Int) : Int) ≤ (↑(ByteArray.size s) : Int)) ∧ (Ca Tryz.prog (162) (Array.mk [string (ByteArray.extract s (Int.toNat (wrap i64 (wrap i64 (x10 + wrap i64 (x15 + 1)) + 1))) (Int.toNat (↑(ByteArray.size s) : Int))), string substr]) (w18) (fun v24 => (fun w25 =>
(∃ x26 : Int, ((v24 = int i64 x26) ∧ (ifK (decide (x26 < 0))
(R (int i64 (-1)) (w25))
(R (int i64 (wrap i64 (wrap i64 (wrap i64 (x10 + wrap i64 (x15 + 1)) + 1) + x26))) (w25)))))))))))
((z7 (wrap i64 (wrap i64 (x10 + wrap i64 (x15 + 1)) + 1)) (wrap i64 (x11 + 1)) (w18)) ∧ (z8 (wrap i64 (wrap i64 (x10 + wrap i64 (x15 + 1)) + 1)) (wrap i64 (x11 + 1)) w18 < z8 x10 x11 w12)))
((z7 (wrap i64 (wrap i64 (x10 + wrap i64 (x15 + 1)) + 1)) (wrap i64 (x11 + 1)) (w18)) ∧ (z8 (wrap i64 (wrap i64 (x10 + wrap i64 (x15 + 1)) + 1)) (wrap i64 (x11 + 1)) w18 < z8 x10 x11 w12))))
((z7 (wrap i64 (wrap i64 (x10 + wrap i64 (x15 + 1)) + 1)) (wrap i64 (x11 + 1)) (w18)) ∧ (z8 (wrap i64 (wrap i64 (x10 + wrap i64 (x15 + 1)) + 1)) (wrap i64 (x11 + 1)) w18 < z8 x10 x11 w12)))))))))))
(∃ x27 : Int, ((cell? w14 (Addr.mk 2 0 none) = some (int i64 x27)) ∧ (ifK (decide ((↑(ByteArray.size substr) : Int) > x27))
(((0 : Int) ≤ 4) ∧ (ifK (decide (wrap i64 (x11 + 1) ≥ wrap i64 (4 + Int.fdiv (wrap i64 (wrap i64 (x10 + wrap i64 (x15 + 1)) + 1)) (2 ^ 4))))
(ifK (decide (wrap i64 (wrap i64 (x10 + wrap i64 (x15 + 1)) + 1) < wrap i64 (wrap i64 ((↑(ByteArray.size s) : Int) - (↑(ByteArray.size substr) : Int)) + 1)))
(((0 : Int) ≤ wrap i64 (wrap i64 (x10 + wrap i64 (x15 + 1)) + 1)) ∧ (((wrap i64 (wrap i64 (x10 + wrap i64 (x15 + 1)) + 1) : Int) ≤ (↑(ByteArray.size s) : Int)) ∧ ((((↑(ByteArray.size s) : Int) : Int) ≤ (↑(ByteArray.size s) : Int)) ∧ (Ca Tryz.prog (162) (Array.mk [string (ByteArray.extract s (Int.toNat (wrap i64 (wrap i64 (x10 + wrap i64 (x15 + 1)) + 1))) (Int.toNat (↑(ByteArray.size s) : Int))), string substr]) (w14) (fun v28 => (fun w29 =>
(∃ x30 : Int, ((v28 = int i64 x30) ∧ (ifK (decide (x30 < 0))
(R (int i64 (-1)) (w29))
(R (int i64 (wrap i64 (wrap i64 (wrap i64 (x10 + wrap i64 (x15 + 1)) + 1) + x30))) (w29)))))))))))
((z7 (wrap i64 (wrap i64 (x10 + wrap i64 (x15 + 1)) + 1)) (wrap i64 (x11 + 1)) (w14)) ∧ (z8 (wrap i64 (wrap i64 (x10 + wrap i64 (x15 + 1)) + 1)) (wrap i64 (x11 + 1)) w14 < z8 x10 x11 w12)))
((z7 (wrap i64 (wrap i64 (x10 + wrap i64 (x15 + 1)) + 1)) (wrap i64 (x11 + 1)) (w14)) ∧ (z8 (wrap i64 (wrap i64 (x10 + wrap i64 (x15 + 1)) + 1)) (wrap i64 (x11 + 1)) w14 < z8 x10 x11 w12))))
((z7 (wrap i64 (wrap i64 (x10 + wrap i64 (x15 + 1)) + 1)) (wrap i64 (x11 + 1)) (w14)) ∧ (z8 (wrap i64 (wrap i64 (x10 + wrap i64 (x15 + 1)) + 1)) (wrap i64 (x11 + 1)) w14 < z8 x10 x11 w12))))))))))))
(∃ x31 : Int, ((cell? w14 (Addr.mk 2 0 none) = some (int i64 x31)) ∧ (ifK (decide ((↑(ByteArray.size substr) : Int) ≤ x31))
(Ca Tryz.prog (161) (Array.mk [int i64 (wrap i64 (wrap i64 (x10 + wrap i64 (x15 + 1)) + 1))]) (w14) (fun v32 => (fun w33 =>
(∃ x34 : Int, ((v32 = int i64 x34) ∧ (ifK (decide (wrap i64 (x11 + 1) > x34))
(((0 : Int) ≤ wrap i64 (wrap i64 (x10 + wrap i64 (x15 + 1)) + 1)) ∧ (((wrap i64 (wrap i64 (x10 + wrap i64 (x15 + 1)) + 1) : Int) ≤ (↑(ByteArray.size s) : Int)) ∧ ((((↑(ByteArray.size s) : Int) : Int) ≤ (↑(ByteArray.size s) : Int)) ∧ (Ca Tryz.prog (160) (Array.mk [string (ByteArray.extract s (Int.toNat (wrap i64 (wrap i64 (x10 + wrap i64 (x15 + 1)) + 1))) (Int.toNat (↑(ByteArray.size s) : Int))), string substr]) (w33) (fun v35 => (fun w36 =>
(∃ x37 : Int, ((v35 = int i64 x37) ∧ (ifK (decide (x37 ≥ 0))
(R (int i64 (wrap i64 (x37 + wrap i64 (wrap i64 (x10 + wrap i64 (x15 + 1)) + 1)))) (w36))
(R (int i64 (-1)) (w36)))))))))))
(∃ x38 : Int, ((cell? w33 (Addr.mk 2 0 none) = some (int i64 x38)) ∧ (ifK (decide ((↑(ByteArray.size substr) : Int) > x38))
(((0 : Int) ≤ 4) ∧ (ifK (decide (wrap i64 (x11 + 1) ≥ wrap i64 (4 + Int.fdiv (wrap i64 (wrap i64 (x10 + wrap i64 (x15 + 1)) + 1)) (2 ^ 4))))
(ifK (decide (wrap i64 (wrap i64 (x10 + wrap i64 (x15 + 1)) + 1) < wrap i64 (wrap i64 ((↑(ByteArray.size s) : Int) - (↑(ByteArray.size substr) : Int)) + 1)))
(((0 : Int) ≤ wrap i64 (wrap i64 (x10 + wrap i64 (x15 + 1)) + 1)) ∧ (((wrap i64 (wrap i64 (x10 + wrap i64 (x15 + 1)) + 1) : Int) ≤ (↑(ByteArray.size s) : Int)) ∧ ((((↑(ByteArray.size s) : Int) : Int) ≤ (↑(ByteArray.size s) : Int)) ∧ (Ca Tryz.prog (162) (Array.mk [string (ByteArray.extract s (Int.toNat (wrap i64 (wrap i64 (x10 + wrap i64 (x15 + 1)) + 1))) (Int.toNat (↑(ByteArray.size s) : Int))), string substr]) (w33) (fun v39 => (fun w40 =>
(∃ x41 : Int, ((v39 = int i64 x41) ∧ (ifK (decide (x41 < 0))
(R (int i64 (-1)) (w40))
(R (int i64 (wrap i64 (wrap i64 (wrap i64 (x10 + wrap i64 (x15 + 1)) + 1) + x41))) (w40)))))))))))
((z7 (wrap i64 (wrap i64 (x10 + wrap i64 (x15 + 1)) + 1)) (wrap i64 (x11 + 1)) (w33)) ∧ (z8 (wrap i64 (wrap i64 (x10 + wrap i64 (x15 + 1)) + 1)) (wrap i64 (x11 + 1)) w33 < z8 x10 x11 w12)))
((z7 (wrap i64 (wrap i64 (x10 + wrap i64 (x15 + 1)) + 1)) (wrap i64 (x11 + 1)) (w33)) ∧ (z8 (wrap i64 (wrap i64 (x10 + wrap i64 (x15 + 1)) + 1)) (wrap i64 (x11 + 1)) w33 < z8 x10 x11 w12))))
((z7 (wrap i64 (wrap i64 (x10 + wrap i64 (x15 + 1)) + 1)) (wrap i64 (x11 + 1)) (w33)) ∧ (z8 (wrap i64 (wrap i64 (x10 + wrap i64 (x15 + 1)) + 1)) (wrap i64 (x11 + 1)) w33 < z8 x10 x11 w12)))))))))))
(∃ x42 : Int, ((cell? w14 (Addr.mk 2 0 none) = some (int i64 x42)) ∧ (ifK (decide ((↑(ByteArray.size substr) : Int) > x42))
(((0 : Int) ≤ 4) ∧ (ifK (decide (wrap i64 (x11 + 1) ≥ wrap i64 (4 + Int.fdiv (wrap i64 (wrap i64 (x10 + wrap i64 (x15 + 1)) + 1)) (2 ^ 4))))
(ifK (decide (wrap i64 (wrap i64 (x10 + wrap i64 (x15 + 1)) + 1) < wrap i64 (wrap i64 ((↑(ByteArray.size s) : Int) - (↑(ByteArray.size substr) : Int)) + 1)))
(((0 : Int) ≤ wrap i64 (wrap i64 (x10 + wrap i64 (x15 + 1)) + 1)) ∧ (((wrap i64 (wrap i64 (x10 + wrap i64 (x15 + 1)) + 1) : Int) ≤ (↑(ByteArray.size s) : Int)) ∧ ((((↑(ByteArray.size s) : Int) : Int) ≤ (↑(ByteArray.size s) : Int)) ∧ (Ca Tryz.prog (162) (Array.mk [string (ByteArray.extract s (Int.toNat (wrap i64 (wrap i64 (x10 + wrap i64 (x15 + 1)) + 1))) (Int.toNat (↑(ByteArray.size s) : Int))), string substr]) (w14) (fun v43 => (fun w44 =>
(∃ x45 : Int, ((v43 = int i64 x45) ∧ (ifK (decide (x45 < 0))
(R (int i64 (-1)) (w44))
(R (int i64 (wrap i64 (wrap i64 (wrap i64 (x10 + wrap i64 (x15 + 1)) + 1) + x45))) (w44)))))))))))
((z7 (wrap i64 (wrap i64 (x10 + wrap i64 (x15 + 1)) + 1)) (wrap i64 (x11 + 1)) (w14)) ∧ (z8 (wrap i64 (wrap i64 (x10 + wrap i64 (x15 + 1)) + 1)) (wrap i64 (x11 + 1)) w14 < z8 x10 x11 w12)))
((z7 (wrap i64 (wrap i64 (x10 + wrap i64 (x15 + 1)) + 1)) (wrap i64 (x11 + 1)) (w14)) ∧ (z8 (wrap i64 (wrap i64 (x10 + wrap i64 (x15 + 1)) + 1)) (wrap i64 (x11 + 1)) w14 < z8 x10 x11 w12))))
((z7 (wrap i64 (wrap i64 (x10 + wrap i64 (x15 + 1)) + 1)) (wrap i64 (x11 + 1)) (w14)) ∧ (z8 (wrap i64 (wrap i64 (x10 + wrap i64 (x15 + 1)) + 1)) (wrap i64 (x11 + 1)) w14 < z8 x10 x11 w12))))))))))))))))))))
(((0 : Int) ≤ wrap i64 (x10 + 1)) ∧ (((wrap i64 (x10 + 1) : Int) < (↑(ByteArray.size s) : Int)) ∧ (ifK (byteAt s (Int.toNat (wrap i64 (x10 + 1))) == byteAt substr 1)
(((0 : Int) ≤ x10) ∧ (((x10 : Int) ≤ wrap i64 (x10 + (↑(ByteArray.size substr) : Int))) ∧ (((wrap i64 (x10 + (↑(ByteArray.size substr) : Int)) : Int) ≤ (↑(ByteArray.size s) : Int)) ∧ (ifK (ByteArray.toList (ByteArray.extract s (Int.toNat x10) (Int.toNat (wrap i64 (x10 + (↑(ByteArray.size substr) : Int))))) == ByteArray.toList substr)
(R (int i64 x10) (w12))
(∃ x46 : Int, ((cell? w12 (Addr.mk 2 0 none) = some (int i64 x46)) ∧ (ifK (decide ((↑(ByteArray.size substr) : Int) ≤ x46))
(Ca Tryz.prog (161) (Array.mk [int i64 (wrap i64 (x10 + 1))]) (w12) (fun v47 => (fun w48 =>
(∃ x49 : Int, ((v47 = int i64 x49) ∧ (ifK (decide (wrap i64 (x11 + 1) > x49))
(((0 : Int) ≤ wrap i64 (x10 + 1)) ∧ (((wrap i64 (x10 + 1) : Int) ≤ (↑(ByteArray.size s) : Int)) ∧ ((((↑(ByteArray.size s) : Int) : Int) ≤ (↑(ByteArray.size s) : Int)) ∧ (Ca Tryz.prog (160) (Array.mk [string (ByteArray.extract s (Int.toNat (wrap i64 (x10 + 1))) (Int.toNat (↑(ByteArray.size s) : Int))), string substr]) (w48) (fun v50 => (fun w51 =>
(∃ x52 : Int, ((v50 = int i64 x52) ∧ (ifK (decide (x52 ≥ 0))
(R (int i64 (wrap i64 (x52 + wrap i64 (x10 + 1)))) (w51))
(R (int i64 (-1)) (w51)))))))))))
(∃ x53 : Int, ((cell? w48 (Addr.mk 2 0 none) = some (int i64 x53)) ∧ (ifK (decide ((↑(ByteArray.size substr) : Int) > x53))
(((0 : Int) ≤ 4) ∧ (ifK (decide (wrap i64 (x11 + 1) ≥ wrap i64 (4 + Int.fdiv (wrap i64 (x10 + 1)) (2 ^ 4))))
(ifK (decide (wrap i64 (x10 + 1) < wrap i64 (wrap i64 ((↑(ByteArray.size s) : Int) - (↑(ByteArray.size substr) : Int)) + 1)))
(((0 : Int) ≤ wrap i64 (x10 + 1)) ∧ (((wrap i64 (x10 + 1) : Int) ≤ (↑(ByteArray.size s) : Int)) ∧ ((((↑(ByteArray.size s) : Int) : Int) ≤ (↑(ByteArray.size s) : Int)) ∧ (Ca Tryz.prog (162) (Array.mk [string (ByteArray.extract s (Int.toNat (wrap i64 (x10 + 1))) (Int.toNat (↑(ByteArray.size s) : Int))), string substr]) (w48) (fun v54 => (fun w55 =>
(∃ x56 : Int, ((v54 = int i64 x56) ∧ (ifK (decide (x56 < 0))
(R (int i64 (-1)) (w55))
(R (int i64 (wrap i64 (wrap i64 (x10 + 1) + x56))) (w55)))))))))))
((z7 (wrap i64 (x10 + 1)) (wrap i64 (x11 + 1)) (w48)) ∧ (z8 (wrap i64 (x10 + 1)) (wrap i64 (x11 + 1)) w48 < z8 x10 x11 w12)))
((z7 (wrap i64 (x10 + 1)) (wrap i64 (x11 + 1)) (w48)) ∧ (z8 (wrap i64 (x10 + 1)) (wrap i64 (x11 + 1)) w48 < z8 x10 x11 w12))))
((z7 (wrap i64 (x10 + 1)) (wrap i64 (x11 + 1)) (w48)) ∧ (z8 (wrap i64 (x10 + 1)) (wrap i64 (x11 + 1)) w48 < z8 x10 x11 w12)))))))))))
(∃ x57 : Int, ((cell? w12 (Addr.mk 2 0 none) = some (int i64 x57)) ∧ (ifK (decide ((↑(ByteArray.size substr) : Int) > x57))
(((0 : Int) ≤ 4) ∧ (ifK (decide (wrap i64 (x11 + 1) ≥ wrap i64 (4 + Int.fdiv (wrap i64 (x10 + 1)) (2 ^ 4))))
(ifK (decide (wrap i64 (x10 + 1) < wrap i64 (wrap i64 ((↑(ByteArray.size s) : Int) - (↑(ByteArray.size substr) : Int)) + 1)))
(((0 : Int) ≤ wrap i64 (x10 + 1)) ∧ (((wrap i64 (x10 + 1) : Int) ≤ (↑(ByteArray.size s) : Int)) ∧ ((((↑(ByteArray.size s) : Int) : Int) ≤ (↑(ByteArray.size s) : Int)) ∧ (Ca Tryz.prog (162) (Array.mk [string (ByteArray.extract s (Int.toNat (wrap i64 (x10 + 1))) (Int.toNat (↑(ByteArray.size s) : Int))), string substr]) (w12) (fun v58 => (fun w59 =>
(∃ x60 : Int, ((v58 = int i64 x60) ∧ (ifK (decide (x60 < 0))
(R (int i64 (-1)) (w59))
(R (int i64 (wrap i64 (wrap i64 (x10 + 1) + x60))) (w59)))))))))))
((z7 (wrap i64 (x10 + 1)) (wrap i64 (x11 + 1)) (w12)) ∧ (z8 (wrap i64 (x10 + 1)) (wrap i64 (x11 + 1)) w12 < z8 x10 x11 w12)))
((z7 (wrap i64 (x10 + 1)) (wrap i64 (x11 + 1)) (w12)) ∧ (z8 (wrap i64 (x10 + 1)) (wrap i64 (x11 + 1)) w12 < z8 x10 x11 w12))))
((z7 (wrap i64 (x10 + 1)) (wrap i64 (x11 + 1)) (w12)) ∧ (z8 (wrap i64 (x10 + 1)) (wrap i64 (x11 + 1)) w12 < z8 x10 x11 w12))))))))))))
(∃ x61 : Int, ((cell? w12 (Addr.mk 2 0 none) = some (int i64 x61)) ∧ (ifK (decide ((↑(ByteArray.size substr) : Int) ≤ x61))
(Ca Tryz.prog (161) (Array.mk [int i64 (wrap i64 (x10 + 1))]) (w12) (fun v62 => (fun w63 =>
(∃ x64 : Int, ((v62 = int i64 x64) ∧ (ifK (decide (wrap i64 (x11 + 1) > x64))
(((0 : Int) ≤ wrap i64 (x10 + 1)) ∧ (((wrap i64 (x10 + 1) : Int) ≤ (↑(ByteArray.size s) : Int)) ∧ ((((↑(ByteArray.size s) : Int) : Int) ≤ (↑(ByteArray.size s) : Int)) ∧ (Ca Tryz.prog (160) (Array.mk [string (ByteArray.extract s (Int.toNat (wrap i64 (x10 + 1))) (Int.toNat (↑(ByteArray.size s) : Int))), string substr]) (w63) (fun v65 => (fun w66 =>
(∃ x67 : Int, ((v65 = int i64 x67) ∧ (ifK (decide (x67 ≥ 0))
(R (int i64 (wrap i64 (x67 + wrap i64 (x10 + 1)))) (w66))
(R (int i64 (-1)) (w66)))))))))))
(∃ x68 : Int, ((cell? w63 (Addr.mk 2 0 none) = some (int i64 x68)) ∧ (ifK (decide ((↑(ByteArray.size substr) : Int) > x68))
(((0 : Int) ≤ 4) ∧ (ifK (decide (wrap i64 (x11 + 1) ≥ wrap i64 (4 + Int.fdiv (wrap i64 (x10 + 1)) (2 ^ 4))))
(ifK (decide (wrap i64 (x10 + 1) < wrap i64 (wrap i64 ((↑(ByteArray.size s) : Int) - (↑(ByteArray.size substr) : Int)) + 1)))
(((0 : Int) ≤ wrap i64 (x10 + 1)) ∧ (((wrap i64 (x10 + 1) : Int) ≤ (↑(ByteArray.size s) : Int)) ∧ ((((↑(ByteArray.size s) : Int) : Int) ≤ (↑(ByteArray.size s) : Int)) ∧ (Ca Tryz.prog (162) (Array.mk [string (ByteArray.extract s (Int.toNat (wrap i64 (x10 + 1))) (Int.toNat (↑(ByteArray.size s) : Int))), string substr]) (w63) (fun v69 => (fun w70 =>
(∃ x71 : Int, ((v69 = int i64 x71) ∧ (ifK (decide (x71 < 0))
(R (int i64 (-1)) (w70))
(R (int i64 (wrap i64 (wrap i64 (x10 + 1) + x71))) (w70)))))))))))
((z7 (wrap i64 (x10 + 1)) (wrap i64 (x11 + 1)) (w63)) ∧ (z8 (wrap i64 (x10 + 1)) (wrap i64 (x11 + 1)) w63 < z8 x10 x11 w12)))
((z7 (wrap i64 (x10 + 1)) (wrap i64 (x11 + 1)) (w63)) ∧ (z8 (wrap i64 (x10 + 1)) (wrap i64 (x11 + 1)) w63 < z8 x10 x11 w12))))
((z7 (wrap i64 (x10 + 1)) (wrap i64 (x11 + 1)) (w63)) ∧ (z8 (wrap i64 (x10 + 1)) (wrap i64 (x11 + 1)) w63 < z8 x10 x11 w12)))))))))))
(∃ x72 : Int, ((cell? w12 (Addr.mk 2 0 none) = some (int i64 x72)) ∧ (ifK (decide ((↑(ByteArray.size substr) : Int) > x72))
(((0 : Int) ≤ 4) ∧ (ifK (decide (wrap i64 (x11 + 1) ≥ wrap i64 (4 + Int.fdiv (wrap i64 (x10 + 1)) (2 ^ 4))))
(ifK (decide (wrap i64 (x10 + 1) < wrap i64 (wrap i64 ((↑(ByteArray.size s) : Int) - (↑(ByteArray.size substr) : Int)) + 1)))
(((0 : Int) ≤ wrap i64 (x10 + 1)) ∧ (((wrap i64 (x10 + 1) : Int) ≤ (↑(ByteArray.size s) : Int)) ∧ ((((↑(ByteArray.size s) : Int) : Int) ≤ (↑(ByteArray.size s) : Int)) ∧ (Ca Tryz.prog (162) (Array.mk [string (ByteArray.extract s (Int.toNat (wrap i64 (x10 + 1))) (Int.toNat (↑(ByteArray.size s) : Int))), string substr]) (w12) (fun v73 => (fun w74 =>
(∃ x75 : Int, ((v73 = int i64 x75) ∧ (ifK (decide (x75 < 0))
(R (int i64 (-1)) (w74))
(R (int i64 (wrap i64 (wrap i64 (x10 + 1) + x75))) (w74)))))))))))
((z7 (wrap i64 (x10 + 1)) (wrap i64 (x11 + 1)) (w12)) ∧ (z8 (wrap i64 (x10 + 1)) (wrap i64 (x11 + 1)) w12 < z8 x10 x11 w12)))
((z7 (wrap i64 (x10 + 1)) (wrap i64 (x11 + 1)) (w12)) ∧ (z8 (wrap i64 (x10 + 1)) (wrap i64 (x11 + 1)) w12 < z8 x10 x11 w12))))
((z7 (wrap i64 (x10 + 1)) (wrap i64 (x11 + 1)) (w12)) ∧ (z8 (wrap i64 (x10 + 1)) (wrap i64 (x11 + 1)) w12 < z8 x10 x11 w12))))))))))))))
(R (int i64 (-1)) (w12))))))))))))))))
(((0 : Int) ≤ 0) ∧ (((0 : Int) < (↑(ByteArray.size substr) : Int)) ∧ (((0 : Int) ≤ 1) ∧ (((1 : Int) < (↑(ByteArray.size substr) : Int)) ∧ (∃ z76 : Int → Int → World → Prop, (∃ z77 : Int → Int → World → Nat, ((z76 (0) (0) (w)) ∧ (∀ (_ : Nat → Value), (∀ (x79 : Int), (∀ (x80 : Int), (∀ (w81 : World), ((z76 (x79) (x80) (w81)) → (ifK (decide (x79 < wrap i64 (wrap i64 ((↑(ByteArray.size s) : Int) - (↑(ByteArray.size substr) : Int)) + 1)))
(((0 : Int) ≤ x79) ∧ (((x79 : Int) < (↑(ByteArray.size s) : Int)) ∧ (ifK (byteAt s (Int.toNat x79) != byteAt substr 0)
(((0 : Int) ≤ wrap i64 (x79 + 1)) ∧ (((wrap i64 (x79 + 1) : Int) ≤ wrap i64 (wrap i64 ((↑(ByteArray.size s) : Int) - (↑(ByteArray.size substr) : Int)) + 1)) ∧ (((wrap i64 (wrap i64 ((↑(ByteArray.size s) : Int) - (↑(ByteArray.size substr) : Int)) + 1) : Int) ≤ (↑(ByteArray.size s) : Int)) ∧ (Ca Tryz.prog (159) (Array.mk [string (ByteArray.extract s (Int.toNat (wrap i64 (x79 + 1))) (Int.toNat (wrap i64 (wrap i64 ((↑(ByteArray.size s) : Int) - (↑(ByteArray.size substr) : Int)) + 1)))), int u8 (byteAt substr 0)]) (w81) (fun v82 => (fun w83 =>
(∃ x84 : Int, ((v82 = int i64 x84) ∧ (ifK (decide (x84 < 0))
(R (int i64 (-1)) (w83))
(((0 : Int) ≤ wrap i64 (wrap i64 (x79 + wrap i64 (x84 + 1)) + 1)) ∧ (((wrap i64 (wrap i64 (x79 + wrap i64 (x84 + 1)) + 1) : Int) < (↑(ByteArray.size s) : Int)) ∧ (ifK (byteAt s (Int.toNat (wrap i64 (wrap i64 (x79 + wrap i64 (x84 + 1)) + 1))) == byteAt substr 1)
(((0 : Int) ≤ wrap i64 (x79 + wrap i64 (x84 + 1))) ∧ (((wrap i64 (x79 + wrap i64 (x84 + 1)) : Int) ≤ wrap i64 (wrap i64 (x79 + wrap i64 (x84 + 1)) + (↑(ByteArray.size substr) : Int))) ∧ (((wrap i64 (wrap i64 (x79 + wrap i64 (x84 + 1)) + (↑(ByteArray.size substr) : Int)) : Int) ≤ (↑(ByteArray.size s) : Int)) ∧ (ifK (ByteArray.toList (ByteArray.extract s (Int.toNat (wrap i64 (x79 + wrap i64 (x84 + 1)))) (Int.toNat (wrap i64 (wrap i64 (x79 + wrap i64 (x84 + 1)) + (↑(ByteArray.size substr) : Int))))) == ByteArray.toList substr)
(R (int i64 (wrap i64 (x79 + wrap i64 (x84 + 1)))) (w83))
(∃ x85 : Int, ((cell? w83 (Addr.mk 2 0 none) = some (int i64 x85)) ∧ (ifK (decide ((↑(ByteArray.size substr) : Int) ≤ x85))
(Ca Tryz.prog (161) (Array.mk [int i64 (wrap i64 (wrap i64 (x79 + wrap i64 (x84 + 1)) + 1))]) (w83) (fun v86 => (fun w87 =>
(∃ x88 : Int, ((v86 = int i64 x88) ∧ (ifK (decide (wrap i64 (x80 + 1) > x88))
(((0 : Int) ≤ wrap i64 (wrap i64 (x79 + wrap i64 (x84 + 1)) + 1)) ∧ (((wrap i64 (wrap i64 (x79 + wrap i64 (x84 + 1)) + 1) : Int) ≤ (↑(ByteArray.size s) : Int)) ∧ ((((↑(ByteArray.size s) : Int) : Int) ≤ (↑(ByteArray.size s) : Int)) ∧ (Ca Tryz.prog (160) (Array.mk [string (ByteArray.extract s (Int.toNat (wrap i64 (wrap i64 (x79 + wrap i64 (x84 + 1)) + 1))) (Int.toNat (↑(ByteArray.size s) : Int))), string substr]) (w87) (fun v89 => (fun w90 =>
(∃ x91 : Int, ((v89 = int i64 x91) ∧ (ifK (decide (x91 ≥ 0))
(R (int i64 (wrap i64 (x91 + wrap i64 (wrap i64 (x79 + wrap i64 (x84 + 1)) + 1)))) (w90))
(R (int i64 (-1)) (w90)))))))))))
(∃ x92 : Int, ((cell? w87 (Addr.mk 2 0 none) = some (int i64 x92)) ∧ (ifK (decide ((↑(ByteArray.size substr) : Int) > x92))
(((0 : Int) ≤ 4) ∧ (ifK (decide (wrap i64 (x80 + 1) ≥ wrap i64 (4 + Int.fdiv (wrap i64 (wrap i64 (x79 + wrap i64 (x84 + 1)) + 1)) (2 ^ 4))))
(ifK (decide (wrap i64 (wrap i64 (x79 + wrap i64 (x84 + 1)) + 1) < wrap i64 (wrap i64 ((↑(ByteArray.size s) : Int) - (↑(ByteArray.size substr) : Int)) + 1)))
(((0 : Int) ≤ wrap i64 (wrap i64 (x79 + wrap i64 (x84 + 1)) + 1)) ∧ (((wrap i64 (wrap i64 (x79 + wrap i64 (x84 + 1)) + 1) : Int) ≤ (↑(ByteArray.size s) : Int)) ∧ ((((↑(ByteArray.size s) : Int) : Int) ≤ (↑(ByteArray.size s) : Int)) ∧ (Ca Tryz.prog (162) (Array.mk [string (ByteArray.extract s (Int.toNat (wrap i64 (wrap i64 (x79 + wrap i64 (x84 + 1)) + 1))) (Int.toNat (↑(ByteArray.size s) : Int))), string substr]) (w87) (fun v93 => (fun w94 =>
(∃ x95 : Int, ((v93 = int i64 x95) ∧ (ifK (decide (x95 < 0))
(R (int i64 (-1)) (w94))
(R (int i64 (wrap i64 (wrap i64 (wrap i64 (x79 + wrap i64 (x84 + 1)) + 1) + x95))) (w94)))))))))))
((z76 (wrap i64 (wrap i64 (x79 + wrap i64 (x84 + 1)) + 1)) (wrap i64 (x80 + 1)) (w87)) ∧ (z77 (wrap i64 (wrap i64 (x79 + wrap i64 (x84 + 1)) + 1)) (wrap i64 (x80 + 1)) w87 < z77 x79 x80 w81)))
((z76 (wrap i64 (wrap i64 (x79 + wrap i64 (x84 + 1)) + 1)) (wrap i64 (x80 + 1)) (w87)) ∧ (z77 (wrap i64 (wrap i64 (x79 + wrap i64 (x84 + 1)) + 1)) (wrap i64 (x80 + 1)) w87 < z77 x79 x80 w81))))
((z76 (wrap i64 (wrap i64 (x79 + wrap i64 (x84 + 1)) + 1)) (wrap i64 (x80 + 1)) (w87)) ∧ (z77 (wrap i64 (wrap i64 (x79 + wrap i64 (x84 + 1)) + 1)) (wrap i64 (x80 + 1)) w87 < z77 x79 x80 w81)))))))))))
(∃ x96 : Int, ((cell? w83 (Addr.mk 2 0 none) = some (int i64 x96)) ∧ (ifK (decide ((↑(ByteArray.size substr) : Int) > x96))
(((0 : Int) ≤ 4) ∧ (ifK (decide (wrap i64 (x80 + 1) ≥ wrap i64 (4 + Int.fdiv (wrap i64 (wrap i64 (x79 + wrap i64 (x84 + 1)) + 1)) (2 ^ 4))))
(ifK (decide (wrap i64 (wrap i64 (x79 + wrap i64 (x84 + 1)) + 1) < wrap i64 (wrap i64 ((↑(ByteArray.size s) : Int) - (↑(ByteArray.size substr) : Int)) + 1)))
(((0 : Int) ≤ wrap i64 (wrap i64 (x79 + wrap i64 (x84 + 1)) + 1)) ∧ (((wrap i64 (wrap i64 (x79 + wrap i64 (x84 + 1)) + 1) : Int) ≤ (↑(ByteArray.size s) : Int)) ∧ ((((↑(ByteArray.size s) : Int) : Int) ≤ (↑(ByteArray.size s) : Int)) ∧ (Ca Tryz.prog (162) (Array.mk [string (ByteArray.extract s (Int.toNat (wrap i64 (wrap i64 (x79 + wrap i64 (x84 + 1)) + 1))) (Int.toNat (↑(ByteArray.size s) : Int))), string substr]) (w83) (fun v97 => (fun w98 =>
(∃ x99 : Int, ((v97 = int i64 x99) ∧ (ifK (decide (x99 < 0))
(R (int i64 (-1)) (w98))
(R (int i64 (wrap i64 (wrap i64 (wrap i64 (x79 + wrap i64 (x84 + 1)) + 1) + x99))) (w98)))))))))))
((z76 (wrap i64 (wrap i64 (x79 + wrap i64 (x84 + 1)) + 1)) (wrap i64 (x80 + 1)) (w83)) ∧ (z77 (wrap i64 (wrap i64 (x79 + wrap i64 (x84 + 1)) + 1)) (wrap i64 (x80 + 1)) w83 < z77 x79 x80 w81)))
((z76 (wrap i64 (wrap i64 (x79 + wrap i64 (x84 + 1)) + 1)) (wrap i64 (x80 + 1)) (w83)) ∧ (z77 (wrap i64 (wrap i64 (x79 + wrap i64 (x84 + 1)) + 1)) (wrap i64 (x80 + 1)) w83 < z77 x79 x80 w81))))
((z76 (wrap i64 (wrap i64 (x79 + wrap i64 (x84 + 1)) + 1)) (wrap i64 (x80 + 1)) (w83)) ∧ (z77 (wrap i64 (wrap i64 (x79 + wrap i64 (x84 + 1)) + 1)) (wrap i64 (x80 + 1)) w83 < z77 x79 x80 w81))))))))))))
(∃ x100 : Int, ((cell? w83 (Addr.mk 2 0 none) = some (int i64 x100)) ∧ (ifK (decide ((↑(ByteArray.size substr) : Int) ≤ x100))
(Ca Tryz.prog (161) (Array.mk [int i64 (wrap i64 (wrap i64 (x79 + wrap i64 (x84 + 1)) + 1))]) (w83) (fun v101 => (fun w102 =>
(∃ x103 : Int, ((v101 = int i64 x103) ∧ (ifK (decide (wrap i64 (x80 + 1) > x103))
(((0 : Int) ≤ wrap i64 (wrap i64 (x79 + wrap i64 (x84 + 1)) + 1)) ∧ (((wrap i64 (wrap i64 (x79 + wrap i64 (x84 + 1)) + 1) : Int) ≤ (↑(ByteArray.size s) : Int)) ∧ ((((↑(ByteArray.size s) : Int) : Int) ≤ (↑(ByteArray.size s) : Int)) ∧ (Ca Tryz.prog (160) (Array.mk [string (ByteArray.extract s (Int.toNat (wrap i64 (wrap i64 (x79 + wrap i64 (x84 + 1)) + 1))) (Int.toNat (↑(ByteArray.size s) : Int))), string substr]) (w102) (fun v104 => (fun w105 =>
(∃ x106 : Int, ((v104 = int i64 x106) ∧ (ifK (decide (x106 ≥ 0))
(R (int i64 (wrap i64 (x106 + wrap i64 (wrap i64 (x79 + wrap i64 (x84 + 1)) + 1)))) (w105))
(R (int i64 (-1)) (w105)))))))))))
(∃ x107 : Int, ((cell? w102 (Addr.mk 2 0 none) = some (int i64 x107)) ∧ (ifK (decide ((↑(ByteArray.size substr) : Int) > x107))
(((0 : Int) ≤ 4) ∧ (ifK (decide (wrap i64 (x80 + 1) ≥ wrap i64 (4 + Int.fdiv (wrap i64 (wrap i64 (x79 + wrap i64 (x84 + 1)) + 1)) (2 ^ 4))))
(ifK (decide (wrap i64 (wrap i64 (x79 + wrap i64 (x84 + 1)) + 1) < wrap i64 (wrap i64 ((↑(ByteArray.size s) : Int) - (↑(ByteArray.size substr) : Int)) + 1)))
(((0 : Int) ≤ wrap i64 (wrap i64 (x79 + wrap i64 (x84 + 1)) + 1)) ∧ (((wrap i64 (wrap i64 (x79 + wrap i64 (x84 + 1)) + 1) : Int) ≤ (↑(ByteArray.size s) : Int)) ∧ ((((↑(ByteArray.size s) : Int) : Int) ≤ (↑(ByteArray.size s) : Int)) ∧ (Ca Tryz.prog (162) (Array.mk [string (ByteArray.extract s (Int.toNat (wrap i64 (wrap i64 (x79 + wrap i64 (x84 + 1)) + 1))) (Int.toNat (↑(ByteArray.size s) : Int))), string substr]) (w102) (fun v108 => (fun w109 =>
(∃ x110 : Int, ((v108 = int i64 x110) ∧ (ifK (decide (x110 < 0))
(R (int i64 (-1)) (w109))
(R (int i64 (wrap i64 (wrap i64 (wrap i64 (x79 + wrap i64 (x84 + 1)) + 1) + x110))) (w109)))))))))))
((z76 (wrap i64 (wrap i64 (x79 + wrap i64 (x84 + 1)) + 1)) (wrap i64 (x80 + 1)) (w102)) ∧ (z77 (wrap i64 (wrap i64 (x79 + wrap i64 (x84 + 1)) + 1)) (wrap i64 (x80 + 1)) w102 < z77 x79 x80 w81)))
((z76 (wrap i64 (wrap i64 (x79 + wrap i64 (x84 + 1)) + 1)) (wrap i64 (x80 + 1)) (w102)) ∧ (z77 (wrap i64 (wrap i64 (x79 + wrap i64 (x84 + 1)) + 1)) (wrap i64 (x80 + 1)) w102 < z77 x79 x80 w81))))
((z76 (wrap i64 (wrap i64 (x79 + wrap i64 (x84 + 1)) + 1)) (wrap i64 (x80 + 1)) (w102)) ∧ (z77 (wrap i64 (wrap i64 (x79 + wrap i64 (x84 + 1)) + 1)) (wrap i64 (x80 + 1)) w102 < z77 x79 x80 w81)))))))))))
(∃ x111 : Int, ((cell? w83 (Addr.mk 2 0 none) = some (int i64 x111)) ∧ (ifK (decide ((↑(ByteArray.size substr) : Int) > x111))
(((0 : Int) ≤ 4) ∧ (ifK (decide (wrap i64 (x80 + 1) ≥ wrap i64 (4 + Int.fdiv (wrap i64 (wrap i64 (x79 + wrap i64 (x84 + 1)) + 1)) (2 ^ 4))))
(ifK (decide (wrap i64 (wrap i64 (x79 + wrap i64 (x84 + 1)) + 1) < wrap i64 (wrap i64 ((↑(ByteArray.size s) : Int) - (↑(ByteArray.size substr) : Int)) + 1)))
(((0 : Int) ≤ wrap i64 (wrap i64 (x79 + wrap i64 (x84 + 1)) + 1)) ∧ (((wrap i64 (wrap i64 (x79 + wrap i64 (x84 + 1)) + 1) : Int) ≤ (↑(ByteArray.size s) : Int)) ∧ ((((↑(ByteArray.size s) : Int) : Int) ≤ (↑(ByteArray.size s) : Int)) ∧ (Ca Tryz.prog (162) (Array.mk [string (ByteArray.extract s (Int.toNat (wrap i64 (wrap i64 (x79 + wrap i64 (x84 + 1)) + 1))) (Int.toNat (↑(ByteArray.size s) : Int))), string substr]) (w83) (fun v112 => (fun w113 =>
(∃ x114 : Int, ((v112 = int i64 x114) ∧ (ifK (decide (x114 < 0))
(R (int i64 (-1)) (w113))
(R (int i64 (wrap i64 (wrap i64 (wrap i64 (x79 + wrap i64 (x84 + 1)) + 1) + x114))) (w113)))))))))))
((z76 (wrap i64 (wrap i64 (x79 + wrap i64 (x84 + 1)) + 1)) (wrap i64 (x80 + 1)) (w83)) ∧ (z77 (wrap i64 (wrap i64 (x79 + wrap i64 (x84 + 1)) + 1)) (wrap i64 (x80 + 1)) w83 < z77 x79 x80 w81)))
((z76 (wrap i64 (wrap i64 (x79 + wrap i64 (x84 + 1)) + 1)) (wrap i64 (x80 + 1)) (w83)) ∧ (z77 (wrap i64 (wrap i64 (x79 + wrap i64 (x84 + 1)) + 1)) (wrap i64 (x80 + 1)) w83 < z77 x79 x80 w81))))
((z76 (wrap i64 (wrap i64 (x79 + wrap i64 (x84 + 1)) + 1)) (wrap i64 (x80 + 1)) (w83)) ∧ (z77 (wrap i64 (wrap i64 (x79 + wrap i64 (x84 + 1)) + 1)) (wrap i64 (x80 + 1)) w83 < z77 x79 x80 w81))))))))))))))))))))
(((0 : Int) ≤ wrap i64 (x79 + 1)) ∧ (((wrap i64 (x79 + 1) : Int) < (↑(ByteArray.size s) : Int)) ∧ (ifK (byteAt s (Int.toNat (wrap i64 (x79 + 1))) == byteAt substr 1)
(((0 : Int) ≤ x79) ∧ (((x79 : Int) ≤ wrap i64 (x79 + (↑(ByteArray.size substr) : Int))) ∧ (((wrap i64 (x79 + (↑(ByteArray.size substr) : Int)) : Int) ≤ (↑(ByteArray.size s) : Int)) ∧ (ifK (ByteArray.toList (ByteArray.extract s (Int.toNat x79) (Int.toNat (wrap i64 (x79 + (↑(ByteArray.size substr) : Int))))) == ByteArray.toList substr)
(R (int i64 x79) (w81))
(∃ x115 : Int, ((cell? w81 (Addr.mk 2 0 none) = some (int i64 x115)) ∧ (ifK (decide ((↑(ByteArray.size substr) : Int) ≤ x115))
(Ca Tryz.prog (161) (Array.mk [int i64 (wrap i64 (x79 + 1))]) (w81) (fun v116 => (fun w117 =>
(∃ x118 : Int, ((v116 = int i64 x118) ∧ (ifK (decide (wrap i64 (x80 + 1) > x118))
(((0 : Int) ≤ wrap i64 (x79 + 1)) ∧ (((wrap i64 (x79 + 1) : Int) ≤ (↑(ByteArray.size s) : Int)) ∧ ((((↑(ByteArray.size s) : Int) : Int) ≤ (↑(ByteArray.size s) : Int)) ∧ (Ca Tryz.prog (160) (Array.mk [string (ByteArray.extract s (Int.toNat (wrap i64 (x79 + 1))) (Int.toNat (↑(ByteArray.size s) : Int))), string substr]) (w117) (fun v119 => (fun w120 =>
(∃ x121 : Int, ((v119 = int i64 x121) ∧ (ifK (decide (x121 ≥ 0))
(R (int i64 (wrap i64 (x121 + wrap i64 (x79 + 1)))) (w120))
(R (int i64 (-1)) (w120)))))))))))
(∃ x122 : Int, ((cell? w117 (Addr.mk 2 0 none) = some (int i64 x122)) ∧ (ifK (decide ((↑(ByteArray.size substr) : Int) > x122))
(((0 : Int) ≤ 4) ∧ (ifK (decide (wrap i64 (x80 + 1) ≥ wrap i64 (4 + Int.fdiv (wrap i64 (x79 + 1)) (2 ^ 4))))
(ifK (decide (wrap i64 (x79 + 1) < wrap i64 (wrap i64 ((↑(ByteArray.size s) : Int) - (↑(ByteArray.size substr) : Int)) + 1)))
(((0 : Int) ≤ wrap i64 (x79 + 1)) ∧ (((wrap i64 (x79 + 1) : Int) ≤ (↑(ByteArray.size s) : Int)) ∧ ((((↑(ByteArray.size s) : Int) : Int) ≤ (↑(ByteArray.size s) : Int)) ∧ (Ca Tryz.prog (162) (Array.mk [string (ByteArray.extract s (Int.toNat (wrap i64 (x79 + 1))) (Int.toNat (↑(ByteArray.size s) : Int))), string substr]) (w117) (fun v123 => (fun w124 =>
(∃ x125 : Int, ((v123 = int i64 x125) ∧ (ifK (decide (x125 < 0))
(R (int i64 (-1)) (w124))
(R (int i64 (wrap i64 (wrap i64 (x79 + 1) + x125))) (w124)))))))))))
((z76 (wrap i64 (x79 + 1)) (wrap i64 (x80 + 1)) (w117)) ∧ (z77 (wrap i64 (x79 + 1)) (wrap i64 (x80 + 1)) w117 < z77 x79 x80 w81)))
((z76 (wrap i64 (x79 + 1)) (wrap i64 (x80 + 1)) (w117)) ∧ (z77 (wrap i64 (x79 + 1)) (wrap i64 (x80 + 1)) w117 < z77 x79 x80 w81))))
((z76 (wrap i64 (x79 + 1)) (wrap i64 (x80 + 1)) (w117)) ∧ (z77 (wrap i64 (x79 + 1)) (wrap i64 (x80 + 1)) w117 < z77 x79 x80 w81)))))))))))
(∃ x126 : Int, ((cell? w81 (Addr.mk 2 0 none) = some (int i64 x126)) ∧ (ifK (decide ((↑(ByteArray.size substr) : Int) > x126))
(((0 : Int) ≤ 4) ∧ (ifK (decide (wrap i64 (x80 + 1) ≥ wrap i64 (4 + Int.fdiv (wrap i64 (x79 + 1)) (2 ^ 4))))
(ifK (decide (wrap i64 (x79 + 1) < wrap i64 (wrap i64 ((↑(ByteArray.size s) : Int) - (↑(ByteArray.size substr) : Int)) + 1)))
(((0 : Int) ≤ wrap i64 (x79 + 1)) ∧ (((wrap i64 (x79 + 1) : Int) ≤ (↑(ByteArray.size s) : Int)) ∧ ((((↑(ByteArray.size s) : Int) : Int) ≤ (↑(ByteArray.size s) : Int)) ∧ (Ca Tryz.prog (162) (Array.mk [string (ByteArray.extract s (Int.toNat (wrap i64 (x79 + 1))) (Int.toNat (↑(ByteArray.size s) : Int))), string substr]) (w81) (fun v127 => (fun w128 =>
(∃ x129 : Int, ((v127 = int i64 x129) ∧ (ifK (decide (x129 < 0))
(R (int i64 (-1)) (w128))
(R (int i64 (wrap i64 (wrap i64 (x79 + 1) + x129))) (w128)))))))))))
((z76 (wrap i64 (x79 + 1)) (wrap i64 (x80 + 1)) (w81)) ∧ (z77 (wrap i64 (x79 + 1)) (wrap i64 (x80 + 1)) w81 < z77 x79 x80 w81)))
((z76 (wrap i64 (x79 + 1)) (wrap i64 (x80 + 1)) (w81)) ∧ (z77 (wrap i64 (x79 + 1)) (wrap i64 (x80 + 1)) w81 < z77 x79 x80 w81))))
((z76 (wrap i64 (x79 + 1)) (wrap i64 (x80 + 1)) (w81)) ∧ (z77 (wrap i64 (x79 + 1)) (wrap i64 (x80 + 1)) w81 < z77 x79 x80 w81))))))))))))
(∃ x130 : Int, ((cell? w81 (Addr.mk 2 0 none) = some (int i64 x130)) ∧ (ifK (decide ((↑(ByteArray.size substr) : Int) ≤ x130))
(Ca Tryz.prog (161) (Array.mk [int i64 (wrap i64 (x79 + 1))]) (w81) (fun v131 => (fun w132 =>
(∃ x133 : Int, ((v131 = int i64 x133) ∧ (ifK (decide (wrap i64 (x80 + 1) > x133))
(((0 : Int) ≤ wrap i64 (x79 + 1)) ∧ (((wrap i64 (x79 + 1) : Int) ≤ (↑(ByteArray.size s) : Int)) ∧ ((((↑(ByteArray.size s) : Int) : Int) ≤ (↑(ByteArray.size s) : Int)) ∧ (Ca Tryz.prog (160) (Array.mk [string (ByteArray.extract s (Int.toNat (wrap i64 (x79 + 1))) (Int.toNat (↑(ByteArray.size s) : Int))), string substr]) (w132) (fun v134 => (fun w135 =>
(∃ x136 : Int, ((v134 = int i64 x136) ∧ (ifK (decide (x136 ≥ 0))
(R (int i64 (wrap i64 (x136 + wrap i64 (x79 + 1)))) (w135))
(R (int i64 (-1)) (w135)))))))))))
(∃ x137 : Int, ((cell? w132 (Addr.mk 2 0 none) = some (int i64 x137)) ∧ (ifK (decide ((↑(ByteArray.size substr) : Int) > x137))
(((0 : Int) ≤ 4) ∧ (ifK (decide (wrap i64 (x80 + 1) ≥ wrap i64 (4 + Int.fdiv (wrap i64 (x79 + 1)) (2 ^ 4))))
(ifK (decide (wrap i64 (x79 + 1) < wrap i64 (wrap i64 ((↑(ByteArray.size s) : Int) - (↑(ByteArray.size substr) : Int)) + 1)))
(((0 : Int) ≤ wrap i64 (x79 + 1)) ∧ (((wrap i64 (x79 + 1) : Int) ≤ (↑(ByteArray.size s) : Int)) ∧ ((((↑(ByteArray.size s) : Int) : Int) ≤ (↑(ByteArray.size s) : Int)) ∧ (Ca Tryz.prog (162) (Array.mk [string (ByteArray.extract s (Int.toNat (wrap i64 (x79 + 1))) (Int.toNat (↑(ByteArray.size s) : Int))), string substr]) (w132) (fun v138 => (fun w139 =>
(∃ x140 : Int, ((v138 = int i64 x140) ∧ (ifK (decide (x140 < 0))
(R (int i64 (-1)) (w139))
(R (int i64 (wrap i64 (wrap i64 (x79 + 1) + x140))) (w139)))))))))))
((z76 (wrap i64 (x79 + 1)) (wrap i64 (x80 + 1)) (w132)) ∧ (z77 (wrap i64 (x79 + 1)) (wrap i64 (x80 + 1)) w132 < z77 x79 x80 w81)))
((z76 (wrap i64 (x79 + 1)) (wrap i64 (x80 + 1)) (w132)) ∧ (z77 (wrap i64 (x79 + 1)) (wrap i64 (x80 + 1)) w132 < z77 x79 x80 w81))))
((z76 (wrap i64 (x79 + 1)) (wrap i64 (x80 + 1)) (w132)) ∧ (z77 (wrap i64 (x79 + 1)) (wrap i64 (x80 + 1)) w132 < z77 x79 x80 w81)))))))))))
(∃ x141 : Int, ((cell? w81 (Addr.mk 2 0 none) = some (int i64 x141)) ∧ (ifK (decide ((↑(ByteArray.size substr) : Int) > x141))
(((0 : Int) ≤ 4) ∧ (ifK (decide (wrap i64 (x80 + 1) ≥ wrap i64 (4 + Int.fdiv (wrap i64 (x79 + 1)) (2 ^ 4))))
(ifK (decide (wrap i64 (x79 + 1) < wrap i64 (wrap i64 ((↑(ByteArray.size s) : Int) - (↑(ByteArray.size substr) : Int)) + 1)))
(((0 : Int) ≤ wrap i64 (x79 + 1)) ∧ (((wrap i64 (x79 + 1) : Int) ≤ (↑(ByteArray.size s) : Int)) ∧ ((((↑(ByteArray.size s) : Int) : Int) ≤ (↑(ByteArray.size s) : Int)) ∧ (Ca Tryz.prog (162) (Array.mk [string (ByteArray.extract s (Int.toNat (wrap i64 (x79 + 1))) (Int.toNat (↑(ByteArray.size s) : Int))), string substr]) (w81) (fun v142 => (fun w143 =>
(∃ x144 : Int, ((v142 = int i64 x144) ∧ (ifK (decide (x144 < 0))
(R (int i64 (-1)) (w143))
(R (int i64 (wrap i64 (wrap i64 (x79 + 1) + x144))) (w143)))))))))))
((z76 (wrap i64 (x79 + 1)) (wrap i64 (x80 + 1)) (w81)) ∧ (z77 (wrap i64 (x79 + 1)) (wrap i64 (x80 + 1)) w81 < z77 x79 x80 w81)))
((z76 (wrap i64 (x79 + 1)) (wrap i64 (x80 + 1)) (w81)) ∧ (z77 (wrap i64 (x79 + 1)) (wrap i64 (x80 + 1)) w81 < z77 x79 x80 w81))))
((z76 (wrap i64 (x79 + 1)) (wrap i64 (x80 + 1)) (w81)) ∧ (z77 (wrap i64 (x79 + 1)) (wrap i64 (x80 + 1)) w81 < z77 x79 x80 w81))))))))))))))
(R (int i64 (-1)) (w81))))))))))))))))))))))
theorem ca158 (s : ByteArray) (substr : ByteArray) (w : World) (R : Value → World → Prop) (h : W158 s substr w R) : Ca Tryz.prog 158 ⟨[(.string s), (.string substr)]⟩ w R :=
  caB (fn := Tryz.f158) (pl := pl158) (ls := ls158) Tryz.func158 (by kernel_rfl) (by kernel_rfl) h

/-- internal/stringslite.IndexByte -/
noncomputable def C159 : Code := (Tryz.f159.body).getD .skip
def pl159 : Nat → Plan := fun _ => .done
def ls159 : Nat → List (Nat × LT) := fun _ => []
def W159 (s : ByteArray) (c : Int) (w : World) (R : Value → World → Prop) : Prop :=
  (Ca Tryz.prog (163) (Array.mk [string s, int u8 c]) (w) (fun v0 => (fun w1 =>
(∃ x2 : Int, ((v0 = int i64 x2) ∧ (R (int i64 x2) (w1)))))))
theorem ca159 (s : ByteArray) (c : Int) (w : World) (R : Value → World → Prop) (h : W159 s c w R) : Ca Tryz.prog 159 ⟨[(.string s), (.int .u8 c)]⟩ w R :=
  caB (fn := Tryz.f159) (pl := pl159) (ls := ls159) Tryz.func159 (by kernel_rfl) (by kernel_rfl) h
end Go.Proofs.YtehhhkcemmfjpaaGreatDoor

/- The library's stringslite.IndexByte, Index, at a separator of one byte. -/
namespace Go.Proofs.YtehhhkcemmfjpaaGreatDoor
open Go Go.RowKit Go.Proofs.YtehhhkcemmfjpaaGreatDoor.St

set_option maxRecDepth 100000 in
set_option maxHeartbeats 2000000 in
theorem indexByte_calls (s : ByteArray) (c : Int) (w : World) :
    Calls Tryz.prog 159 #[.string s, .int .u8 c] w fun e w' => e = .returned (.int .i64 (Lib.indexByte s.data.toList c.toNat.toUInt8)) ∧ w' = w := by
  have mixed : Tryz.prog.follows .mixedOrders = true := by kernel_rfl
  go_enter Tryz.func159, Tryz.ntmps159
  go_wp2
  rw [run_callFunc_extern Tryz.func163 (by kernel_rfl) (by kernel_rfl) (by kernel_rfl) (e := Extern.BytealgIndexByte.indexByte) (by kernel_rfl), Lib.run_indexByteString]
  simp only [Result.andThen]
  rw [Oper.upon_value]
  go_wp2
  go_ret
  exact ⟨rfl, rfl⟩
theorem indexByte_ok (s : ByteArray) (c : Int) (w : World) (R : Value → World → Prop) (h : R (.int .i64 (Lib.indexByte s.data.toList c.toNat.toUInt8)) w) : Ca Tryz.prog 159 #[.string s, .int .u8 c] w R :=
  ⟨fun w => callFunc_run (c := C159) Tryz.func159 (by kernel_rfl) (by kernel_rfl) _ w, (indexByte_calls s c w).mono fun e w' ⟨h1, h2⟩ => by subst h2; exact ⟨_, h1, h⟩⟩
def dot : ByteArray := ByteArray.mk #[46]
theorem index_ok (s : ByteArray) (w : World) (R : Value → World → Prop) (h : R (.int .i64 (Lib.indexByte s.data.toList 46)) w) : Ca Tryz.prog 156 #[.string s, .string dot] w R := by
  refine ca156 s dot w R ?_
  refine ca158 s dot w _ ?_
  refine ifK_of (fun h0 => by cases h0) fun _ => ifK_of (fun he => ?_) fun _ => ifK_of (fun _ => ⟨by decide, by decide, indexByte_ok _ _ _ _ ⟨_, rfl, _, rfl, h⟩⟩) fun h0 => by cases h0
  have : s = dot := (ba_toList _ _ (eq_of_beq he)).symm
  subst this
  exact ⟨_, rfl, h⟩
end Go.Proofs.YtehhhkcemmfjpaaGreatDoor

/- The program's Words: what lies between the dots. -/
namespace Go.Proofs.YtehhhkcemmfjpaaGreatDoor
open Go Go.Proofs.YtehhhkcemmfjpaaGreatDoor Go.Proofs.YtehhhkcemmfjpaaGreatDoor.St

def splitD : List UInt8 → List (List UInt8)
  | [] => [[]]
  | c :: r => if c = 46 then [] :: splitD r else match splitD r with | [] => [[c]] | x :: xs => (c :: x) :: xs
theorem splitD_ne : ∀ l, splitD l ≠ []
  | [] => by simp [splitD]
  | c :: r => by
    simp only [splitD]
    split
    · simp
    · split <;> simp
theorem splitD_len : ∀ l, (splitD l).length ≤ l.length + 1
  | [] => by simp [splitD]
  | c :: r => by
    have := splitD_len r
    simp only [splitD]
    split
    · simp; omega
    · split
      · simp
      · rename_i x xs h
        rw [h] at this
        simp at this ⊢
        omega
theorem index_cases : ∀ l : List UInt8, (Lib.indexByte l 46 = -1 ∧ splitD l = [l]) ∨ ∃ i : Nat, Lib.indexByte l 46 = i ∧ i < l.length ∧ splitD l = l.take i :: splitD (l.drop (i + 1))
  | [] => .inl ⟨rfl, rfl⟩
  | c :: r => by
    by_cases hc : c = 46
    · subst hc
      exact .inr ⟨0, rfl, by simp, by simp [splitD]⟩
    · have hb : (c == 46) = false := beq_false_of_ne hc
      rcases index_cases r with ⟨h1, h2⟩ | ⟨i, h1, h2, h3⟩
      · refine .inl ⟨by simp [Lib.indexByte, hb, h1], by simp [splitD, hc, h2]⟩
      · refine .inr ⟨i + 1, ?_, by simpa using h2, by simp [splitD, hc, h3]⟩
        have : ¬ ((i : Int) = -1) := by omega
        simp [Lib.indexByte, hb, h1, this]
def bs (l : List UInt8) : ByteArray := ⟨l.toArray⟩
theorem bs_data (s : ByteArray) : bs s.data.toList = s := rfl
theorem bs_size (l : List UInt8) : (bs l).size = l.length := rfl
theorem bs_list (l : List UInt8) : (bs l).data.toList = l := rfl
/-- The words of a text. -/
def wordsOf (s : ByteArray) : List ByteArray := if s.size = 0 then [] else (splitD s.data.toList).map bs
theorem bs_extract (l : List UInt8) (i j : Nat) : (bs l).extract i j = bs ((l.drop i).take (j - i)) := by
  apply ByteArray.ext
  rw [ByteArray.data_extract]
  apply Array.ext'
  simp [bs, List.extract_eq_take_drop]

set_option maxRecDepth 100000 in
theorem words_ok (s : ByteArray) (w : World) (hs : s.size < 1000000000) (R : Value → World → Prop)
    (h : ∀ w' a l c, Els Value.string 9 w' a l c (wordsOf s) → Mod no w w' → (∀ k, rowB a k → w.heap.size ≤ k) → R (.slice a l c) w') : Ca Tryz.prog 105 #[.string s] w R := by
  refine ca105 s w R (ifK_of (fun he => ?_) fun hne => ?_)
  · have : s.size = 0 := by
      have : s = ByteArray.mk #[] := ba_toList _ _ (eq_of_beq he)
      rw [this]; rfl
    exact h w none 0 0 (by rw [wordsOf, if_pos this]; exact Els.nil _ _) (Mod.refl _ _) fun k hk => by cases hk
  have hpos : s.size ≠ 0 := fun h0 => by
    have : s = ByteArray.mk #[] := ByteArray.ext (Array.eq_empty_of_size_eq_zero h0)
    rw [this] at hne
    simp at hne
  intro w0 e0
  have n0 : Mod no w w0 := by subst e0; exact Mod.alloc _ _
  have b0 : w0.heap[w.heap.size]? = some (.cells #[.slice none 0 0] 55 (0, 0)) := by subst e0; exact new_at _ _
  have s0 : w0.heap.size = w.heap.size + 1 := by subst e0; simp
  clear e0
  refine ca137 s dot w0 _ ?_
  refine ca150 s dot 0 w0 _ ?_
  intro u0 e0
  have p0 : Mod no w0 u0 := by subst e0; exact Mod.alloc _ _
  have c0 : u0.heap[w0.heap.size]? = some (.cells #[.string s] 9 (0, 0)) := by subst e0; exact new_at _ _
  have z0 : u0.heap.size = w0.heap.size + 1 := by subst e0; simp
  clear e0
  intro u1 e1
  have p1 : Mod no u0 u1 := by subst e1; exact Mod.alloc _ _
  have c1 : u1.heap[u0.heap.size]? = some (.cells #[.string dot] 9 (0, 0)) := by subst e1; exact new_at _ _
  have z1 : u1.heap.size = u0.heap.size + 1 := by subst e1; simp
  clear e1
  intro w2 e2
  have p2 : Mod no u1 w2 := by subst e2; exact Mod.alloc _ _
  have c2 : w2.heap[u1.heap.size]? = some (.cells #[.int .i64 0] 3 (0, 0)) := by subst e2; exact new_at _ _
  have z2 : w2.heap.size = u1.heap.size + 1 := by subst e2; simp
  clear e2
  have c1 := p2.at' c1
  have c0 := p2.at' (p1.at' c0)
  have n02 := (p0.trans p1).trans p2
  have b2 := n02.at' b0
  have n2 := n0.trans n02
  refine ⟨_, rfl, _, rfl, ⟨_, _, _, rfl⟩, ?_⟩
  intro Rdy Bsy hrs hbs hrb w3 m3 s3 hr3 hy
  -- what has been gathered, and what is left
  let Inv : List ByteArray → List UInt8 → World → Prop := fun pre rest w' => Rdy w' ∧ w'.heap[w0.heap.size]? = some (.cells #[.string (bs rest)] 9 (0, 0)) ∧ w'.heap[u0.heap.size]? = some (.cells #[.string dot] 9 (0, 0)) ∧
    w'.heap[u1.heap.size]? = some (.cells #[.int .i64 0] 3 (0, 0)) ∧ Mod no w w' ∧ w2.heap.size + 2 ≤ w'.heap.size ∧
    ∃ a l c, w'.heap[w.heap.size]? = some (.cells #[.slice a l c] 55 (0, 0)) ∧ Els Value.string 9 w' a l c pre ∧ ∀ k, rowB a k → w2.heap.size + 2 ≤ k
  have yield1 : ∀ (pre : List ByteArray) (rest : List UInt8) (x : ByteArray) (w5 : World) (K : World → Prop), Inv pre rest w5 → pre.length < 1000000001 → (∀ w6, Inv (pre ++ [x]) rest w6 → K w6) →
      CaV Tryz.prog (.func (.yield (w2.heap.size + 1)) #[] #[]) #[.string x] w5 fun v w6 => v = .bool true ∧ K w6 := by
    rintro pre rest x w5 K ⟨hr, i0, i1, i2, im, isz, a, l, c, ib, ie, ia⟩ hpl hK
    refine hy (.string x) w5 K hr ⟨hr, fun w6 hbz m6 s6 => ?_⟩
    have q : ∀ k, k < w2.heap.size → ¬ k = w2.heap.size + 1 := fun k hk => by omega
    have b6 := m6.at ib (q _ (by omega))
    have e6 : Els Value.string 9 w6 a l c pre := ie.mod m6 fun k hk hS => by have := ia k hk; omega
    have hl6 := e6.len.1
    refine ⟨a, l, c, by rw [cl b6]; rfl, ?_⟩
    intro w10 e10
    have m10 : Mod no w6 w10 := by subst e10; exact Mod.alloc _ _
    have b10 : w10.heap[w6.heap.size]? = some (.cells #[.string x] 9 (0, 0)) := by subst e10; exact new_at _ _
    clear e10
    obtain ⟨a', c', w12, hrun, e12, m12, hnew⟩ := Els.push1 (P := Tryz.prog) (t := 55) (ty := 55) (fun _ => rfl) (by kernel_rfl) (e6.no m10) b10 (by omega)
    have hbox : ¬ rowB a w.heap.size := fun hk => by have := ia _ hk; omega
    have b12 := m12.at (m10.at' b6) hbox
    refine ⟨_, w12, hrun, _, _, _, rfl, ⟨_, by rw [cl1 b12]; rfl⟩, fz1 b12 _, ?_⟩
    intro w17 e17
    have m17 : Mod (on w.heap.size) w12 w17 := by subst e17; exact Mod.set1 _ _ _ _
    have b17 : w17.heap[w.heap.size]? = some (.cells #[.slice a' (l + 1) c'] 55 (0, 0)) := by subst e17; rw [set1 b12]; rfl
    clear e17
    have hs6 : w2.heap.size + 2 ≤ w6.heap.size := by omega
    have hs10 := m10.size
    have hnew' : ∀ k, rowB a' k → w2.heap.size + 2 ≤ k := fun k hk => (hnew k hk).elim (ia k) (fun h => by omega)
    have e17 : Els Value.string 9 w17 a' (l + 1) c' (pre ++ [x]) := e12.mod m17 fun k hk e => by cases e; have := hnew' _ hk; omega
    have mA : Mod (fun k => rowB a k ∨ k = w.heap.size) w6 w17 := (m10.no_trans (m12.mono fun k _ hk => .inl hk)).trans' m17 fun k _ hk => .inr hk
    obtain ⟨h1, r, h2⟩ := hrb w6 (.inr hbz)
    have k1 : ¬ (rowB a w2.heap.size ∨ w2.heap.size = w.heap.size) := fun h => h.elim (fun h => by have := ia _ h; omega) (by omega)
    have k2 : ¬ (rowB a (w2.heap.size + 1) ∨ w2.heap.size + 1 = w.heap.size) := fun h => h.elim (fun h => by have := ia _ h; omega) (by omega)
    refine ⟨hbs w6 w17 hbz (by rw [mA.at h1 k1, h1]) (by rw [mA.at h2 k2, h2]), fun w7 hr7 m7 s7 => hK w7 ?_⟩
    have mB : Mod (fun k => k = w2.heap.size + 1 ∨ (rowB a k ∨ k = w.heap.size)) w5 w7 := ((m6.mono fun k _ hk => .inl hk).trans' mA fun k _ hk => .inr hk).trans' m7 fun k _ hk => .inl hk
    have keep : ∀ k o, w5.heap[k]? = some o → w.heap.size < k → k < w2.heap.size → w7.heap[k]? = some o := fun k o ho hk1 hk2 => mB.at ho fun hS => by
      rcases hS with h | h | h
      · omega
      · have := ia _ h; omega
      · omega
    refine ⟨hr7, keep _ _ i0 (by omega) (by omega), keep _ _ i1 (by omega) (by omega), keep _ _ i2 (by omega) (by omega), ?_, Nat.le_trans isz mB.size, a', l + 1, c', m7.at b17 (q _ (by omega)), e17.mod m7 fun k hk hS => by have := hnew' k hk; omega, hnew'⟩
    refine im.new mB fun k hS => ?_
    rcases hS with h | h | h
    · omega
    · have := ia _ h; omega
    · omega
  have done : ∀ (w5 : World), Inv (wordsOf s) [] w5 ∨ (∃ rest, Inv (wordsOf s) rest w5) → Rdy w5 ∧ ∀ w6, Mod (fun k => k = w2.heap.size ∨ k = w2.heap.size + 1) w5 w6 → w6.heap.size = w5.heap.size → w6.heap[w2.heap.size]? = some (.deferred (some [])) →
      ∃ p22 n23 n24, w6.cell? ⟨w.heap.size, 0, none⟩ = some (.slice p22 n23 n24) ∧ w6.heap[w2.heap.size]? = some (.deferred (some [])) ∧ atW (w6.putObj w2.heap.size (.deferred none)) fun w25 => R (.slice p22 n23 n24) w25 := by
    intro w5 hI
    obtain ⟨rest, hr, i0, i1, i2, im, isz, a, l, c, ib, ie, ia⟩ : ∃ rest, Inv (wordsOf s) rest w5 := hI.elim (fun h => ⟨[], h⟩) id
    refine ⟨hr, fun w6 m6 s6 hd => ?_⟩
    have b6 := m6.at ib (by omega)
    have e6 : Els Value.string 9 w6 a l c (wordsOf s) := ie.mod m6 fun k hk hS => by have := ia k hk; omega
    have im6 : Mod no w w6 := im.new m6 fun k hS => by omega
    refine ⟨a, l, c, by rw [cl b6]; rfl, hd, fun w25 e25 => ?_⟩
    have m25 : Mod (on w2.heap.size) w6 w25 := by subst e25; exact Mod.putObj _ _ _
    exact h w25 a l c (e6.mod m25 fun k hk hS => by cases hS; have := ia _ hk; omega) (im6.new m25 fun k hk => by cases hk; omega) fun k hk => by have := ia k hk; omega
  refine (ca154 (.func (.yield (w2.heap.size + 1)) #[] #[]) (some ⟨u0.heap.size, 0, none⟩) (some ⟨w0.heap.size, 0, none⟩) (some ⟨u1.heap.size, 0, none⟩) w3 _ ?_ : Ca _ _ _ _ _)
  have c0 := m3.at c0 id
  have c1 := m3.at c1 id
  have c2 := m3.at c2 id
  have b3 := m3.at b2 id
  refine ⟨dot, by rw [cl c1]; rfl, ifK_of (fun h0 => by cases h0) fun _ => ?_⟩
  refine ⟨fun w' => ∃ pre rest, Inv pre rest w' ∧ pre ++ (splitD rest).map bs = wordsOf s ∧ pre.length + rest.length ≤ s.size, fun w' => match w'.cell? ⟨w0.heap.size, 0, none⟩ with | some (.string t) => t.size | _ => 0,
    ⟨[], s.data.toList, ⟨hr3, c0, c1, c2, n2.trans (m3.mono fun _ _ h => h.elim), by omega, none, 0, 0, b3, Els.nil _ _, fun k hk => by cases hk⟩, by rw [wordsOf, if_neg hpos]; rfl, by simp⟩, ?_⟩
  rintro _ w5 ⟨pre, rest, hI, hsp, hlen⟩
  obtain ⟨hr, i0, i1, i2, im, isz, a, l, c, ib, ie, ia⟩ := hI
  have i05 := i0
  have hI : Inv pre rest w5 := ⟨hr, i0, i1, i2, im, isz, a, l, c, ib, ie, ia⟩
  refine ⟨bs rest, by rw [cl i0]; rfl, dot, by rw [cl i1]; rfl, index_ok _ _ _ ⟨_, rfl, ?_⟩⟩
  rw [bs_list]
  rcases index_cases rest with ⟨h1, h2⟩ | ⟨i, h1, h2, h3⟩
  · rw [h1]
    refine ifK_of (fun _ => ?_) fun h0 => by cases h0
    refine ⟨bs rest, by rw [cl i0]; rfl, (yield1 pre rest (bs rest) w5 _ hI (by omega) fun w6 h6 => ?_).mono fun v w6 hv => ⟨true, hv.1, hv.2⟩⟩
    refine done w6 (.inr ⟨rest, ?_⟩)
    rw [h2] at hsp
    rw [← hsp]
    exact h6
  · rw [h1]
    refine ifK_dec (fun h0 => by omega) fun _ => ?_
    have e1 : IntKind.i64.wrap ((i : Int) + 0) = (i : Int) := (by first | (simp only [IntKind.wrap_i64]; omega) | omega)
    have e2 : IntKind.i64.wrap ((i : Int) + (dot.size : Nat)) = ((i + 1 : Nat) : Int) := by rw [show dot.size = 1 from rfl]; exact (by first | (simp only [IntKind.wrap_i64]; omega) | omega)
    refine ⟨bs rest, by rw [cl i0]; rfl, 0, by rw [cl i2]; rfl, by decide, ?_⟩
    rw [e1]
    refine ⟨by omega, by rw [bs_size]; omega, ?_⟩
    rw [Int.toNat_natCast, bs_extract]
    refine (yield1 pre rest (bs (rest.take i)) w5 _ hI (by omega) fun w6 h6 => ?_).mono fun v w6 hv => ⟨true, hv.1, hv.2⟩
    obtain ⟨hr, i0, i1, i2, im, isz, a, l, c, ib, ie, ia⟩ := h6
    refine ifK_of (fun h0 => by cases h0) fun _ => ?_
    refine ⟨bs rest, by rw [cl i0]; rfl, dot, by rw [cl i1]; rfl, ?_⟩
    rw [e2]
    refine ⟨by omega, by rw [bs_size]; omega, by omega, ⟨_, by rw [cl1 i0]; rfl⟩, fz1 i0 _, ?_⟩
    rw [Int.toNat_natCast, Int.toNat_natCast, bs_extract, bs_size, List.take_of_length_le (by simp)]
    intro w7 e7
    have m7 : Mod (on w0.heap.size) w6 w7 := by subst e7; exact Mod.set1 _ _ _ _
    have j0 : w7.heap[w0.heap.size]? = some (.cells #[.string (bs (rest.drop (i + 1)))] 9 (0, 0)) := by subst e7; rw [set1 i0]; rfl
    clear e7
    obtain ⟨g1, r, g2⟩ := hrb w6 (.inl hr)
    refine ⟨⟨pre ++ [bs (rest.take i)], rest.drop (i + 1), ⟨hrs w6 w7 hr (by rw [m7.at g1 (show ¬ w2.heap.size = w0.heap.size by omega), g1]) (by rw [m7.at g2 (show ¬ w2.heap.size + 1 = w0.heap.size by omega), g2]), j0, m7.at i1 (show ¬ u0.heap.size = w0.heap.size by omega), m7.at i2 (show ¬ u1.heap.size = w0.heap.size by omega), im.new m7 (fun k hk => by cases hk; omega), Nat.le_trans isz m7.size,
      a, l, c, m7.at ib (show ¬ w.heap.size = w0.heap.size by omega), ie.mod m7 (fun k hk hS => by cases hS; have := ia _ hk; omega), ia⟩, ?_, ?_⟩, ?_⟩
    · rw [← hsp, h3]
      simp
    · simp
      omega
    · show (match w7.cell? ⟨w0.heap.size, 0, none⟩ with | some (.string t) => t.size | _ => 0) < (match w5.cell? ⟨w0.heap.size, 0, none⟩ with | some (.string t) => t.size | _ => 0)
      rw [cl j0, cl i05]
      show (bs (rest.drop (i + 1))).size < (bs rest).size
      rw [bs_size, bs_size, List.length_drop]
      omega
end Go.Proofs.YtehhhkcemmfjpaaGreatDoor

/- The program's Key and Pattern, may, and Bind. -/
namespace Go.Proofs.YtehhhkcemmfjpaaGreatDoor
open Go Go.Proofs.YtehhhkcemmfjpaaGreatDoor Go.Proofs.YtehhhkcemmfjpaaGreatDoor.St

/-- A test of words. -/
abbrev TestW (f : Value) (φ : ByteArray → Bool) (w : World) : Prop := ∀ x w', Mod no w w' → ∀ R : Value → World → Prop, (∀ w'', Mod no w' w'' → R (.bool (φ x)) w'') → CaV Tryz.prog f #[.string x] w' R
theorem contains_ok (f : Value) (φ : ByteArray → Bool) (w : World) (a : Option Addr) (l c : Nat) (xs : List ByteArray) (hx : Els Value.string 9 w a l c xs) (hl : l < 1000000000) (hf : TestW f φ w) (R : Value → World → Prop)
    (h : ∀ w', Mod no w w' → R (.bool (xs.any φ)) w') : Ca Tryz.prog 107 #[.slice a l c, f] w R := by
  refine ca107 a l c f w R ?_
  refine ca138 a l c f w _ ?_
  have hxl := hx.len.1
  refine ⟨fun x w' => ∃ i : Nat, x = i ∧ i ≤ l ∧ Mod no w w' ∧ (xs.any φ) = ((xs.drop i).any φ), fun x _ => ((l : Int) - x).toNat, ⟨0, rfl, by omega, Mod.refl _ _, rfl⟩, ?_⟩
  rintro _ _ w4 ⟨i, rfl, hi, m4, he⟩
  refine ifK_dec (fun hlt => ?_) (fun hge => ?_)
  · have hil : i < xs.length := by omega
    have hd : xs.drop i = at0 xs i :: xs.drop (i + 1) := by rw [List.drop_eq_getElem_cons hil, at0_eq hil]
    refine (hx.no m4).rd i rfl (by omega) (hf _ w4 m4 _ fun w8 m8 => ⟨_, rfl, ifK_of (fun ht => ?_) (fun hf => ?_)⟩)
    · refine ⟨_, rfl, ?_⟩
      have h' := h w8 (m4.trans m8)
      rw [he, hd, List.any_cons, ht] at h'
      rw [show decide ((i : Int) ≥ 0) = true from decide_eq_true (by omega)]
      exact h'
    · refine ⟨⟨i + 1, (by first | (simp only [IntKind.wrap_i64]; omega) | omega), by omega, m4.trans m8, ?_⟩, (by first | (simp only [IntKind.wrap_i64]; omega) | omega)⟩
      rw [he, hd, List.any_cons, hf, Bool.false_or]
  · refine ⟨_, rfl, ?_⟩
    have h' := h w4 m4
    rw [he, List.drop_eq_nil_of_le (by omega)] at h'
    exact h'
/-- Is a text of words that are so? -/
def madeB (φ : ByteArray → Bool) (s : ByteArray) : Bool := decide (s.size ≤ 60) && (decide ((wordsOf s).length ≤ 12) && (wordsOf s).all φ)
theorem madeS_ok (s : ByteArray) (f : Fn) (fa ca : Array Value) (φ : ByteArray → Bool) (w : World) (hs : s.size < 1000000000) (hf : TestW (.func f fa ca) φ w) (R : Value → World → Prop) (h : ∀ w', Mod no w w' → R (.bool (madeB φ s)) w') :
    Ca Tryz.prog 89 #[.string s, .func f fa ca] w R := by
  refine ca89 s (.func f fa ca) w R ?_
  intro w0 e0
  have m0 : Mod no w w0 := by subst e0; exact Mod.alloc _ _
  have b0 : ∃ t, w0.heap[w.heap.size]? = some (.cells #[.func f fa ca] t (0, 0)) := by subst e0; exact ⟨_, new_at _ _⟩
  clear e0
  obtain ⟨t, b0⟩ := b0
  refine words_ok s w0 hs _ fun w2 a l c hx m2 hn => ⟨a, l, c, rfl, ?_⟩
  have hxl := hx.len.1
  have m02 := m0.trans m2
  have hwl : (wordsOf s).length ≤ s.size + 1 := by
    unfold wordsOf
    split
    · simp
    · rw [List.length_map]; exact splitD_len _
  refine ifK_dec (fun h1 => ifK_dec (fun h2 => ?_) fun h2 => ?_) fun h1 => ?_
  · refine contains_ok _ (fun x => !φ x) w2 a l c _ hx (by omega) (fun x w' mw R' hR' => ?_) _ fun w7 m7 => ⟨_, rfl, ?_⟩
    · refine (ca106 x (some ⟨w.heap.size, 0, none⟩) w' R' ?_ : Ca _ _ _ _ _)
      have bb := mw.at' (m2.at' b0)
      exact ⟨_, by rw [cl bb]; rfl, hf x w' (m02.trans mw) _ fun w'' mm => ⟨_, rfl, hR' w'' mm⟩⟩
    · have h' := h w7 (m02.trans m7)
      rw [madeB, decide_eq_true (show s.size ≤ 60 by omega), decide_eq_true (show (wordsOf s).length ≤ 12 by omega), Bool.true_and, Bool.true_and] at h'
      have : (!(wordsOf s).any fun x => !φ x) = (wordsOf s).all φ := by
        rw [List.not_any_eq_all_not]
        congr 1
        funext x
        simp
      rw [this]
      exact h'
  · have h' := h w2 m02
    rw [madeB, decide_eq_false (show ¬ (wordsOf s).length ≤ 12 by omega), Bool.false_and, Bool.and_false] at h'
    exact h'
  · have h' := h w2 m02
    rw [madeB, decide_eq_false (show ¬ s.size ≤ 60 by omega), Bool.false_and] at h'
    exact h'
def wild (x : ByteArray) : Bool := decide (x = ByteArray.mk #[42]) || (decide (x = ByteArray.mk #[35]) || plainB x)
abbrev keyB : ByteArray → Bool := madeB plainB
abbrev patB : ByteArray → Bool := madeB wild
theorem key_ok (s : ByteArray) (w : World) (hs : s.size < 1000000000) (R : Value → World → Prop) (h : ∀ w', Mod no w w' → R (.bool (keyB s)) w') : Ca Tryz.prog 66 #[.string s] w R := by
  refine ca66 s w R ?_
  exact madeS_ok s (.func 82) #[] #[] plainB w hs (fun x w' _ R' hR' => plain_ok x w' R' hR') _ fun w' m => ⟨_, rfl, h w' m⟩
theorem pattern_ok (s : ByteArray) (w : World) (hs : s.size < 1000000000) (R : Value → World → Prop) (h : ∀ w', Mod no w w' → R (.bool (patB s)) w') : Ca Tryz.prog 84 #[.string s] w R := by
  refine ca84 s w R ?_
  refine madeS_ok s _ _ _ wild w hs (fun x w' _ R' hR' => ?_) _ fun w' m => ⟨_, rfl, h w' m⟩
  refine (ca103 x w' R' ?_ : Ca _ _ _ _ _)
  rw [W103, toList_beq, toList_beq]
  refine ifK_of (fun h1 => ?_) (fun h1 => ifK_of (fun h2 => ?_) (fun h2 => ?_))
  · have h' := hR' w' (Mod.refl _ _)
    rw [wild, h1, Bool.true_or] at h'
    exact h'
  · have h' := hR' w' (Mod.refl _ _)
    rw [wild, h1, h2, Bool.false_or, Bool.true_or] at h'
    exact h'
  · refine plain_ok x w' _ fun w'' mm => ⟨_, rfl, ?_⟩
    have h' := hR' w'' mm
    rw [wild, h1, h2, Bool.false_or, Bool.false_or] at h'
    exact h'
/-- May an exchange's binding have a pattern? -/
def mayB (x : Exc) (p : ByteArray) : Bool := if x.k = 1 then keyB p else if x.k = 3 then patB p else decide (p = ByteArray.mk #[])
theorem may_ok (x : Exc) (p : ByteArray) (w : World) (hs : p.size < 1000000000) (R : Value → World → Prop) (h : ∀ w', Mod no w w' → R (.bool (mayB x p)) w') : Ca Tryz.prog 56 #[.agg ⟨x.cs⟩, .string p] w R := by
  refine (ca56 x.n x.k x.f p w R ?_ : Ca _ _ _ _ _)
  intro w0 e0
  have m0 : Mod no w w0 := by subst e0; exact Mod.alloc _ _
  have b0 : Xc w0 w.heap.size x := by subst e0; exact new_at _ _
  clear e0
  refine ⟨x.k, by rw [cl1 b0]; rfl, ifK_eq (fun h1 => ?_) (fun h1 => ifK_eq (fun h2 => ?_) (fun h2 => ?_))⟩
  · refine key_ok p w0 hs _ fun w1 m1 => ⟨_, rfl, ?_⟩
    have h' := h w1 (m0.trans m1)
    rw [mayB, if_pos h1] at h'
    exact h'
  · refine pattern_ok p w0 hs _ fun w1 m1 => ⟨_, rfl, ?_⟩
    have h' := h w1 (m0.trans m1)
    rw [mayB, if_neg h1, if_pos h2] at h'
    exact h'
  · have h' := h w0 m0
    rw [mayB, if_neg h1, if_neg h2] at h'
    rw [toList_beq]
    exact h'
end Go.Proofs.YtehhhkcemmfjpaaGreatDoor

/- The table's Bind. -/
namespace Go.Proofs.YtehhhkcemmfjpaaGreatDoor
open Go Go.Proofs.YtehhhkcemmfjpaaGreatDoor Go.Proofs.YtehhhkcemmfjpaaGreatDoor.St

def bindR (b : Bnd) (D : List Exc) (B : List Bnd) : Int := if nameB b.q = false then 2 else if hx b.x D = false then 3 else if mayB (fx b.x D) b.p = false then 2 else if b ∈ B then 0 else if B.length ≥ 32 then 5 else 0
def bindB (b : Bnd) (D : List Exc) (B : List Bnd) : List Bnd := if nameB b.q = true ∧ hx b.x D = true ∧ mayB (fx b.x D) b.p = true ∧ b ∉ B ∧ B.length < 32 then B ++ [b] else B
theorem setB (b : Bnd) : ∀ {B : List Bnd}, b ∈ B → setG b (.agg ⟨[]⟩) (bnL B) = bnL B
  | [], h => by cases h
  | x :: B, h => by
    simp only [bnL, List.map_cons, setG]
    by_cases he : b = x
    · subst he
      rw [if_pos (beq_self_eq_true _)]
    · rw [if_neg (fun h' => he (eq_of_beq h'))]
      congr 1
      exact setB b ((List.mem_cons.1 h).resolve_left he)
theorem put_b {w : World} {m : Nat} {B : List Bnd} (h : BMap w m B) (b : Bnd) :
    ∃ w', Sem.run Tryz.prog (Instr.mapUpdate 68 (.map (some m)) (.agg ⟨b.cs⟩) (.agg ⟨[]⟩)) w = Result.ok () w' ∧ Mod (on m) w w' ∧ BMap w' m (if b ∈ B then B else B ++ [b]) := by
  obtain ⟨w', h1, h2, h3⟩ := update_k (keys_bnd bnd_s) Tryz.underlying68 h b trivial (fun _ _ => trivial) (.agg ⟨[]⟩)
  refine ⟨w', h1, h2, ?_⟩
  by_cases hb : b ∈ B
  · rw [if_pos hb]
    rw [setB b hb] at h3
    exact h3
  · rw [if_neg hb]
    rw [setG_none (by rw [bnL_fst]; exact hb)] at h3
    have : bnL (B ++ [b]) = bnL B ++ [(b, .agg ⟨[]⟩)] := by rw [bnL, List.map_append]; rfl
    rw [BMap, this]
    exact h3

theorem bind_ok {w : World} {t m1 m2 : Nat} {D : List Exc} {B : List Bnd} (hT : Tbl w t m1 m2 D B) (b : Bnd) (hs : b.p.size < 1000000000) (R : Value → World → Prop) (h : ∀ w', Tbl w' t m1 m2 D (bindB b D B) → Mod (on m2) w w' → R (.int .i64 (bindR b D B)) w') :
    Ca Tryz.prog 21 #[.pointer (some ⟨t, 0, none⟩), .agg ⟨b.cs⟩] w R := by
  refine (ca21 (some ⟨t, 0, none⟩) b.x b.q b.p w R ?_ : Ca _ _ _ _ _)
  intro w0 e0
  have n0 : Mod no w w0 := by subst e0; exact Mod.alloc _ _
  have b0 : Bc w0 w.heap.size b := by subst e0; exact new_at _ _
  clear e0
  have hT0 := hT.no n0
  refine made_ok hT0 _ ⟨true, rfl, ifK_of (fun h => by cases h) fun _ => ?_⟩
  refine ⟨fun p o w' => ∃ k, p = some ⟨k, 0, none⟩ ∧ Xc w' k (fx b.x D) ∧ o = hx b.x D ∧ Bc w' w.heap.size b ∧ Tbl w' t m1 m2 D B ∧ Mod no w w', ?_, ?_⟩
  · intro w11 e11
    have n11 : Mod no w0 w11 := by subst e11; exact Mod.drew _
    clear e11
    have b11 := n11.at' b0
    have n011 := n0.trans n11
    have hT11 := hT.no n011
    refine ⟨some m1, by rw [cl1 hT11.cell]; rfl, _, by rw [cl1 b11]; rfl, ⟨_, _, look_x hT11.x b.x, _, _, _, _, rfl, ?_⟩, ?_⟩
    · intro w21 e21
      have n21 : Mod no w11 w21 := by subst e21; exact Mod.alloc _ _
      have b21 : Xc w21 w11.heap.size exc0 := by subst e21; exact new_at _ _
      clear e21
      have hT21 := hT11.no n21
      have bx := n21.at' b11
      refine ⟨by rw [cl2 hT21.cell]; rfl, by rw [cl2 bx]; rfl, put3 b21 fun w27 n27 b27 => ?_⟩
      have n1127 : Mod no w11 w27 := n21.new n27 fun k hk => by cases hk; exact Nat.le_refl _
      exact ⟨_, rfl, b27, rfl, n1127.at' b11, hT11.no n1127, n011.trans n1127⟩
    · intro w21 e21
      have n21 : Mod no w11 w21 := by subst e21; exact Mod.alloc _ _
      have b21 : Xc w21 w11.heap.size exc0 := by subst e21; exact new_at _ _
      clear e21
      have hT21 := hT11.no n21
      have bx := n21.at' b11
      refine ⟨by rw [cl2 hT21.cell]; rfl, by rw [cl2 bx]; rfl, _, _, look_x hT21.x b.x, _, _, _, _, rfl, put3 b21 fun w27 n27 b27 => ?_⟩
      have n1127 : Mod no w11 w27 := n21.new n27 fun k hk => by cases hk; exact Nat.le_refl _
      exact ⟨_, rfl, b27, rfl, n1127.at' b11, hT11.no n1127, n011.trans n1127⟩
  rintro _ _ _ w38 ⟨k, rfl, bk, rfl, bx, hT38, n38⟩
  refine ⟨fun o w' => o = decide (b ∈ B) ∧ Xc w' k (fx b.x D) ∧ Bc w' w.heap.size b ∧ Tbl w' t m1 m2 D B ∧ Mod no w w', ?_, ?_⟩
  · intro w40 e40
    have n40 : Mod no w38 w40 := by subst e40; exact Mod.drew _
    clear e40
    have hT40 := hT38.no n40
    have b40 := n40.at' bx
    have k40 := n40.at' bk
    have n040 := n38.trans n40
    refine ⟨some m2, by rw [cl1 hT40.cell]; rfl, _, by rw [cl1 b40]; rfl, _, by rw [cl1 b40]; rfl, _, by rw [cl1 b40]; rfl, ⟨_, _, look_b hT40.b b, _, rfl, ?_⟩, ?_⟩
    · intro w49 e49
      have n49 : Mod no w40 w49 := by subst e49; exact Mod.alloc _ _
      clear e49
      have hT49 := hT40.no n49
      have b49 := n49.at' b40
      exact ⟨by rw [cl2 hT49.cell]; rfl, by rw [cl1 b49]; rfl, by rw [cl1 b49]; rfl, by rw [cl1 b49]; rfl, rfl, n49.at' k40, b49, hT49, n040.trans n49⟩
    · intro w49 e49
      have n49 : Mod no w40 w49 := by subst e49; exact Mod.alloc _ _
      clear e49
      have hT49 := hT40.no n49
      have b49 := n49.at' b40
      exact ⟨by rw [cl2 hT49.cell]; rfl, by rw [cl1 b49]; rfl, by rw [cl1 b49]; rfl, by rw [cl1 b49]; rfl, _, _, look_b hT49.b b, _, rfl, rfl, n49.at' k40, b49, hT49, n040.trans n49⟩
  rintro _ _ w56 ⟨rfl, bk, bx, hT56, n56⟩
  refine ⟨_, by rw [cl1 bx]; rfl, name_ok _ _ _ fun w59 n59 => ⟨_, rfl, ?_⟩⟩
  have n059 := n56.trans n59
  have hT59 := hT56.no n59
  have bk := n59.at' bk
  have bx := n59.at' bx
  refine ifK_of (fun hn => ?_) fun hn => ?_
  · have hn : nameB b.q = false := by simpa using hn
    have h' := h w59 (by rw [bindB, if_neg (fun hh => by rw [hn] at hh; cases hh.1)]; exact hT59) n059.of_no
    rw [bindR, if_pos hn] at h'
    exact h'
  have hn : nameB b.q = true := by simpa using hn
  refine ifK_of (fun hh => ?_) fun hh => ?_
  · have hh : hx b.x D = false := by simpa using hh
    have h' := h w59 (by rw [bindB, if_neg (fun hc => by rw [hh] at hc; cases hc.2.1)]; exact hT59) n059.of_no
    rw [bindR, if_neg (by rw [hn]; decide), if_pos hh] at h'
    exact h'
  have hh : hx b.x D = true := by simpa using hh
  refine ⟨_, by rw [cl1 bk]; rfl, _, by rw [cl1 bk]; rfl, _, by rw [cl1 bk]; rfl, _, by rw [cl1 bx]; rfl, ?_⟩
  refine (may_ok (fx b.x D) b.p w59 hs _ fun w67 n67 => ?_ : Ca _ _ _ _ _)
  refine ⟨_, rfl, ?_⟩
  have n067 := n059.trans n67
  have hT67 := hT59.no n67
  have bx := n67.at' bx
  refine ifK_of (fun hm => ?_) fun hm => ?_
  · have hm : mayB (fx b.x D) b.p = false := by simpa using hm
    have h' := h w67 (by rw [bindB, if_neg (fun hc => by rw [hm] at hc; cases hc.2.2.1)]; exact hT67) n067.of_no
    rw [bindR, if_neg (by rw [hn]; decide), if_neg (by rw [hh]; decide), if_pos hm] at h'
    exact h'
  have hm : mayB (fx b.x D) b.p = true := by simpa using hm
  have put : ∀ w', Mod no w w' → Tbl w' t m1 m2 D B → Bc w' w.heap.size b → (b ∈ B ∨ B.length < 32) →
      atW w'.drew fun w72 => ∃ p74 : Option Nat, w72.cell? (Addr.add ⟨t, 0, none⟩ 1) = some (.map p74) ∧ ∃ s75 : ByteArray, w72.cell? (Addr.add ⟨w.heap.size, 0, none⟩ 0) = some (.string s75) ∧ ∃ s76 : ByteArray, w72.cell? (Addr.add ⟨w.heap.size, 0, none⟩ 1) = some (.string s76) ∧
        ∃ s77 : ByteArray, w72.cell? (Addr.add ⟨w.heap.size, 0, none⟩ 2) = some (.string s77) ∧ ∃ w78 : World, Sem.run Tryz.prog (Instr.mapUpdate 68 (.map p74) (.agg ⟨[.string s75, .string s76, .string s77]⟩) (.agg ⟨[]⟩)) w72 = Result.ok () w78 ∧ R (.int .i64 0) w78 := by
    intro w' nw hTw bw hor w72 e72
    have n72 : Mod no w' w72 := by subst e72; exact Mod.drew _
    clear e72
    have hT72 := hTw.no n72
    have b72 := n72.at' bw
    obtain ⟨w78, hr, n78, hb78⟩ := put_b hT72.b b
    refine ⟨some m2, by rw [cl1 hT72.cell]; rfl, _, by rw [cl1 b72]; rfl, _, by rw [cl1 b72]; rfl, _, by rw [cl1 b72]; rfl, w78, hr, ?_⟩
    have hT78 : ∀ B' : List Bnd, B'.Nodup → BMap w78 m2 B' → Tbl w78 t m1 m2 D B' := fun B' h1 h2 => ⟨n78.at hT72.cell hT.t2, hT72.x.mod n78 hT.ne, h2, hT.ne, hT.dn, h1⟩
    by_cases hb : b ∈ B
    · rw [if_pos hb] at hb78
      have h' := h w78 (by rw [bindB, if_neg (fun hc => hc.2.2.2.1 hb)]; exact hT78 B hT.bn hb78) ((nw.trans n72).no_trans n78)
      rw [bindR, if_neg (by rw [hn]; decide), if_neg (by rw [hh]; decide), if_neg (by rw [hm]; decide), if_pos hb] at h'
      exact h'
    · rw [if_neg hb] at hb78
      have hl : B.length < 32 := hor.resolve_left hb
      have h' := h w78 (by
        rw [bindB, if_pos ⟨hn, hh, hm, hb, hl⟩]
        refine hT78 (B ++ [b]) ?_ hb78
        rw [List.nodup_append]
        refine ⟨hT.bn, by simp, fun x hx y hy => ?_⟩
        simp only [List.mem_singleton] at hy
        rintro rfl
        exact hb (hy ▸ hx)) ((nw.trans n72).no_trans n78)
      rw [bindR, if_neg (by rw [hn]; decide), if_neg (by rw [hh]; decide), if_neg (by rw [hm]; decide), if_neg hb, if_neg (by omega)] at h'
      exact h'
  refine ifK_not (fun hb => ?_) (fun hb => put w67 n067 hT67 bx (.inl (of_decide_eq_true hb)))
  have hb : b ∉ B := of_decide_eq_false hb
  obtain ⟨es, clock, hes, hlen⟩ := bmap_len hT67.b
  refine ⟨some m2, by rw [cl1 hT67.cell]; rfl, es, clock, hes, ifK_dec (fun hge => ?_) (fun hlt => put w67 n067 hT67 bx (.inr (by omega)))⟩
  have h' := h w67 (by rw [bindB, if_neg (fun hc => by have := hc.2.2.2.2; omega)]; exact hT67) n067.of_no
  rw [bindR, if_neg (by rw [hn]; decide), if_neg (by rw [hh]; decide), if_neg (by rw [hm]; decide), if_neg hb, if_pos (by omega)] at h'
  exact h'
end Go.Proofs.YtehhhkcemmfjpaaGreatDoor

/- The formulas of functions, printed by a program of mine (gen.py) out of the translation. -/
namespace Go.Proofs.YtehhhkcemmfjpaaGreatDoor
open Go Go.Proofs.YtehhhkcemmfjpaaGreatDoor.St
open _root_.Go.Value (string int bool slice pointer agg tuple map func nilFunc iface)
open _root_.Go.World (cell? frozen? setCell alloc drew)
open _root_.Go.Addr (add)
open _root_.Go.Obj (cells)
open _root_.Go.IntKind (wrap i64 u64 i32 u32 u8)
set_option maxRecDepth 100000

/-- (*staith/bind.Table).Exchanges -/
noncomputable def C15 : Code := (Tryz.f15.body).getD .skip
def pl15 : Nat → Plan := fun _ => .done
def ls15 : Nat → List (Nat × LT) := fun _ => []
def W15 (t : Option Addr) (w : World) (R : Value → World → Prop) : Prop :=
  (Ca Tryz.prog (44) (Array.mk [pointer t]) (w) (fun v0 => (fun w1 =>
(∃ b2 : Bool, ((v0 = bool b2) ∧ (ifK (!b2)
(R (slice none 0 0) (w1))
(onP (t) (fun a3 =>
(∃ p4 : Option Nat, ((cell? w1 (add a3 0) = some (map p4)) ∧ (Ca Tryz.prog (46) (Array.mk [map p4]) (w1) (fun v5 => (fun w6 =>
(∃ v7 : Value, ((v5 = v7) ∧ (Ca Tryz.prog (45) (Array.mk [v7, func (Fn.func 47) #[] #[]]) (w6) (fun v8 => (fun w9 =>
(∃ p10 : Option Addr, (∃ n11 : Nat, (∃ n12 : Nat, ((v8 = slice p10 n11 n12) ∧ (R (slice p10 n11 n12) (w9))))))))))))))))))))))))
theorem ca15 (t : Option Addr) (w : World) (R : Value → World → Prop) (h : W15 t w R) : Ca Tryz.prog 15 ⟨[(.pointer t)]⟩ w R :=
  caB (fn := Tryz.f15) (pl := pl15) (ls := ls15) Tryz.func15 (by kernel_rfl) (by kernel_rfl) h

/-- (*staith/bind.Table).Bindings -/
noncomputable def C16 : Code := (Tryz.f16.body).getD .skip
def pl16 : Nat → Plan := fun _ => .done
def ls16 : Nat → List (Nat × LT) := fun _ => []
def W16 (t : Option Addr) (w : World) (R : Value → World → Prop) : Prop :=
  (Ca Tryz.prog (44) (Array.mk [pointer t]) (w) (fun v0 => (fun w1 =>
(∃ b2 : Bool, ((v0 = bool b2) ∧ (ifK (!b2)
(R (slice none 0 0) (w1))
(onP (t) (fun a3 =>
(∃ p4 : Option Nat, ((cell? w1 (add a3 1) = some (map p4)) ∧ (Ca Tryz.prog (50) (Array.mk [map p4]) (w1) (fun v5 => (fun w6 =>
(∃ v7 : Value, ((v5 = v7) ∧ (Ca Tryz.prog (49) (Array.mk [v7, func (Fn.func 51) #[] #[]]) (w6) (fun v8 => (fun w9 =>
(∃ p10 : Option Addr, (∃ n11 : Nat, (∃ n12 : Nat, ((v8 = slice p10 n11 n12) ∧ (R (slice p10 n11 n12) (w9))))))))))))))))))))))))
theorem ca16 (t : Option Addr) (w : World) (R : Value → World → Prop) (h : W16 t w R) : Ca Tryz.prog 16 ⟨[(.pointer t)]⟩ w R :=
  caB (fn := Tryz.f16) (pl := pl16) (ls := ls16) Tryz.func16 (by kernel_rfl) (by kernel_rfl) h

/-- slices.SortedFunc[staith/api.Exchange] -/
noncomputable def C45 : Code := (Tryz.f45.body).getD .skip
def pl45 : Nat → Plan := fun _ => .done
def ls45 : Nat → List (Nat × LT) := fun _ => []
def W45 (seq : Value) (cmp : Value) (w : World) (R : Value → World → Prop) : Prop :=
  (Ca Tryz.prog (75) (Array.mk [seq]) (w) (fun v0 => (fun w1 =>
(∃ p2 : Option Addr, (∃ n3 : Nat, (∃ n4 : Nat, ((v0 = slice p2 n3 n4) ∧ (Ca Tryz.prog (76) (Array.mk [slice p2 n3 n4, cmp]) (w1) (fun v5 => (fun w6 =>
((v5 = tuple (Array.mk (List.reverse []))) ∧ (R (slice p2 n3 n4) (w6)))))))))))))
theorem ca45 (seq : Value) (cmp : Value) (w : World) (R : Value → World → Prop) (h : W45 seq cmp w R) : Ca Tryz.prog 45 ⟨[seq, cmp]⟩ w R :=
  caB (fn := Tryz.f45) (pl := pl45) (ls := ls45) Tryz.func45 (by kernel_rfl) (by kernel_rfl) h

/-- maps.Values[map[string]staith/api.Exchange,string,staith/api.Exchange] -/
noncomputable def C46 : Code := (Tryz.f46.body).getD .skip
def pl46 : Nat → Plan := fun _ => .done
def ls46 : Nat → List (Nat × LT) := fun _ => []
def W46 (m : Option Nat) (w : World) (R : Value → World → Prop) : Prop :=
  (atW (alloc w (cells (Array.mk [map m]) 67 (0, 0))) (fun w0 =>
(R (func (Fn.func 77) (Array.mk []) (Array.mk [pointer (some (nw w))])) (w0))))
theorem ca46 (m : Option Nat) (w : World) (R : Value → World → Prop) (h : W46 m w R) : Ca Tryz.prog 46 ⟨[(.map m)]⟩ w R :=
  caB (fn := Tryz.f46) (pl := pl46) (ls := ls46) Tryz.func46 (by kernel_rfl) (by kernel_rfl) h

/-- slices.SortedFunc[staith/api.Binding] -/
noncomputable def C49 : Code := (Tryz.f49.body).getD .skip
def pl49 : Nat → Plan := fun _ => .done
def ls49 : Nat → List (Nat × LT) := fun _ => []
def W49 (seq : Value) (cmp : Value) (w : World) (R : Value → World → Prop) : Prop :=
  (Ca Tryz.prog (79) (Array.mk [seq]) (w) (fun v0 => (fun w1 =>
(∃ p2 : Option Addr, (∃ n3 : Nat, (∃ n4 : Nat, ((v0 = slice p2 n3 n4) ∧ (Ca Tryz.prog (80) (Array.mk [slice p2 n3 n4, cmp]) (w1) (fun v5 => (fun w6 =>
((v5 = tuple (Array.mk (List.reverse []))) ∧ (R (slice p2 n3 n4) (w6)))))))))))))
theorem ca49 (seq : Value) (cmp : Value) (w : World) (R : Value → World → Prop) (h : W49 seq cmp w R) : Ca Tryz.prog 49 ⟨[seq, cmp]⟩ w R :=
  caB (fn := Tryz.f49) (pl := pl49) (ls := ls49) Tryz.func49 (by kernel_rfl) (by kernel_rfl) h

/-- maps.Keys[map[staith/api.Binding]struct{},staith/api.Binding,struct{}] -/
noncomputable def C50 : Code := (Tryz.f50.body).getD .skip
def pl50 : Nat → Plan := fun _ => .done
def ls50 : Nat → List (Nat × LT) := fun _ => []
def W50 (m : Option Nat) (w : World) (R : Value → World → Prop) : Prop :=
  (atW (alloc w (cells (Array.mk [map m]) 68 (0, 0))) (fun w0 =>
(R (func (Fn.func 81) (Array.mk []) (Array.mk [pointer (some (nw w))])) (w0))))
theorem ca50 (m : Option Nat) (w : World) (R : Value → World → Prop) (h : W50 m w R) : Ca Tryz.prog 50 ⟨[(.map m)]⟩ w R :=
  caB (fn := Tryz.f50) (pl := pl50) (ls := ls50) Tryz.func50 (by kernel_rfl) (by kernel_rfl) h

/-- slices.Collect[staith/api.Exchange] -/
noncomputable def C75 : Code := (Tryz.f75.body).getD .skip
def pl75 : Nat → Plan := fun _ => .done
def ls75 : Nat → List (Nat × LT) := fun _ => []
def W75 (seq : Value) (w : World) (R : Value → World → Prop) : Prop :=
  (Ca Tryz.prog (98) (Array.mk [slice none 0 0, seq]) (w) (fun v0 => (fun w1 =>
(∃ p2 : Option Addr, (∃ n3 : Nat, (∃ n4 : Nat, ((v0 = slice p2 n3 n4) ∧ (R (slice p2 n3 n4) (w1)))))))))
theorem ca75 (seq : Value) (w : World) (R : Value → World → Prop) (h : W75 seq w R) : Ca Tryz.prog 75 ⟨[seq]⟩ w R :=
  caB (fn := Tryz.f75) (pl := pl75) (ls := ls75) Tryz.func75 (by kernel_rfl) (by kernel_rfl) h

/-- maps.Values[map[string]staith/api.Exchange,string,staith/api.Exchange]$1 -/
noncomputable def C77 : Code := (Tryz.f77.body).getD .skip
def pl77 : Nat → Plan := fun _ => .done
def ls77 : Nat → List (Nat × LT)
  | 1 => []
  | _ => []
def W77 (yield : Value) (c0 : Option Addr) (w : World) (R : Value → World → Prop) : Prop :=
  (onP (c0) (fun a0 =>
(∃ p1 : Option Nat, ((cell? w a0 = some (map p1)) ∧ (rngM (p1) (w) (fun v2 => (fun w3 =>
(∃ z4 : World → Prop, (∃ z5 : World → Nat, ((z4 (w3)) ∧ (∀ (_ : Nat → Value), (∀ (w7 : World), ((z4 (w7)) → (nxtM Tryz.prog (0) (v2) (w7) (fun _ => (fun _ => (fun w10 =>
(∃ v11 : Value, (∃ v12 : Value, ((Sem.run Tryz.prog (Instr.entry v2) w10 = Result.ok (tuple #[v11, v12]) w10) ∧ (atW (alloc w10 (cells (Array.mk [string (ByteArray.mk #[]), int i64 0, bool false]) 33 (0, 0))) (fun w13 =>
(bif Nat.beq (Array.size (Value.cells v12)) 3 then
(stCells (Array.toList (Value.cells v12)) (nw w10) 0 w13 fun x => ∃ s, cell? x (add (nw w10) 0) = some (string s) ∧ ∃ x_1, cell? x (add (nw w10) 1) = some (int i64 x_1) ∧ ∃ b, cell? x (add (nw w10) 2) = some (bool b) ∧ CaV Tryz.prog yield (Array.mk [agg (Array.mk (List.reverse [bool b, int i64 x_1, string s]))]) x fun v w' => ∃ b, v = bool b ∧ ifK (!b) (R (tuple (Array.mk (List.reverse []))) w') (z4 w' ∧ z5 w' < z5 w7))
else
False))))))))) (fun w14 =>
(R (tuple (Array.mk (List.reverse []))) (w14)))))))))))))))))
theorem ca77 (yield : Value) (c0 : Option Addr) (w : World) (R : Value → World → Prop) (h : W77 yield c0 w R) : Ca Tryz.prog 77 ⟨[yield, (.pointer c0)]⟩ w R :=
  caB (fn := Tryz.f77) (pl := pl77) (ls := ls77) Tryz.func77 (by kernel_rfl) (by kernel_rfl) h

/-- slices.Collect[staith/api.Binding] -/
noncomputable def C79 : Code := (Tryz.f79.body).getD .skip
def pl79 : Nat → Plan := fun _ => .done
def ls79 : Nat → List (Nat × LT) := fun _ => []
def W79 (seq : Value) (w : World) (R : Value → World → Prop) : Prop :=
  (Ca Tryz.prog (101) (Array.mk [slice none 0 0, seq]) (w) (fun v0 => (fun w1 =>
(∃ p2 : Option Addr, (∃ n3 : Nat, (∃ n4 : Nat, ((v0 = slice p2 n3 n4) ∧ (R (slice p2 n3 n4) (w1)))))))))
theorem ca79 (seq : Value) (w : World) (R : Value → World → Prop) (h : W79 seq w R) : Ca Tryz.prog 79 ⟨[seq]⟩ w R :=
  caB (fn := Tryz.f79) (pl := pl79) (ls := ls79) Tryz.func79 (by kernel_rfl) (by kernel_rfl) h

/-- maps.Keys[map[staith/api.Binding]struct{},staith/api.Binding,struct{}]$1 -/
noncomputable def C81 : Code := (Tryz.f81.body).getD .skip
def pl81 : Nat → Plan := fun _ => .done
def ls81 : Nat → List (Nat × LT)
  | 1 => []
  | _ => []
def W81 (yield : Value) (c0 : Option Addr) (w : World) (R : Value → World → Prop) : Prop :=
  (onP (c0) (fun a0 =>
(∃ p1 : Option Nat, ((cell? w a0 = some (map p1)) ∧ (rngM (p1) (w) (fun v2 => (fun w3 =>
(∃ z4 : World → Prop, (∃ z5 : World → Nat, ((z4 (w3)) ∧ (∀ (_ : Nat → Value), (∀ (w7 : World), ((z4 (w7)) → (nxtM Tryz.prog (0) (v2) (w7) (fun _ => (fun _ => (fun w10 =>
(∃ v11 : Value, (∃ v12 : Value, ((Sem.run Tryz.prog (Instr.entry v2) w10 = Result.ok (tuple #[v11, v12]) w10) ∧ (atW (alloc w10 (cells (Array.mk [string (ByteArray.mk #[]), string (ByteArray.mk #[]), string (ByteArray.mk #[])]) 35 (0, 0))) (fun w13 =>
(bif Nat.beq (Array.size (Value.cells v11)) 3 then
(stCells (Array.toList (Value.cells v11)) (nw w10) 0 w13 fun x => ∃ s, cell? x (add (nw w10) 0) = some (string s) ∧ ∃ s_1, cell? x (add (nw w10) 1) = some (string s_1) ∧ ∃ s_2, cell? x (add (nw w10) 2) = some (string s_2) ∧ CaV Tryz.prog yield (Array.mk [agg (Array.mk (List.reverse [string s_2, string s_1, string s]))]) x fun v w' => ∃ b, v = bool b ∧ ifK (!b) (R (tuple (Array.mk (List.reverse []))) w') (z4 w' ∧ z5 w' < z5 w7))
else
False))))))))) (fun w14 =>
(R (tuple (Array.mk (List.reverse []))) (w14)))))))))))))))))
theorem ca81 (yield : Value) (c0 : Option Addr) (w : World) (R : Value → World → Prop) (h : W81 yield c0 w R) : Ca Tryz.prog 81 ⟨[yield, (.pointer c0)]⟩ w R :=
  caB (fn := Tryz.f81) (pl := pl81) (ls := ls81) Tryz.func81 (by kernel_rfl) (by kernel_rfl) h

/-- slices.AppendSeq[[]staith/api.Exchange,staith/api.Exchange] -/
noncomputable def C98 : Code := (Tryz.f98.body).getD .skip
def pl98 : Nat → Plan := fun _ => .done
def ls98 : Nat → List (Nat × LT) := fun _ => []
def W98 (sa : Option Addr) (sl : Nat) (sc : Nat) (seq : Value) (w : World) (R : Value → World → Prop) : Prop :=
  (atW (alloc w (cells (Array.mk [slice sa sl sc]) 26 (0, 0))) (fun w0 =>
(rfW Tryz.prog (seq) (w0) (fun v1 => (fun w2 => (fun z3 => (fun z4 =>
(atW (alloc w2 (cells (Array.mk [string (ByteArray.mk #[]), int i64 0, bool false]) 33 (0, 0))) (fun w5 =>
(bif Nat.beq (Array.size (Value.cells v1)) 3 then
(stCells (Array.toList (Value.cells v1)) (nw w2) 0 w5 fun x => z3 (fun x => ∃ a l c, cell? x (nw w) = some (slice a l c) ∧ (fun v w' => ∃ s, cell? w' (add (nw w2) 0) = some (string s) ∧ ∃ x, cell? w' (add (nw w2) 1) = some (int i64 x) ∧ ∃ b, cell? w' (add (nw w2) 2) = some (bool b) ∧ atW (alloc w' (cells (Array.mk [string s, int i64 x, bool b]) 33 (0, 0))) fun w'_1 => ∃ v_1 w'_2, Sem.run Tryz.prog (Builtin.append_ (Array.mk [26, 26]) 26 (Array.mk [v, slice (some (Addr.mk (Array.size (World.heap w')) 0 none)) 1 1])) w'_1 = Result.ok v_1 w'_2 ∧ ∃ a l c, v_1 = slice a l c ∧ (∃ old, cell? w'_2 (add (nw w) 0) = some old) ∧ frozen? w'_2 (add (nw w) 0) = false ∧ atW (setCell w'_2 (add (nw w) 0) (slice a l c)) fun w' => z4 w') (slice a l c) x) x)
else
False))))))) (fun w6 =>
(∃ p7 : Option Addr, (∃ n8 : Nat, (∃ n9 : Nat, ((cell? w6 (nw w) = some (slice p7 n8 n9)) ∧ (((World.heap w6)[Array.size (World.heap w0)]? = some (Obj.deferred (some []))) ∧ (atW (World.putObj w6 (Array.size (World.heap w0)) (Obj.deferred none)) (fun w10 =>
(R (slice p7 n8 n9) (w10)))))))))))))
theorem ca98 (sa : Option Addr) (sl : Nat) (sc : Nat) (seq : Value) (w : World) (R : Value → World → Prop) (h : W98 sa sl sc seq w R) : Ca Tryz.prog 98 ⟨[(.slice sa sl sc), seq]⟩ w R :=
  caB (fn := Tryz.f98) (pl := pl98) (ls := ls98) Tryz.func98 (by kernel_rfl) (by kernel_rfl) h

/-- slices.AppendSeq[[]staith/api.Binding,staith/api.Binding] -/
noncomputable def C101 : Code := (Tryz.f101.body).getD .skip
def pl101 : Nat → Plan := fun _ => .done
def ls101 : Nat → List (Nat × LT) := fun _ => []
def W101 (sa : Option Addr) (sl : Nat) (sc : Nat) (seq : Value) (w : World) (R : Value → World → Prop) : Prop :=
  (atW (alloc w (cells (Array.mk [slice sa sl sc]) 27 (0, 0))) (fun w0 =>
(rfW Tryz.prog (seq) (w0) (fun v1 => (fun w2 => (fun z3 => (fun z4 =>
(atW (alloc w2 (cells (Array.mk [string (ByteArray.mk #[]), string (ByteArray.mk #[]), string (ByteArray.mk #[])]) 35 (0, 0))) (fun w5 =>
(bif Nat.beq (Array.size (Value.cells v1)) 3 then
(stCells (Array.toList (Value.cells v1)) (nw w2) 0 w5 fun x => z3 (fun x => ∃ a l c, cell? x (nw w) = some (slice a l c) ∧ (fun v w' => ∃ s, cell? w' (add (nw w2) 0) = some (string s) ∧ ∃ s_1, cell? w' (add (nw w2) 1) = some (string s_1) ∧ ∃ s_2, cell? w' (add (nw w2) 2) = some (string s_2) ∧ atW (alloc w' (cells (Array.mk [string s, string s_1, string s_2]) 35 (0, 0))) fun w'_1 => ∃ v_1 w'_2, Sem.run Tryz.prog (Builtin.append_ (Array.mk [27, 27]) 27 (Array.mk [v, slice (some (Addr.mk (Array.size (World.heap w')) 0 none)) 1 1])) w'_1 = Result.ok v_1 w'_2 ∧ ∃ a l c, v_1 = slice a l c ∧ (∃ old, cell? w'_2 (add (nw w) 0) = some old) ∧ frozen? w'_2 (add (nw w) 0) = false ∧ atW (setCell w'_2 (add (nw w) 0) (slice a l c)) fun w' => z4 w') (slice a l c) x) x)
else
False))))))) (fun w6 =>
(∃ p7 : Option Addr, (∃ n8 : Nat, (∃ n9 : Nat, ((cell? w6 (nw w) = some (slice p7 n8 n9)) ∧ (((World.heap w6)[Array.size (World.heap w0)]? = some (Obj.deferred (some []))) ∧ (atW (World.putObj w6 (Array.size (World.heap w0)) (Obj.deferred none)) (fun w10 =>
(R (slice p7 n8 n9) (w10)))))))))))))
theorem ca101 (sa : Option Addr) (sl : Nat) (sc : Nat) (seq : Value) (w : World) (R : Value → World → Prop) (h : W101 sa sl sc seq w R) : Ca Tryz.prog 101 ⟨[(.slice sa sl sc), seq]⟩ w R :=
  caB (fn := Tryz.f101) (pl := pl101) (ls := ls101) Tryz.func101 (by kernel_rfl) (by kernel_rfl) h
end Go.Proofs.YtehhhkcemmfjpaaGreatDoor

/- The library's AppendSeq, Collect: of structs of three cells. Exc, excL: their values; 33, 26: their type, and their row's. -/
namespace Go.Proofs.YtehhhkcemmfjpaaGreatDoor.SeqX
open Go Go.Proofs.YtehhhkcemmfjpaaGreatDoor Go.Proofs.YtehhhkcemmfjpaaGreatDoor.St

abbrev aggs (xs : List Exc) : List Value := xs.map fun x => .agg ⟨(excL).cs x⟩
/-- What AppendSeq has gathered: in a box that is the block w.heap.size, in a row of its own. -/
def Got (w : World) (Rdy : World → Prop) (vs : List Value) (w' : World) : Prop :=
  Rdy w' ∧ ∃ (xs : List Exc) (a : Option Addr) (l c : Nat), vs = aggs xs ∧ w'.heap[w.heap.size]? = some (.cells #[.slice a l c] 26 (0, 0)) ∧ Rx excL 33 w' a l c xs ∧ (∀ k, rowB a k → w.heap.size + 3 ≤ k) ∧ w.heap.size + 3 ≤ w'.heap.size
theorem appendSeq_ok (seq : Value) (N : Nat) (S : List Value → Prop) (w : World) (hN : N ≤ 1099511627775) (hseq : SeqOf Tryz.prog seq w.heap.size w N (fun v => ∃ x : Exc, v = .agg ⟨(excL).cs x⟩) S) (R : Value → World → Prop)
    (h : ∀ w' a l c xs, S (aggs xs) → Rx excL 33 w' a l c xs → Mod no w w' → (∀ k, rowB a k → w.heap.size < k) → R (.slice a l c) w') :
    Ca Tryz.prog 98 #[.slice none 0 0, seq] w R := by
  refine ca98 none 0 0 seq w R ?_
  intro w0 e0
  have m0 : Mod no w w0 := by subst e0; exact Mod.alloc _ _
  have b0 : w0.heap[w.heap.size]? = some (.cells #[.slice none 0 0] 26 (0, 0)) := by subst e0; exact new_at _ _
  have s0 : w0.heap.size = w.heap.size + 1 := by subst e0; simp
  clear e0
  refine ⟨hseq.1, ?_⟩
  intro Rdy Bsy hrs hbs hrb w1 m1 s1 hr1 hy
  have b1 := Mod.at' m1 b0
  have hstab : Stab (Got w Rdy) := by
    constructor
    · rintro vs w1 w2 ⟨hr, xs, a, l, c, rfl, hb, hx, hn, hz⟩ hm
      obtain ⟨h1, r, h2⟩ := hrb w1 (.inl hr)
      exact ⟨hrs w1 w2 hr (by rw [hm.at' h1, h1]) (by rw [hm.at' h2, h2]), xs, a, l, c, rfl, hm.at' hb, hx.no hm, hn, Nat.le_trans hz hm.size⟩
    · rintro vs w1 w2 b o ⟨hr, xs, a, l, c, rfl, hb, hx, hn, hz⟩ hbo hit hm
      obtain ⟨h1, r, h2⟩ := hrb w1 (.inl hr)
      have hne : ∀ k o', w1.heap[k]? = some o' → isIt o' = false → ¬ on b k := by
        intro k o' hk hf e
        cases e
        rw [hbo] at hk
        cases hk
        rw [hit] at hf
        cases hf
      refine ⟨hrs w1 w2 hr (by rw [hm.at h1 (hne _ _ h1 rfl), h1]) (by rw [hm.at h2 (hne _ _ h2 rfl), h2]), xs, a, l, c, rfl, hm.at hb (hne _ _ hb rfl), hx.mod hm ?_, hn, Nat.le_trans hz hm.size⟩
      intro k hk2
      rcases Row.block hx with ⟨h0, _⟩ | ⟨g, cur, h0, hg, _⟩
      · subst h0; cases hk2
      · subst h0; cases hk2; exact hne _ _ hg rfl
  refine hseq.2 (Got w Rdy) _ w1 _ (Kp.of_no (m0.trans m1)) hstab ⟨hr1, [], none, 0, 0, rfl, b1, Row.empty _ _ _, (fun k hk => by cases hk), by omega⟩ ?_ ?_
  · rintro pre v w2 hk2 ⟨hr2, xs, a, l, c, rfl, hb2, hx2, hn2, hz2⟩ hlen ⟨x, rfl⟩ R' hR'
    refine (hy (.agg ⟨(excL).cs x⟩) w2 (fun w3 => R' (.bool true) w3) hr2 ?_).mono fun v w3 ⟨hv, hR⟩ => by rw [hv]; exact hR
    intro w5 e5
    have n5 : Mod no w2 w5 := by subst e5; exact Mod.alloc _ _
    have b5 : w5.heap[w2.heap.size]? = some (.cells ([Value.string (ByteArray.mk #[]), Value.int .i64 0, Value.bool false]).toArray 33 (0, 0)) := by subst e5; exact new_at _ _
    clear e5
    refine (stCells_var (vs := (excL).cs x) b5 rfl (fun v hv => (excL).one x v hv) fun wx nx bx => ?_ : stCells _ _ _ _ _)
    have n2x : Mod no w2 wx := n5.new nx fun k hk => by cases hk; exact Nat.le_refl _
    obtain ⟨g1, r, g2⟩ := hrb w2 (.inl hr2)
    refine ⟨hrs w2 wx hr2 (by rw [n2x.at' g1, g1]) (by rw [n2x.at' g2, g2]), fun w6 hbz m6 s6 => ?_⟩
    have hz5 := lt_of_heap bx
    have m26 : Mod (on (w0.heap.size + 1)) w2 w6 := n2x.no_trans m6
    have b6 := m26.at hb2 (show ¬ w.heap.size = w0.heap.size + 1 by omega)
    have v6 := m6.at bx (show ¬ w2.heap.size = w0.heap.size + 1 by omega)
    have x6 : Rx excL 33 w6 a l c xs := hx2.mod m26 fun k hk hS => by cases hS; have := hn2 _ hk; omega
    have hxl := x6.len.1
    have hpl : (aggs xs).length = xs.length := List.length_map ..
    refine ⟨a, l, c, by rw [cl b6]; rfl, _, by rw [cl1 v6]; rfl, _, by rw [cl1 v6]; rfl, _, by rw [cl1 v6]; rfl, ?_⟩
    intro w10 e10
    have m10 : Mod no w6 w10 := by subst e10; exact Mod.alloc _ _
    have b10 : w10.heap[w6.heap.size]? = some (.cells ((excL).cs x).toArray 33 (0, 0)) := by subst e10; exact new_at _ _
    clear e10
    obtain ⟨a', c', w12, hrun, x12, m12, hnew⟩ := Row.push (P := Tryz.prog) (t := 26) (ty := 26) (by kernel_rfl) (x6.no m10) (b := some ⟨w6.heap.size, 0, none⟩) (m := 1) (cc := 1) (ys := [x]) rfl
      (fun ad had j v hj => by cases had; rw [cl1 b10]; simpa using hj) (fun h => by cases h) (by omega)
    have hbox : ¬ rowB a w.heap.size := fun hk => by have := hn2 _ hk; omega
    have b12 := m12.at (m10.at' b6) hbox
    refine ⟨_, w12, hrun, _, _, _, rfl, ⟨_, by rw [cl1 b12]; rfl⟩, fz1 b12 _, ?_⟩
    intro w17 e17
    have m17 : Mod (on w.heap.size) w12 w17 := by subst e17; exact Mod.set1 _ _ _ _
    have b17 : w17.heap[w.heap.size]? = some (.cells #[.slice a' (l + 1) c'] 26 (0, 0)) := by subst e17; rw [set1 b12]; rfl
    clear e17
    have hs6 := m26.size
    have hs10 := m10.size
    have hnew' : ∀ k, rowB a' k → w.heap.size + 3 ≤ k := fun k hk => (hnew k hk).elim (hn2 k) fun h => by omega
    have x17 : Rx excL 33 w17 a' (l + 1) c' (xs ++ [x]) := Rx.mod x12 m17 fun k hk e => by cases e; have := hnew' _ hk; omega
    have mA : Mod (fun k => rowB a k ∨ k = w.heap.size) w6 w17 := (m10.no_trans (m12.mono fun k _ hk => .inl hk)).trans' m17 fun k _ hk => .inr hk
    obtain ⟨h1, r', h2⟩ := hrb w6 (.inr hbz)
    have k1 : ¬ (rowB a w0.heap.size ∨ w0.heap.size = w.heap.size) := fun h => h.elim (fun h => by have := hn2 _ h; omega) (by omega)
    have k2 : ¬ (rowB a (w0.heap.size + 1) ∨ w0.heap.size + 1 = w.heap.size) := fun h => h.elim (fun h => by have := hn2 _ h; omega) (by omega)
    refine ⟨hbs w6 w17 hbz (by rw [mA.at h1 k1, h1]) (by rw [mA.at h2 k2, h2]), fun w3 hr3 m3 s3 => hR' w3 ?_ ?_⟩
    · have mB : Mod (fun k => k = w0.heap.size + 1 ∨ (rowB a k ∨ k = w.heap.size)) w2 w3 := ((m26.mono fun k _ hk => .inl hk).trans' mA fun k _ hk => .inr hk).trans' m3 fun k _ hk => .inl hk
      refine Kp.of_mod mB fun k o ho hk hS => ?_
      rcases hS with rfl | hS | rfl
      · rw [g2] at ho
        cases ho
        rcases hk with hk | hk
        · omega
        · cases hk
      · have := hn2 _ hS
        rcases hk with hk | hk
        · omega
        rcases Row.block hx2 with ⟨h0, _⟩ | ⟨g, cur, h0, hg, _⟩
        · subst h0; cases hS
        · subst h0
          cases hS
          rw [hg] at ho
          cases ho
          cases hk
      · rw [hb2] at ho
        cases ho
        rcases hk with hk | hk
        · omega
        · cases hk
    · refine ⟨hr3, xs ++ [x], a', l + 1, c', by simp [aggs], m3.at b17 (show ¬ w.heap.size = w0.heap.size + 1 by omega), x17.mod m3 fun k hk hS => by cases hS; have := hnew' _ hk; omega, hnew', ?_⟩
      have := mA.size
      omega
  · rintro w2 vs hS ⟨hr2, xs, a, l, c, rfl, hb2, hx2, hn2, hz2⟩ hk2
    refine ⟨hr2, fun w3 m3 s3 hd3 => ?_⟩
    have b3 := m3.at hb2 (by omega)
    have x3 : Rx excL 33 w3 a l c xs := hx2.mod m3 fun k hk hS => by have := hn2 _ hk; omega
    refine ⟨a, l, c, by rw [cl b3]; rfl, hd3, ?_⟩
    intro w4 e4
    have m4 : Mod (on w0.heap.size) w3 w4 := by subst e4; exact Mod.putObj _ _ _
    refine h w4 a l c xs hS (x3.mod m4 fun k hk hS => by cases hS; have := hn2 _ hk; omega) ?_ fun k hk => by have := hn2 _ hk; omega
    exact (hk2.mod.new m3 fun k hS => by omega).new m4 fun k hS => by cases hS; omega
end Go.Proofs.YtehhhkcemmfjpaaGreatDoor.SeqX

/- The library's AppendSeq, Collect: of structs of three cells. Bnd, bndL: their values; 35, 27: their type, and their row's. -/
namespace Go.Proofs.YtehhhkcemmfjpaaGreatDoor.SeqB
open Go Go.Proofs.YtehhhkcemmfjpaaGreatDoor Go.Proofs.YtehhhkcemmfjpaaGreatDoor.St

abbrev aggs (xs : List Bnd) : List Value := xs.map fun x => .agg ⟨(bndL).cs x⟩
/-- What AppendSeq has gathered: in a box that is the block w.heap.size, in a row of its own. -/
def Got (w : World) (Rdy : World → Prop) (vs : List Value) (w' : World) : Prop :=
  Rdy w' ∧ ∃ (xs : List Bnd) (a : Option Addr) (l c : Nat), vs = aggs xs ∧ w'.heap[w.heap.size]? = some (.cells #[.slice a l c] 27 (0, 0)) ∧ Rx bndL 35 w' a l c xs ∧ (∀ k, rowB a k → w.heap.size + 3 ≤ k) ∧ w.heap.size + 3 ≤ w'.heap.size
theorem appendSeq_ok (seq : Value) (N : Nat) (S : List Value → Prop) (w : World) (hN : N ≤ 1099511627775) (hseq : SeqOf Tryz.prog seq w.heap.size w N (fun v => ∃ x : Bnd, v = .agg ⟨(bndL).cs x⟩) S) (R : Value → World → Prop)
    (h : ∀ w' a l c xs, S (aggs xs) → Rx bndL 35 w' a l c xs → Mod no w w' → (∀ k, rowB a k → w.heap.size < k) → R (.slice a l c) w') :
    Ca Tryz.prog 101 #[.slice none 0 0, seq] w R := by
  refine ca101 none 0 0 seq w R ?_
  intro w0 e0
  have m0 : Mod no w w0 := by subst e0; exact Mod.alloc _ _
  have b0 : w0.heap[w.heap.size]? = some (.cells #[.slice none 0 0] 27 (0, 0)) := by subst e0; exact new_at _ _
  have s0 : w0.heap.size = w.heap.size + 1 := by subst e0; simp
  clear e0
  refine ⟨hseq.1, ?_⟩
  intro Rdy Bsy hrs hbs hrb w1 m1 s1 hr1 hy
  have b1 := Mod.at' m1 b0
  have hstab : Stab (Got w Rdy) := by
    constructor
    · rintro vs w1 w2 ⟨hr, xs, a, l, c, rfl, hb, hx, hn, hz⟩ hm
      obtain ⟨h1, r, h2⟩ := hrb w1 (.inl hr)
      exact ⟨hrs w1 w2 hr (by rw [hm.at' h1, h1]) (by rw [hm.at' h2, h2]), xs, a, l, c, rfl, hm.at' hb, hx.no hm, hn, Nat.le_trans hz hm.size⟩
    · rintro vs w1 w2 b o ⟨hr, xs, a, l, c, rfl, hb, hx, hn, hz⟩ hbo hit hm
      obtain ⟨h1, r, h2⟩ := hrb w1 (.inl hr)
      have hne : ∀ k o', w1.heap[k]? = some o' → isIt o' = false → ¬ on b k := by
        intro k o' hk hf e
        cases e
        rw [hbo] at hk
        cases hk
        rw [hit] at hf
        cases hf
      refine ⟨hrs w1 w2 hr (by rw [hm.at h1 (hne _ _ h1 rfl), h1]) (by rw [hm.at h2 (hne _ _ h2 rfl), h2]), xs, a, l, c, rfl, hm.at hb (hne _ _ hb rfl), hx.mod hm ?_, hn, Nat.le_trans hz hm.size⟩
      intro k hk2
      rcases Row.block hx with ⟨h0, _⟩ | ⟨g, cur, h0, hg, _⟩
      · subst h0; cases hk2
      · subst h0; cases hk2; exact hne _ _ hg rfl
  refine hseq.2 (Got w Rdy) _ w1 _ (Kp.of_no (m0.trans m1)) hstab ⟨hr1, [], none, 0, 0, rfl, b1, Row.empty _ _ _, (fun k hk => by cases hk), by omega⟩ ?_ ?_
  · rintro pre v w2 hk2 ⟨hr2, xs, a, l, c, rfl, hb2, hx2, hn2, hz2⟩ hlen ⟨x, rfl⟩ R' hR'
    refine (hy (.agg ⟨(bndL).cs x⟩) w2 (fun w3 => R' (.bool true) w3) hr2 ?_).mono fun v w3 ⟨hv, hR⟩ => by rw [hv]; exact hR
    intro w5 e5
    have n5 : Mod no w2 w5 := by subst e5; exact Mod.alloc _ _
    have b5 : w5.heap[w2.heap.size]? = some (.cells ([Value.string (ByteArray.mk #[]), Value.string (ByteArray.mk #[]), Value.string (ByteArray.mk #[])]).toArray 35 (0, 0)) := by subst e5; exact new_at _ _
    clear e5
    refine (stCells_var (vs := (bndL).cs x) b5 rfl (fun v hv => (bndL).one x v hv) fun wx nx bx => ?_ : stCells _ _ _ _ _)
    have n2x : Mod no w2 wx := n5.new nx fun k hk => by cases hk; exact Nat.le_refl _
    obtain ⟨g1, r, g2⟩ := hrb w2 (.inl hr2)
    refine ⟨hrs w2 wx hr2 (by rw [n2x.at' g1, g1]) (by rw [n2x.at' g2, g2]), fun w6 hbz m6 s6 => ?_⟩
    have hz5 := lt_of_heap bx
    have m26 : Mod (on (w0.heap.size + 1)) w2 w6 := n2x.no_trans m6
    have b6 := m26.at hb2 (show ¬ w.heap.size = w0.heap.size + 1 by omega)
    have v6 := m6.at bx (show ¬ w2.heap.size = w0.heap.size + 1 by omega)
    have x6 : Rx bndL 35 w6 a l c xs := hx2.mod m26 fun k hk hS => by cases hS; have := hn2 _ hk; omega
    have hxl := x6.len.1
    have hpl : (aggs xs).length = xs.length := List.length_map ..
    refine ⟨a, l, c, by rw [cl b6]; rfl, _, by rw [cl1 v6]; rfl, _, by rw [cl1 v6]; rfl, _, by rw [cl1 v6]; rfl, ?_⟩
    intro w10 e10
    have m10 : Mod no w6 w10 := by subst e10; exact Mod.alloc _ _
    have b10 : w10.heap[w6.heap.size]? = some (.cells ((bndL).cs x).toArray 35 (0, 0)) := by subst e10; exact new_at _ _
    clear e10
    obtain ⟨a', c', w12, hrun, x12, m12, hnew⟩ := Row.push (P := Tryz.prog) (t := 27) (ty := 27) (by kernel_rfl) (x6.no m10) (b := some ⟨w6.heap.size, 0, none⟩) (m := 1) (cc := 1) (ys := [x]) rfl
      (fun ad had j v hj => by cases had; rw [cl1 b10]; simpa using hj) (fun h => by cases h) (by omega)
    have hbox : ¬ rowB a w.heap.size := fun hk => by have := hn2 _ hk; omega
    have b12 := m12.at (m10.at' b6) hbox
    refine ⟨_, w12, hrun, _, _, _, rfl, ⟨_, by rw [cl1 b12]; rfl⟩, fz1 b12 _, ?_⟩
    intro w17 e17
    have m17 : Mod (on w.heap.size) w12 w17 := by subst e17; exact Mod.set1 _ _ _ _
    have b17 : w17.heap[w.heap.size]? = some (.cells #[.slice a' (l + 1) c'] 27 (0, 0)) := by subst e17; rw [set1 b12]; rfl
    clear e17
    have hs6 := m26.size
    have hs10 := m10.size
    have hnew' : ∀ k, rowB a' k → w.heap.size + 3 ≤ k := fun k hk => (hnew k hk).elim (hn2 k) fun h => by omega
    have x17 : Rx bndL 35 w17 a' (l + 1) c' (xs ++ [x]) := Rx.mod x12 m17 fun k hk e => by cases e; have := hnew' _ hk; omega
    have mA : Mod (fun k => rowB a k ∨ k = w.heap.size) w6 w17 := (m10.no_trans (m12.mono fun k _ hk => .inl hk)).trans' m17 fun k _ hk => .inr hk
    obtain ⟨h1, r', h2⟩ := hrb w6 (.inr hbz)
    have k1 : ¬ (rowB a w0.heap.size ∨ w0.heap.size = w.heap.size) := fun h => h.elim (fun h => by have := hn2 _ h; omega) (by omega)
    have k2 : ¬ (rowB a (w0.heap.size + 1) ∨ w0.heap.size + 1 = w.heap.size) := fun h => h.elim (fun h => by have := hn2 _ h; omega) (by omega)
    refine ⟨hbs w6 w17 hbz (by rw [mA.at h1 k1, h1]) (by rw [mA.at h2 k2, h2]), fun w3 hr3 m3 s3 => hR' w3 ?_ ?_⟩
    · have mB : Mod (fun k => k = w0.heap.size + 1 ∨ (rowB a k ∨ k = w.heap.size)) w2 w3 := ((m26.mono fun k _ hk => .inl hk).trans' mA fun k _ hk => .inr hk).trans' m3 fun k _ hk => .inl hk
      refine Kp.of_mod mB fun k o ho hk hS => ?_
      rcases hS with rfl | hS | rfl
      · rw [g2] at ho
        cases ho
        rcases hk with hk | hk
        · omega
        · cases hk
      · have := hn2 _ hS
        rcases hk with hk | hk
        · omega
        rcases Row.block hx2 with ⟨h0, _⟩ | ⟨g, cur, h0, hg, _⟩
        · subst h0; cases hS
        · subst h0
          cases hS
          rw [hg] at ho
          cases ho
          cases hk
      · rw [hb2] at ho
        cases ho
        rcases hk with hk | hk
        · omega
        · cases hk
    · refine ⟨hr3, xs ++ [x], a', l + 1, c', by simp [aggs], m3.at b17 (show ¬ w.heap.size = w0.heap.size + 1 by omega), x17.mod m3 fun k hk hS => by cases hS; have := hnew' _ hk; omega, hnew', ?_⟩
      have := mA.size
      omega
  · rintro w2 vs hS ⟨hr2, xs, a, l, c, rfl, hb2, hx2, hn2, hz2⟩ hk2
    refine ⟨hr2, fun w3 m3 s3 hd3 => ?_⟩
    have b3 := m3.at hb2 (by omega)
    have x3 : Rx bndL 35 w3 a l c xs := hx2.mod m3 fun k hk hS => by have := hn2 _ hk; omega
    refine ⟨a, l, c, by rw [cl b3]; rfl, hd3, ?_⟩
    intro w4 e4
    have m4 : Mod (on w0.heap.size) w3 w4 := by subst e4; exact Mod.putObj _ _ _
    refine h w4 a l c xs hS (x3.mod m4 fun k hk hS => by cases hS; have := hn2 _ hk; omega) ?_ fun k hk => by have := hn2 _ hk; omega
    exact (hk2.mod.new m3 fun k hS => by omega).new m4 fun k hS => by cases hS; omega
end Go.Proofs.YtehhhkcemmfjpaaGreatDoor.SeqB

/- The table's Exchanges and Bindings: sorted. -/
namespace Go.Proofs.YtehhhkcemmfjpaaGreatDoor
open Go Go.Proofs.YtehhhkcemmfjpaaGreatDoor Go.Proofs.YtehhhkcemmfjpaaGreatDoor.St

/-- The entries of a map, handed out one by one. -/
theorem values_seq (B : Nat) (w0 : World) (bx m : Nat) (t : TypeId) (D : List Exc) (hbx : w0.heap[bx]? = some (.cells #[.map (some m)] t (0, 0))) (hB : bx < B) (hm : XMap w0 m D) (hmB : m < B) (N : Nat) (hN : D.length ≤ N) :
    SeqOf Tryz.prog (.func (.func 77) #[] #[.pointer (some ⟨bx, 0, none⟩)]) B w0 N (fun v => ∃ x : Exc, v = .agg ⟨excL.cs x⟩) (fun xs => xs.Perm (SeqX.aggs D)) := by
  refine ⟨⟨_, _, _, rfl⟩, ?_⟩
  intro J y w R hk hst hJ hy hend
  refine (ca77 y (some ⟨bx, 0, none⟩) w R ?_ : Ca _ _ _ _ _)
  obtain ⟨es, clock, hes, hkv, hn, hc⟩ := hm
  have hes' := hk.old m _ hes (.inl hmB)
  refine ⟨some m, by rw [cl (hk.old bx _ hbx (.inl hB))]; rfl, es, clock, hes', ?_⟩
  intro w3 e3
  have m3 : Mod no w w3 := by subst e3; exact Mod.alloc _ _
  have b3 : w3.heap[w.heap.size]? = some (.mapIter (some m) clock #[] clock) := by subst e3; exact new_at _ _
  clear e3
  have hlen : D.length = es.toList.length := by
    have := congrArg List.length hkv
    simpa [kvL, exL] using this.symm
  have hkeys : es.toList.map (·.val) = SeqX.aggs D := by
    have := congrArg (List.map Prod.snd) hkv
    rw [List.map_map, kvL, exL, List.map_map, List.map_map] at this
    exact this
  have hkey : ∀ e ∈ es.toList, ∃ x : Exc, e.val = .agg ⟨excL.cs x⟩ := by
    intro e he
    have : e.val ∈ SeqX.aggs D := by rw [← hkeys]; exact List.mem_map_of_mem he
    obtain ⟨p, _, hp⟩ := List.mem_map.1 this
    exact ⟨p, hp.symm⟩
  refine ⟨fun w' => ∃ (seen : Array Nat) (c0 : Nat) (got : List MapEntry), w'.heap[w.heap.size]? = some (.mapIter (some m) clock seen c0) ∧ clock ≤ c0 ∧ (got ++ (leftOf es seen).toList).Perm es.toList ∧ J (got.map (·.val)) w' ∧ Kp B w0 w',
    fun w' => match w'.heap[w.heap.size]? with | some (.mapIter _ _ seen _) => (leftOf es seen).size | _ => 0, ⟨#[], clock, [], b3, Nat.le_refl _, by simp only [leftOf, Array.toList_filter, List.nil_append]; exact .of_eq (List.filter_eq_self.2 (by simp)), hst.1 _ _ _ hJ m3, hk.trans (Kp.of_no m3)⟩, ?_⟩
  rintro _ w7 ⟨seen, c0, got, hit, hcc, hperm, hJ7, hk7⟩
  have hm7 := hk7.old m _ hes (.inl hmB)
  rcases next_at (P := Tryz.prog) (ty := 0) hit hm7 hc hcc with ⟨h0, hrun⟩ | ⟨e, he, w8, hrun, m8, hit8⟩
  · refine ⟨_, w7, hrun, .inl ⟨rfl, hend w7 _ ?_ hJ7 hk7⟩⟩
    have : (leftOf es seen).toList = [] := List.eq_nil_of_length_eq_zero (by simpa using h0)
    rw [this, List.append_nil] at hperm
    rw [← hkeys]
    exact hperm.map _
  · refine ⟨_, w8, hrun, .inr ⟨_, _, rfl, ?_⟩⟩
    have hmem := (mem_left he).1
    have hk8 : Kp B w0 w8 := by
      refine ⟨m8.os.trans hk7.os, m8.tape.trans hk7.tape, m8.output.trans hk7.output, Nat.le_trans hk7.size m8.size, fun k o ho hko => m8.at (hk7.old k o ho hko) fun hS => ?_⟩
      cases hS
      have := lt_of_heap ho
      have := hk.size
      omega
    have hm8 := hk8.old m _ hes (.inl hmB)
    refine ⟨e.key, e.val, entry_at hit8 hm8 hmem hn, ?_⟩
    obtain ⟨x, hkk⟩ := hkey e hmem
    rw [hkk]
    have hJ8 := hst.2 _ _ _ _ _ hJ7 hit rfl m8
    have hll : got.length < D.length := by
      have h1 := hperm.length_eq
      have h2 : 0 < (leftOf es seen).toList.length := List.length_pos_of_mem he
      rw [List.length_append] at h1
      omega
    intro w11 e11
    have m11 : Mod no w8 w11 := by subst e11; exact Mod.alloc _ _
    have b11 : w11.heap[w8.heap.size]? = some (.cells [Value.string (ByteArray.mk #[]), Value.int .i64 0, Value.bool false].toArray 33 (0, 0)) := by subst e11; exact new_at _ _
    clear e11
    refine (stCells_var (vs := excL.cs x) b11 rfl (fun v hv => excL.one x v hv) fun w13 m13 b13 => ?_ : stCells _ _ _ _ _)
    have m813 : Mod no w8 w13 := m11.new m13 fun k hk => by cases hk; exact Nat.le_refl _
    refine ⟨_, by rw [cl1 b13]; rfl, _, by rw [cl1 b13]; rfl, _, by rw [cl1 b13]; rfl, ?_⟩
    refine hy _ (.agg ⟨excL.cs x⟩) w13 (hk8.trans (Kp.of_no m813)) (hst.1 _ _ _ hJ8 m813) (by simpa using (by omega : got.length < N)) ⟨x, rfl⟩ _ fun w15 hk15 hJ15 => ⟨true, rfl, ?_⟩
    refine ifK_of (fun h => by cases h) fun _ => ?_
    have hit15 := hk15.old _ _ (m813.at' hit8) (.inr rfl)
    refine ⟨⟨seen.push e.born, clock, got ++ [e], hit15, Nat.le_refl _, ?_, by rw [List.map_append]; simpa [hkk] using hJ15, (hk8.trans (Kp.of_no m813)).trans hk15⟩, ?_⟩
    · rw [List.append_assoc]
      exact ((List.Perm.append_left got (left_perm hn he)).symm).trans hperm
    · simp only [hit15, hit]
      exact left_shrinks es seen e he
/-- The entries of a map, handed out one by one. -/
theorem bkeys_seq (B : Nat) (w0 : World) (bx m : Nat) (t : TypeId) (D : List Bnd) (hbx : w0.heap[bx]? = some (.cells #[.map (some m)] t (0, 0))) (hB : bx < B) (hm : BMap w0 m D) (hmB : m < B) (N : Nat) (hN : D.length ≤ N) :
    SeqOf Tryz.prog (.func (.func 81) #[] #[.pointer (some ⟨bx, 0, none⟩)]) B w0 N (fun v => ∃ x : Bnd, v = .agg ⟨bndL.cs x⟩) (fun xs => xs.Perm (SeqB.aggs D)) := by
  refine ⟨⟨_, _, _, rfl⟩, ?_⟩
  intro J y w R hk hst hJ hy hend
  refine (ca81 y (some ⟨bx, 0, none⟩) w R ?_ : Ca _ _ _ _ _)
  obtain ⟨es, clock, hes, hkv, hn, hc⟩ := hm
  have hes' := hk.old m _ hes (.inl hmB)
  refine ⟨some m, by rw [cl (hk.old bx _ hbx (.inl hB))]; rfl, es, clock, hes', ?_⟩
  intro w3 e3
  have m3 : Mod no w w3 := by subst e3; exact Mod.alloc _ _
  have b3 : w3.heap[w.heap.size]? = some (.mapIter (some m) clock #[] clock) := by subst e3; exact new_at _ _
  clear e3
  have hlen : D.length = es.toList.length := by
    have := congrArg List.length hkv
    simpa [kvL, bnL] using this.symm
  have hkeys : es.toList.map (·.key) = SeqB.aggs D := by
    have := congrArg (List.map Prod.fst) hkv
    rw [List.map_map, kvL, bnL, List.map_map, List.map_map] at this
    exact this
  have hkey : ∀ e ∈ es.toList, ∃ x : Bnd, e.key = .agg ⟨bndL.cs x⟩ := by
    intro e he
    have : e.key ∈ SeqB.aggs D := by rw [← hkeys]; exact List.mem_map_of_mem he
    obtain ⟨p, _, hp⟩ := List.mem_map.1 this
    exact ⟨p, hp.symm⟩
  refine ⟨fun w' => ∃ (seen : Array Nat) (c0 : Nat) (got : List MapEntry), w'.heap[w.heap.size]? = some (.mapIter (some m) clock seen c0) ∧ clock ≤ c0 ∧ (got ++ (leftOf es seen).toList).Perm es.toList ∧ J (got.map (·.key)) w' ∧ Kp B w0 w',
    fun w' => match w'.heap[w.heap.size]? with | some (.mapIter _ _ seen _) => (leftOf es seen).size | _ => 0, ⟨#[], clock, [], b3, Nat.le_refl _, by simp only [leftOf, Array.toList_filter, List.nil_append]; exact .of_eq (List.filter_eq_self.2 (by simp)), hst.1 _ _ _ hJ m3, hk.trans (Kp.of_no m3)⟩, ?_⟩
  rintro _ w7 ⟨seen, c0, got, hit, hcc, hperm, hJ7, hk7⟩
  have hm7 := hk7.old m _ hes (.inl hmB)
  rcases next_at (P := Tryz.prog) (ty := 0) hit hm7 hc hcc with ⟨h0, hrun⟩ | ⟨e, he, w8, hrun, m8, hit8⟩
  · refine ⟨_, w7, hrun, .inl ⟨rfl, hend w7 _ ?_ hJ7 hk7⟩⟩
    have : (leftOf es seen).toList = [] := List.eq_nil_of_length_eq_zero (by simpa using h0)
    rw [this, List.append_nil] at hperm
    rw [← hkeys]
    exact hperm.map _
  · refine ⟨_, w8, hrun, .inr ⟨_, _, rfl, ?_⟩⟩
    have hmem := (mem_left he).1
    have hk8 : Kp B w0 w8 := by
      refine ⟨m8.os.trans hk7.os, m8.tape.trans hk7.tape, m8.output.trans hk7.output, Nat.le_trans hk7.size m8.size, fun k o ho hko => m8.at (hk7.old k o ho hko) fun hS => ?_⟩
      cases hS
      have := lt_of_heap ho
      have := hk.size
      omega
    have hm8 := hk8.old m _ hes (.inl hmB)
    refine ⟨e.key, e.val, entry_at hit8 hm8 hmem hn, ?_⟩
    obtain ⟨x, hkk⟩ := hkey e hmem
    rw [hkk]
    have hJ8 := hst.2 _ _ _ _ _ hJ7 hit rfl m8
    have hll : got.length < D.length := by
      have h1 := hperm.length_eq
      have h2 : 0 < (leftOf es seen).toList.length := List.length_pos_of_mem he
      rw [List.length_append] at h1
      omega
    intro w11 e11
    have m11 : Mod no w8 w11 := by subst e11; exact Mod.alloc _ _
    have b11 : w11.heap[w8.heap.size]? = some (.cells [Value.string (ByteArray.mk #[]), Value.string (ByteArray.mk #[]), Value.string (ByteArray.mk #[])].toArray 35 (0, 0)) := by subst e11; exact new_at _ _
    clear e11
    refine (stCells_var (vs := bndL.cs x) b11 rfl (fun v hv => bndL.one x v hv) fun w13 m13 b13 => ?_ : stCells _ _ _ _ _)
    have m813 : Mod no w8 w13 := m11.new m13 fun k hk => by cases hk; exact Nat.le_refl _
    refine ⟨_, by rw [cl1 b13]; rfl, _, by rw [cl1 b13]; rfl, _, by rw [cl1 b13]; rfl, ?_⟩
    refine hy _ (.agg ⟨bndL.cs x⟩) w13 (hk8.trans (Kp.of_no m813)) (hst.1 _ _ _ hJ8 m813) (by simpa using (by omega : got.length < N)) ⟨x, rfl⟩ _ fun w15 hk15 hJ15 => ⟨true, rfl, ?_⟩
    refine ifK_of (fun h => by cases h) fun _ => ?_
    have hit15 := hk15.old _ _ (m813.at' hit8) (.inr rfl)
    refine ⟨⟨seen.push e.born, clock, got ++ [e], hit15, Nat.le_refl _, ?_, by rw [List.map_append]; simpa [hkk] using hJ15, (hk8.trans (Kp.of_no m813)).trans hk15⟩, ?_⟩
    · rw [List.append_assoc]
      exact ((List.Perm.append_left got (left_perm hn he)).symm).trans hperm
    · simp only [hit15, hit]
      exact left_shrinks es seen e he

theorem perm_of {α β : Type} (f : α → β) (g : β → α) (hg : ∀ x, g (f x) = x) {xs ys : List α} (h : (xs.map f).Perm (ys.map f)) : xs.Perm ys := by
  have := h.map g
  rw [List.map_map, List.map_map, show g ∘ f = id from funext hg, List.map_id, List.map_id] at this
  exact this
def ke : Value → Exc
  | .agg ⟨[.string a, .int .i64 b, .bool c]⟩ => ⟨a, b, c⟩
  | _ => default
section
variable {w : World} {t m1 m2 : Nat} {D : List Exc} {B : List Bnd} (hT : Tbl w t m1 m2 D B)
include hT
theorem exchanges_ok (hl : D.length < 1000000000) (R : Value → World → Prop) (h : ∀ w' a l c xs, Rx excL 33 w' a l c xs → xs.Perm D → Srt xs 0 l → Mod no w w' → (∀ k, rowB a k → w.heap.size ≤ k) → R (.slice a l c) w') :
    Ca Tryz.prog 15 #[.pointer (some ⟨t, 0, none⟩)] w R := by
  refine ca15 (some ⟨t, 0, none⟩) w R ?_
  refine made_ok hT _ ⟨true, rfl, ifK_of (fun h => by cases h) fun _ => ?_⟩
  refine ⟨some m1, by rw [cl1 hT.cell]; rfl, ?_⟩
  refine ca46 (some m1) w _ ?_
  intro w1 e1
  have n1 : Mod no w w1 := by subst e1; exact Mod.alloc _ _
  have b1 : ∃ t, w1.heap[w.heap.size]? = some (.cells #[.map (some m1)] t (0, 0)) := by subst e1; exact ⟨_, new_at _ _⟩
  have s1 : w1.heap.size = w.heap.size + 1 := by subst e1; simp
  clear e1
  obtain ⟨t1, b1⟩ := b1
  have hT1 := hT.no n1
  have hm1 : m1 < w.heap.size := by obtain ⟨_, _, hh, _⟩ := hT.x; exact lt_of_heap hh
  refine ⟨_, rfl, ?_⟩
  refine ca45 _ _ w1 _ ?_
  refine ca75 _ w1 _ ?_
  refine SeqX.appendSeq_ok _ D.length _ w1 (by omega) (values_seq w1.heap.size w1 w.heap.size m1 t1 D b1 (by omega) hT1.x (by omega) D.length (Nat.le_refl _)) _ ?_
  intro w2 a l c xs hp hx n2 hn
  have hp : xs.Perm D := perm_of _ ke (fun _ => rfl) hp
  have hxl := hx.len.1
  have hpl := hp.length_eq
  refine ⟨a, l, c, rfl, a, l, c, rfl, ?_⟩
  refine SrtX.sort_ok _ cmpX a l c xs w2 hx (by omega) _ fun w3 ys hy hyp hsrt n3 => ⟨rfl, a, l, c, rfl, ?_⟩
  exact h w3 a l c ys hy (hyp.trans hp) hsrt (n1.trans (n2.new n3 fun k hk => by have := hn k hk; omega)) fun k hk => by have := hn k hk; omega
theorem bindings_ok (hl : B.length < 1000000000) (R : Value → World → Prop) (h : ∀ w' a l c xs, Rx bndL 35 w' a l c xs → xs.Perm B → Srt xs 0 l → Mod no w w' → (∀ k, rowB a k → w.heap.size ≤ k) → R (.slice a l c) w') :
    Ca Tryz.prog 16 #[.pointer (some ⟨t, 0, none⟩)] w R := by
  refine ca16 (some ⟨t, 0, none⟩) w R ?_
  refine made_ok hT _ ⟨true, rfl, ifK_of (fun h => by cases h) fun _ => ?_⟩
  refine ⟨some m2, by rw [cl1 hT.cell]; rfl, ?_⟩
  refine ca50 (some m2) w _ ?_
  intro w1 e1
  have n1 : Mod no w w1 := by subst e1; exact Mod.alloc _ _
  have b1 : ∃ t, w1.heap[w.heap.size]? = some (.cells #[.map (some m2)] t (0, 0)) := by subst e1; exact ⟨_, new_at _ _⟩
  have s1 : w1.heap.size = w.heap.size + 1 := by subst e1; simp
  clear e1
  obtain ⟨t1, b1⟩ := b1
  have hT1 := hT.no n1
  have hm1 : m2 < w.heap.size := by obtain ⟨_, _, hh, _⟩ := hT.b; exact lt_of_heap hh
  refine ⟨_, rfl, ?_⟩
  refine ca49 _ _ w1 _ ?_
  refine ca79 _ w1 _ ?_
  refine SeqB.appendSeq_ok _ B.length _ w1 (by omega) (bkeys_seq w1.heap.size w1 w.heap.size m2 t1 B b1 (by omega) hT1.b (by omega) B.length (Nat.le_refl _)) _ ?_
  intro w2 a l c xs hp hx n2 hn
  have hp : xs.Perm B := perm_of _ kb (fun _ => rfl) hp
  have hxl := hx.len.1
  have hpl := hp.length_eq
  refine ⟨a, l, c, rfl, a, l, c, rfl, ?_⟩
  refine SrtB.sort_ok _ cmpB a l c xs w2 hx (by omega) _ fun w3 ys hy hyp hsrt n3 => ⟨rfl, a, l, c, rfl, ?_⟩
  exact h w3 a l c ys hy (hyp.trans hp) hsrt (n1.trans (n2.new n3 fun k hk => by have := hn k hk; omega)) fun k hk => by have := hn k hk; omega
end
end Go.Proofs.YtehhhkcemmfjpaaGreatDoor

/- The formulas of functions, printed by a program of mine (gen.py) out of the translation. -/
namespace Go.Proofs.YtehhhkcemmfjpaaGreatDoor
open Go Go.Proofs.YtehhhkcemmfjpaaGreatDoor.St
open _root_.Go.Value (string int bool slice pointer agg tuple map func nilFunc iface)
open _root_.Go.World (cell? frozen? setCell alloc drew)
open _root_.Go.Addr (add)
open _root_.Go.Obj (cells)
open _root_.Go.IntKind (wrap i64 u64 i32 u32 u8)
set_option maxRecDepth 100000

/-- (*staith/bind.Table).Copy -/
noncomputable def C19 : Code := (Tryz.f19.body).getD .skip
def pl19 : Nat → Plan
  | 3 => (.quiet 0 (.quiet 1 (.quiet 2 (.quiet 3 (.quiet 5 (.quiet 6 (.quiet 7 (.quiet 8 (.eff 4 [8] (.eff 9 [] (.quiet 10 (.eff 11 [] (.quiet 12 .done)))))))))))))
  | _ => .done
def ls19 : Nat → List (Nat × LT) := fun _ => []
def W19 (t : Option Addr) (w : World) (R : Value → World → Prop) : Prop :=
  (Ca Tryz.prog (44) (Array.mk [pointer t]) (w) (fun v0 => (fun w1 =>
(∃ b2 : Bool, ((v0 = bool b2) ∧ (ifK (!b2)
(R (pointer none) (w1))
(atW (drew w1) (fun w3 =>
(onP (t) (fun a4 =>
(∃ p5 : Option Nat, ((cell? w3 (add a4 0) = some (map p5)) ∧ (onP (t) (fun a6 =>
(∃ p7 : Option Nat, ((cell? w3 (add a6 1) = some (map p7)) ∧ (Ca Tryz.prog (54) (Array.mk [map p5]) (w3) (fun v8 => (fun w9 =>
(∃ p10 : Option Nat, ((v8 = map p10) ∧ ((cell? w9 (add (add a6 1) 0) = some (map p7)) ∧ (Ca Tryz.prog (55) (Array.mk [map p7]) (w9) (fun v11 => (fun w12 =>
(∃ p13 : Option Nat, ((v11 = map p13) ∧ (atW (alloc w12 (cells (Array.mk [map p10, map p13]) 70 (0, 0))) (fun w14 =>
(R (pointer (some (nw w12))) (w14)))))))))))))))))))))))))))))))
theorem ca19 (t : Option Addr) (w : World) (R : Value → World → Prop) (h : W19 t w R) : Ca Tryz.prog 19 ⟨[(.pointer t)]⟩ w R :=
  caB (fn := Tryz.f19) (pl := pl19) (ls := ls19) Tryz.func19 (by kernel_rfl) (by kernel_rfl) h

/-- maps.Clone[map[string]staith/api.Exchange,string,staith/api.Exchange] -/
noncomputable def C54 : Code := (Tryz.f54.body).getD .skip
def pl54 : Nat → Plan := fun _ => .done
def ls54 : Nat → List (Nat × LT) := fun _ => []
def W54 (m : Option Nat) (w : World) (R : Value → World → Prop) : Prop :=
  (ifK (Option.isNone m)
(R (map none) (w))
False)
theorem ca54 (m : Option Nat) (w : World) (R : Value → World → Prop) (h : W54 m w R) : Ca Tryz.prog 54 ⟨[(.map m)]⟩ w R :=
  caB (fn := Tryz.f54) (pl := pl54) (ls := ls54) Tryz.func54 (by kernel_rfl) (by kernel_rfl) h

/-- maps.Clone[map[staith/api.Binding]struct{},staith/api.Binding,struct{}] -/
noncomputable def C55 : Code := (Tryz.f55.body).getD .skip
def pl55 : Nat → Plan := fun _ => .done
def ls55 : Nat → List (Nat × LT) := fun _ => []
def W55 (m : Option Nat) (w : World) (R : Value → World → Prop) : Prop :=
  (ifK (Option.isNone m)
(R (map none) (w))
False)
theorem ca55 (m : Option Nat) (w : World) (R : Value → World → Prop) (h : W55 m w R) : Ca Tryz.prog 55 ⟨[(.map m)]⟩ w R :=
  caB (fn := Tryz.f55) (pl := pl55) (ls := ls55) Tryz.func55 (by kernel_rfl) (by kernel_rfl) h
end Go.Proofs.YtehhhkcemmfjpaaGreatDoor

/- The library's maps.Clone of the table's maps; Copy. -/
namespace Go.Proofs.YtehhhkcemmfjpaaGreatDoor
open Go Go.RowKit Go.Proofs.YtehhhkcemmfjpaaGreatDoor.St

theorem run_eqlIn_map {P : Program} (w : World) (d : Nat) (t k e : TypeId) (p : Option Nat) (h : P.underlying t = some (.map k e)) : (Op.equalIn (d + 1) t (.map p) (.map none)).run P w = .ok p.isNone w := by
  cases p <;> simp [Op.equalIn, run_underlying h]
theorem run_eql_map {P : Program} (w : World) (t k e : TypeId) (p : Option Nat) (h : P.underlying t = some (.map k e)) : (binOp .eql t (.map p) (.map none)).run P w = .ok (.bool p.isNone) w := by
  simp only [binOp]
  simp [show Op.equal t (.map p) (.map none) = Op.equalIn (9999 + 1) t (.map p) (.map none) from rfl, run_eqlIn_map w 9999 t k e p h]
theorem run_assert_map {P : Program} (w : World) (t xT k e : TypeId) (v : Value) (h : P.underlying t = some (.map k e)) : (Instr.typeAssert (.iface t v) xT t false).run P w = .ok v w := by
  simp [Instr.typeAssert, run_underlying h, go_sem, Result.andThen]
theorem run_clone {P : Program} (w : World) {r : Nat} {es : Array MapEntry} {clock : Nat} (t : TypeId) (hb : w.heap[r]? = some (.map es clock)) :
    (Extern.MapsClone.clone #[.iface t (.map (some r))]).run P w = .ok (.iface t (.map (some w.heap.size))) (w.alloc (.map es clock)) := by
  have e : Extern.MapsClone.clone #[.iface t (.map (some r))] = (getObj r >>= fun o => match o with
      | .map entries clock => (newObj (.map entries clock) >>= fun n => pure (.iface t (.map (some n))))
      | _ => stuck "maps.clone: a map expected") := rfl
  rw [e]
  simp [MapKept.run_getObj_map hb, Result.andThen, go_sem]

set_option maxRecDepth 100000 in
set_option maxHeartbeats 2000000 in
theorem cloneX_calls (b : Nat) (es : Array MapEntry) (clock : Nat) (w : World) (hb : w.heap[b]? = some (.map es clock)) :
    Calls Tryz.prog 54 #[.map (some b)] w fun e w' => e = .returned (.map (some w.heap.size)) ∧ w' = w.alloc (.map es clock) := by
  have mixed : Tryz.prog.follows .mixedOrders = true := by kernel_rfl
  have t4 := Tryz.underlying4
  have t20 := Tryz.underlying20
  have t63 := Tryz.underlying67
  have hq := fun w => run_eql_map (P := Tryz.prog) w 67 _ _ (some b) Tryz.underlying67
  go_enter Tryz.func54, Tryz.ntmps54
  go_wp2
  rw [run_callFunc_extern Tryz.func83 (by kernel_rfl) (by kernel_rfl) (by kernel_rfl) (e := Extern.MapsClone.clone) (by kernel_rfl), run_clone w 67 hb]
  simp only [Result.andThen]
  rw [Oper.upon_value]
  go_wp2
  rw [run_assert_map _ 67 20 _ _ _ Tryz.underlying67]
  simp only [Result.andThen]
  rw [Oper.upon_value]
  go_wp2
  go_ret
  exact ⟨rfl, rfl⟩
/-- A new map of the same entries. -/
theorem cloneX_ok (m : Nat) (w : World) (R : Value → World → Prop) (kvs : List (Value × Value)) (hm : MapAt w m kvs) (h : ∀ w', MapAt w' w.heap.size kvs → Mod no w w' → R (.map (some w.heap.size)) w') :
    Ca Tryz.prog 54 #[.map (some m)] w R := by
  obtain ⟨es, clock, hb, he, hn, hc⟩ := hm
  refine ⟨fun w => callFunc_run (c := C54) Tryz.func54 (by kernel_rfl) (by kernel_rfl) _ w, (cloneX_calls m es clock w hb).mono fun e w' ⟨h1, h2⟩ => ?_⟩
  subst h2
  exact ⟨_, h1, h _ ⟨es, clock, new_at _ _, he, hn, hc⟩ (Mod.alloc _ _)⟩

set_option maxRecDepth 100000 in
set_option maxHeartbeats 2000000 in
theorem cloneB_calls (b : Nat) (es : Array MapEntry) (clock : Nat) (w : World) (hb : w.heap[b]? = some (.map es clock)) :
    Calls Tryz.prog 55 #[.map (some b)] w fun e w' => e = .returned (.map (some w.heap.size)) ∧ w' = w.alloc (.map es clock) := by
  have mixed : Tryz.prog.follows .mixedOrders = true := by kernel_rfl
  have t4 := Tryz.underlying4
  have t20 := Tryz.underlying20
  have t63 := Tryz.underlying68
  have hq := fun w => run_eql_map (P := Tryz.prog) w 68 _ _ (some b) Tryz.underlying68
  go_enter Tryz.func55, Tryz.ntmps55
  go_wp2
  rw [run_callFunc_extern Tryz.func83 (by kernel_rfl) (by kernel_rfl) (by kernel_rfl) (e := Extern.MapsClone.clone) (by kernel_rfl), run_clone w 68 hb]
  simp only [Result.andThen]
  rw [Oper.upon_value]
  go_wp2
  rw [run_assert_map _ 68 20 _ _ _ Tryz.underlying68]
  simp only [Result.andThen]
  rw [Oper.upon_value]
  go_wp2
  go_ret
  exact ⟨rfl, rfl⟩
/-- A new map of the same entries. -/
theorem cloneB_ok (m : Nat) (w : World) (R : Value → World → Prop) (kvs : List (Value × Value)) (hm : MapAt w m kvs) (h : ∀ w', MapAt w' w.heap.size kvs → Mod no w w' → R (.map (some w.heap.size)) w') :
    Ca Tryz.prog 55 #[.map (some m)] w R := by
  obtain ⟨es, clock, hb, he, hn, hc⟩ := hm
  refine ⟨fun w => callFunc_run (c := C55) Tryz.func55 (by kernel_rfl) (by kernel_rfl) _ w, (cloneB_calls m es clock w hb).mono fun e w' ⟨h1, h2⟩ => ?_⟩
  subst h2
  exact ⟨_, h1, h _ ⟨es, clock, new_at _ _, he, hn, hc⟩ (Mod.alloc _ _)⟩
theorem copy_ok {w : World} {t m1 m2 : Nat} {D : List Exc} {B : List Bnd} (hT : Tbl w t m1 m2 D B) (R : Value → World → Prop)
    (h : ∀ w' t' k1 k2, Tbl w' t' k1 k2 D B → Mod no w w' → w.heap.size ≤ t' → w.heap.size ≤ k1 → w.heap.size ≤ k2 → R (.pointer (some ⟨t', 0, none⟩)) w') : Ca Tryz.prog 19 #[.pointer (some ⟨t, 0, none⟩)] w R := by
  refine ca19 (some ⟨t, 0, none⟩) w R ?_
  refine made_ok hT _ ⟨true, rfl, ifK_of (fun h => by cases h) fun _ => ?_⟩
  intro w3 e3
  have n3 : Mod no w w3 := by subst e3; exact Mod.drew _
  clear e3
  have hT3 := hT.no n3
  refine ⟨some m1, by rw [cl1 hT3.cell]; rfl, some m2, by rw [cl1 hT3.cell]; rfl, ?_⟩
  refine cloneX_ok m1 w3 _ _ hT3.x fun w9 hx9 n9 => ⟨_, rfl, ?_⟩
  have hT9 := hT3.no n9
  refine ⟨by rw [cl2 hT9.cell]; rfl, cloneB_ok m2 w9 _ _ hT9.b fun w12 hb12 n12 => ⟨_, rfl, ?_⟩⟩
  intro w14 e14
  have n14 : Mod no w12 w14 := by subst e14; exact Mod.alloc _ _
  have b14 : w14.heap[w12.heap.size]? = some (.cells #[.map (some w3.heap.size), .map (some w9.heap.size)] 70 (0, 0)) := by subst e14; exact new_at _ _
  clear e14
  have h1 := n3.size
  have h2 := hx9.lt
  have h3 := hb12.lt
  have h4 := n12.size
  have h5 := n9.size
  exact h w14 w12.heap.size w3.heap.size w9.heap.size ⟨b14, (hx9.mod n12 id).mod n14 id, hb12.mod n14 id, by omega, hT.dn, hT.bn⟩ (((n3.trans n9).trans n12).trans n14) (by omega) (by omega) (by omega)
end Go.Proofs.YtehhhkcemmfjpaaGreatDoor

/- The formulas of functions, printed by a program of mine (gen.py) out of the translation. -/
namespace Go.Proofs.YtehhhkcemmfjpaaGreatDoor
open Go Go.Proofs.YtehhhkcemmfjpaaGreatDoor.St
open _root_.Go.Value (string int bool slice pointer agg tuple map func nilFunc iface)
open _root_.Go.World (cell? frozen? setCell alloc drew)
open _root_.Go.Addr (add)
open _root_.Go.Obj (cells)
open _root_.Go.IntKind (wrap i64 u64 i32 u32 u8)
set_option maxRecDepth 100000

/-- staith/staithref05.letters -/
noncomputable def C97 : Code := (Tryz.f97.body).getD .skip
def pl97 : Nat → Plan := fun _ => .done
def ls97 : Nat → List (Nat × LT)
  | 3 => [(3, (.one (.int .i64)))]
  | 8 => [(0, .agg []), (36, (.one .bool))]
  | _ => []
def W97 (s : ByteArray) (w : World) (R : Value → World → Prop) : Prop :=
  (∃ z0 : Int → World → Prop, (∃ z1 : Int → World → Nat, ((z0 (0) (w)) ∧ (∀ (_ : Nat → Value), (∀ (x3 : Int), (∀ (w4 : World), ((z0 (x3) (w4)) → (ifK (decide (x3 < (↑(ByteArray.size s) : Int)))
(((0 : Int) ≤ x3) ∧ (((x3 : Int) < (↑(ByteArray.size s) : Int)) ∧ (∃ z5 : Bool → World → Prop, ((ifK (decide (byteAt s (Int.toNat x3) ≥ 97))
(ifK (decide (byteAt s (Int.toNat x3) ≤ 122))
(z5 (!true) (w4))
(ifK (decide (byteAt s (Int.toNat x3) ≥ 48))
(ifK (decide (byteAt s (Int.toNat x3) ≤ 57))
(z5 (!true) (w4))
(ifK (byteAt s (Int.toNat x3) == 45)
(z5 (!true) (w4))
(z5 (!byteAt s (Int.toNat x3) == 95) (w4))))
(ifK (byteAt s (Int.toNat x3) == 45)
(z5 (!true) (w4))
(z5 (!byteAt s (Int.toNat x3) == 95) (w4)))))
(ifK (decide (byteAt s (Int.toNat x3) ≥ 48))
(ifK (decide (byteAt s (Int.toNat x3) ≤ 57))
(z5 (!true) (w4))
(ifK (byteAt s (Int.toNat x3) == 45)
(z5 (!true) (w4))
(z5 (!byteAt s (Int.toNat x3) == 95) (w4))))
(ifK (byteAt s (Int.toNat x3) == 45)
(z5 (!true) (w4))
(z5 (!byteAt s (Int.toNat x3) == 95) (w4))))) ∧ (∀ (_ : Nat → Value), (∀ (b7 : Bool), (∀ (w8 : World), ((z5 (b7) (w8)) → (ifK (b7)
(R (bool false) (w8))
((z0 (wrap i64 (x3 + 1)) (w8)) ∧ (z1 (wrap i64 (x3 + 1)) w8 < z1 x3 w4)))))))))))
(R (bool (decide ((↑(ByteArray.size s) : Int) > 0))) (w4))))))))))
theorem ca97 (s : ByteArray) (w : World) (R : Value → World → Prop) (h : W97 s w R) : Ca Tryz.prog 97 ⟨[(.string s)]⟩ w R :=
  caB (fn := Tryz.f97) (pl := pl97) (ls := ls97) Tryz.func97 (by kernel_rfl) (by kernel_rfl) h

/-- staith/staithref05.Words -/
noncomputable def C96 : Code := (Tryz.f96.body).getD .skip
def pl96 : Nat → Plan := fun _ => .done
def ls96 : Nat → List (Nat × LT)
  | 8 => [(3, (.one .slice)), (4, (.one .str)), (5, (.one (.int .i64)))]
  | _ => []
def W96 (s : ByteArray) (w : World) (R : Value → World → Prop) : Prop :=
  (ifK (ByteArray.toList s == ByteArray.toList (ByteArray.mk #[]))
(R (slice none 0 0) (w))
(∃ z0 : Option Addr → Nat → Nat → ByteArray → Int → World → Prop, (∃ z1 : Option Addr → Nat → Nat → ByteArray → Int → World → Nat, ((z0 (none) (0) (0) (ByteArray.mk #[]) (0) (w)) ∧ (∀ (_ : Nat → Value), (∀ (p3 : Option Addr), (∀ (n4 : Nat), (∀ (n5 : Nat), (∀ (s6 : ByteArray), (∀ (x7 : Int), (∀ (w8 : World), ((z0 (p3) (n4) (n5) (s6) (x7) (w8)) → (ifK (decide (x7 < (↑(ByteArray.size s) : Int)))
(((0 : Int) ≤ x7) ∧ (((x7 : Int) < (↑(ByteArray.size s) : Int)) ∧ (ifK (byteAt s (Int.toNat x7) == 46)
(atW (alloc w8 (cells (Array.mk [string s6]) 9 (0, 0))) (fun w9 =>
(∃ v10 : Value, (∃ w11 : World, ((Sem.run Tryz.prog (Builtin.append_ (Array.mk [55, 55]) 55 (Array.mk [slice p3 n4 n5, slice (some (nw w8)) 1 1])) w9 = Result.ok v10 w11) ∧ (∃ p12 : Option Addr, (∃ n13 : Nat, (∃ n14 : Nat, ((v10 = slice p12 n13 n14) ∧ ((z0 (p12) (n13) (n14) (ByteArray.mk #[]) (wrap i64 (x7 + 1)) (w11)) ∧ (z1 p12 n13 n14 (ByteArray.mk #[]) (wrap i64 (x7 + 1)) w11 < z1 p3 n4 n5 s6 x7 w8)))))))))))
(((0 : Int) ≤ x7) ∧ (((x7 : Int) ≤ wrap i64 (x7 + 1)) ∧ (((wrap i64 (x7 + 1) : Int) ≤ (↑(ByteArray.size s) : Int)) ∧ ((ByteArray.size s6 + ByteArray.size (ByteArray.extract s (Int.toNat x7) (Int.toNat (wrap i64 (x7 + 1)))) ≤ 9223372036854775807) ∧ ((z0 (p3) (n4) (n5) (s6 ++ ByteArray.extract s (Int.toNat x7) (Int.toNat (wrap i64 (x7 + 1)))) (wrap i64 (x7 + 1)) (w8)) ∧ (z1 p3 n4 n5 (s6 ++ ByteArray.extract s (Int.toNat x7) (Int.toNat (wrap i64 (x7 + 1)))) (wrap i64 (x7 + 1)) w8 < z1 p3 n4 n5 s6 x7 w8)))))))))
(atW (alloc w8 (cells (Array.mk [string s6]) 9 (0, 0))) (fun w15 =>
(∃ v16 : Value, (∃ w17 : World, ((Sem.run Tryz.prog (Builtin.append_ (Array.mk [55, 55]) 55 (Array.mk [slice p3 n4 n5, slice (some (nw w8)) 1 1])) w15 = Result.ok v16 w17) ∧ (∃ p18 : Option Addr, (∃ n19 : Nat, (∃ n20 : Nat, ((v16 = slice p18 n19 n20) ∧ (R (slice p18 n19 n20) (w17))))))))))))))))))))))))
theorem ca96 (s : ByteArray) (w : World) (R : Value → World → Prop) (h : W96 s w R) : Ca Tryz.prog 96 ⟨[(.string s)]⟩ w R :=
  caB (fn := Tryz.f96) (pl := pl96) (ls := ls96) Tryz.func96 (by kernel_rfl) (by kernel_rfl) h

/-- staith/staithref05.all -/
noncomputable def C93 : Code := (Tryz.f93.body).getD .skip
def pl93 : Nat → Plan := fun _ => .done
def ls93 : Nat → List (Nat × LT)
  | 7 => [(15, (.one (.int .i64)))]
  | _ => []
def W93 (s : ByteArray) (wild : Bool) (w : World) (R : Value → World → Prop) : Prop :=
  (ifK (decide ((↑(ByteArray.size s) : Int) > 60))
(R (bool false) (w))
(Ca Tryz.prog (96) (Array.mk [string s]) (w) (fun v0 => (fun w1 =>
(∃ p2 : Option Addr, (∃ n3 : Nat, (∃ n4 : Nat, ((v0 = slice p2 n3 n4) ∧ (∃ z5 : Int → World → Prop, (∃ z6 : Int → World → Nat, ((z5 (0) (w1)) ∧ (∀ (_ : Nat → Value), (∀ (x8 : Int), (∀ (w9 : World), ((z5 (x8) (w9)) → (ifK (decide (x8 < (↑n3 : Int)))
(∃ a10 : Addr, ((p2 = some a10) ∧ (((0 : Int) ≤ x8) ∧ (((x8 : Int) < (↑n3 : Int)) ∧ (∃ s11 : ByteArray, ((cell? w9 (add a10 (Int.toNat x8 * 1)) = some (string s11)) ∧ (Ca Tryz.prog (97) (Array.mk [string s11]) (w9) (fun v12 => (fun w13 =>
(∃ b14 : Bool, ((v12 = bool b14) ∧ (ifK (!b14)
(ifK (wild)
(ifK (ByteArray.toList s11 == ByteArray.toList (ByteArray.mk #[42]))
((z5 (wrap i64 (x8 + 1)) (w13)) ∧ (z6 (wrap i64 (x8 + 1)) w13 < z6 x8 w9))
(ifK (!ByteArray.toList s11 == ByteArray.toList (ByteArray.mk #[35]))
(R (bool false) (w13))
((z5 (wrap i64 (x8 + 1)) (w13)) ∧ (z6 (wrap i64 (x8 + 1)) w13 < z6 x8 w9))))
(R (bool false) (w13)))
((z5 (wrap i64 (x8 + 1)) (w13)) ∧ (z6 (wrap i64 (x8 + 1)) w13 < z6 x8 w9))))))))))))))
(R (bool (decide ((↑n3 : Int) ≤ 12))) (w9))))))))))))))))))
theorem ca93 (s : ByteArray) (wild : Bool) (w : World) (R : Value → World → Prop) (h : W93 s wild w R) : Ca Tryz.prog 93 ⟨[(.string s), (.bool wild)]⟩ w R :=
  caB (fn := Tryz.f93) (pl := pl93) (ls := ls93) Tryz.func93 (by kernel_rfl) (by kernel_rfl) h

/-- staith/staithref05.Name -/
noncomputable def C71 : Code := (Tryz.f71.body).getD .skip
def pl71 : Nat → Plan := fun _ => .done
def ls71 : Nat → List (Nat × LT) := fun _ => []
def W71 (s : ByteArray) (w : World) (R : Value → World → Prop) : Prop :=
  (ifK (decide ((↑(ByteArray.size s) : Int) ≤ 20))
(Ca Tryz.prog (97) (Array.mk [string s]) (w) (fun v0 => (fun w1 =>
(∃ b2 : Bool, ((v0 = bool b2) ∧ (R (bool b2) (w1)))))))
(R (bool false) (w)))
theorem ca71 (s : ByteArray) (w : World) (R : Value → World → Prop) (h : W71 s w R) : Ca Tryz.prog 71 ⟨[(.string s)]⟩ w R :=
  caB (fn := Tryz.f71) (pl := pl71) (ls := ls71) Tryz.func71 (by kernel_rfl) (by kernel_rfl) h

/-- staith/staithref05.Key -/
noncomputable def C68 : Code := (Tryz.f68.body).getD .skip
def pl68 : Nat → Plan := fun _ => .done
def ls68 : Nat → List (Nat × LT) := fun _ => []
def W68 (s : ByteArray) (w : World) (R : Value → World → Prop) : Prop :=
  (Ca Tryz.prog (93) (Array.mk [string s, bool false]) (w) (fun v0 => (fun w1 =>
(∃ b2 : Bool, ((v0 = bool b2) ∧ (R (bool b2) (w1)))))))
theorem ca68 (s : ByteArray) (w : World) (R : Value → World → Prop) (h : W68 s w R) : Ca Tryz.prog 68 ⟨[(.string s)]⟩ w R :=
  caB (fn := Tryz.f68) (pl := pl68) (ls := ls68) Tryz.func68 (by kernel_rfl) (by kernel_rfl) h

/-- staith/staithref05.Pattern -/
noncomputable def C94 : Code := (Tryz.f94.body).getD .skip
def pl94 : Nat → Plan := fun _ => .done
def ls94 : Nat → List (Nat × LT) := fun _ => []
def W94 (s : ByteArray) (w : World) (R : Value → World → Prop) : Prop :=
  (Ca Tryz.prog (93) (Array.mk [string s, bool true]) (w) (fun v0 => (fun w1 =>
(∃ b2 : Bool, ((v0 = bool b2) ∧ (R (bool b2) (w1)))))))
theorem ca94 (s : ByteArray) (w : World) (R : Value → World → Prop) (h : W94 s w R) : Ca Tryz.prog 94 ⟨[(.string s)]⟩ w R :=
  caB (fn := Tryz.f94) (pl := pl94) (ls := ls94) Tryz.func94 (by kernel_rfl) (by kernel_rfl) h

/-- staith/staithref07.Good -/
noncomputable def C37 : Code := (Tryz.f37.body).getD .skip
def pl37 : Nat → Plan := fun _ => .done
def ls37 : Nat → List (Nat × LT) := fun _ => []
def W37 (x0_ : ByteArray) (x1_ : Int) (x2_ : Bool) (w : World) (R : Value → World → Prop) : Prop :=
  (atW (alloc w (cells (Array.mk [string x0_, int i64 x1_, bool x2_]) 33 (0, 0))) (fun w0 =>
(∃ s1 : ByteArray, ((cell? w0 (add (nw w) 0) = some (string s1)) ∧ (Ca Tryz.prog (71) (Array.mk [string s1]) (w0) (fun v2 => (fun w3 =>
(∃ b4 : Bool, ((v2 = bool b4) ∧ (ifK (b4)
(∃ x5 : Int, ((cell? w3 (add (nw w) 1) = some (int i64 x5)) ∧ (ifK (decide (x5 ≥ 1))
(∃ x6 : Int, ((cell? w3 (add (nw w) 1) = some (int i64 x6)) ∧ (R (bool (decide (x6 ≤ 3))) (w3))))
(R (bool false) (w3)))))
(R (bool false) (w3))))))))))))
theorem ca37 (x0_ : ByteArray) (x1_ : Int) (x2_ : Bool) (w : World) (R : Value → World → Prop) (h : W37 x0_ x1_ x2_ w R) : Ca Tryz.prog 37 ⟨[(.agg ⟨[(.string x0_), (.int .i64 x1_), (.bool x2_)]⟩)]⟩ w R :=
  caB (fn := Tryz.f37) (pl := pl37) (ls := ls37) Tryz.func37 (by kernel_rfl) (by kernel_rfl) h

/-- (*staith/staithref07.Table).Find -/
noncomputable def C43 : Code := (Tryz.f43.body).getD .skip
def pl43 : Nat → Plan := fun _ => .done
def ls43 : Nat → List (Nat × LT)
  | 3 => [(13, (.one (.int .i64)))]
  | _ => []
def W43 (t : Option Addr) (name : ByteArray) (w : World) (R : Value → World → Prop) : Prop :=
  (atW (alloc w (cells (Array.mk [string (ByteArray.mk #[]), int i64 0, bool false]) 33 (0, 0))) (fun w0 =>
(onP (t) (fun a1 =>
(∃ p2 : Option Addr, (∃ n3 : Nat, (∃ n4 : Nat, ((cell? w0 (add a1 0) = some (slice p2 n3 n4)) ∧ (∃ z5 : Int → World → Prop, (∃ z6 : Int → World → Nat, ((z5 (0) (w0)) ∧ (∀ (_ : Nat → Value), (∀ (x8 : Int), (∀ (w9 : World), ((z5 (x8) (w9)) → (ifK (decide (x8 < (↑n3 : Int)))
(∃ a10 : Addr, ((p2 = some a10) ∧ (((0 : Int) ≤ x8) ∧ (((x8 : Int) < (↑n3 : Int)) ∧ (∃ s11 : ByteArray, ((cell? w9 (add (add a10 (Int.toNat x8 * 3)) 0) = some (string s11)) ∧ (∃ x12 : Int, ((cell? w9 (add (add a10 (Int.toNat x8 * 3)) 1) = some (int i64 x12)) ∧ (∃ b13 : Bool, ((cell? w9 (add (add a10 (Int.toNat x8 * 3)) 2) = some (bool b13)) ∧ (atW (alloc w9 (cells (Array.mk [string (ByteArray.mk #[]), int i64 0, bool false]) 33 (0, 0))) (fun w14 =>
(st1 (add (nw w9) 0) (string s11) w14 (fun w16 =>
(st1 (add (nw w9) 1) (int i64 x12) w16 (fun w18 =>
(st1 (add (nw w9) 2) (bool b13) w18 (fun w20 =>
(∃ s21 : ByteArray, ((cell? w20 (add (nw w9) 0) = some (string s21)) ∧ (ifK (ByteArray.toList s21 == ByteArray.toList name)
(∃ s22 : ByteArray, ((cell? w20 (add (nw w9) 0) = some (string s22)) ∧ (∃ x23 : Int, ((cell? w20 (add (nw w9) 1) = some (int i64 x23)) ∧ (∃ b24 : Bool, ((cell? w20 (add (nw w9) 2) = some (bool b24)) ∧ (st1 (add (nw w) 0) (string s22) w20 (fun w26 =>
(st1 (add (nw w) 1) (int i64 x23) w26 (fun w28 =>
(st1 (add (nw w) 2) (bool b24) w28 (fun w30 =>
(∃ s31 : ByteArray, ((cell? w30 (add (nw w) 0) = some (string s31)) ∧ (∃ x32 : Int, ((cell? w30 (add (nw w) 1) = some (int i64 x32)) ∧ (∃ b33 : Bool, ((cell? w30 (add (nw w) 2) = some (bool b33)) ∧ (R (tuple (Array.mk [agg (Array.mk (List.reverse [bool b33, int i64 x32, string s31])), bool true])) (w30))))))))))))))))))))
((z5 (wrap i64 (x8 + 1)) (w20)) ∧ (z6 (wrap i64 (x8 + 1)) w20 < z6 x8 w9)))))))))))))))))))))))
(st1 (add (nw w) 0) (string (ByteArray.mk #[])) w9 (fun w35 =>
(st1 (add (nw w) 1) (int i64 0) w35 (fun w37 =>
(st1 (add (nw w) 2) (bool false) w37 (fun w39 =>
(∃ s40 : ByteArray, ((cell? w39 (add (nw w) 0) = some (string s40)) ∧ (∃ x41 : Int, ((cell? w39 (add (nw w) 1) = some (int i64 x41)) ∧ (∃ b42 : Bool, ((cell? w39 (add (nw w) 2) = some (bool b42)) ∧ (R (tuple (Array.mk [agg (Array.mk (List.reverse [bool b42, int i64 x41, string s40])), bool false])) (w39))))))))))))))))))))))))))))))
theorem ca43 (t : Option Addr) (name : ByteArray) (w : World) (R : Value → World → Prop) (h : W43 t name w R) : Ca Tryz.prog 43 ⟨[(.pointer t), (.string name)]⟩ w R :=
  caB (fn := Tryz.f43) (pl := pl43) (ls := ls43) Tryz.func43 (by kernel_rfl) (by kernel_rfl) h

/-- (*staith/staithref07.Table).Has -/
noncomputable def C20 : Code := (Tryz.f20.body).getD .skip
def pl20 : Nat → Plan := fun _ => .done
def ls20 : Nat → List (Nat × LT)
  | 3 => [(12, (.one (.int .i64)))]
  | _ => []
def W20 (t : Option Addr) (b0_ : ByteArray) (b1_ : ByteArray) (b2_ : ByteArray) (w : World) (R : Value → World → Prop) : Prop :=
  (atW (alloc w (cells (Array.mk [string b0_, string b1_, string b2_]) 35 (0, 0))) (fun w0 =>
(onP (t) (fun a1 =>
(∃ p2 : Option Addr, (∃ n3 : Nat, (∃ n4 : Nat, ((cell? w0 (add a1 1) = some (slice p2 n3 n4)) ∧ (∃ z5 : Int → World → Prop, (∃ z6 : Int → World → Nat, ((z5 (0) (w0)) ∧ (∀ (_ : Nat → Value), (∀ (x8 : Int), (∀ (w9 : World), ((z5 (x8) (w9)) → (ifK (decide (x8 < (↑n3 : Int)))
(∃ a10 : Addr, ((p2 = some a10) ∧ (((0 : Int) ≤ x8) ∧ (((x8 : Int) < (↑n3 : Int)) ∧ (∃ s11 : ByteArray, ((cell? w9 (add (add a10 (Int.toNat x8 * 3)) 0) = some (string s11)) ∧ (∃ s12 : ByteArray, ((cell? w9 (add (add a10 (Int.toNat x8 * 3)) 1) = some (string s12)) ∧ (∃ s13 : ByteArray, ((cell? w9 (add (add a10 (Int.toNat x8 * 3)) 2) = some (string s13)) ∧ (atW (alloc w9 (cells (Array.mk [string (ByteArray.mk #[]), string (ByteArray.mk #[]), string (ByteArray.mk #[])]) 35 (0, 0))) (fun w14 =>
(st1 (add (nw w9) 0) (string s11) w14 (fun w16 =>
(st1 (add (nw w9) 1) (string s12) w16 (fun w18 =>
(st1 (add (nw w9) 2) (string s13) w18 (fun w20 =>
(∃ s21 : ByteArray, ((cell? w20 (add (nw w9) 0) = some (string s21)) ∧ (∃ s22 : ByteArray, ((cell? w20 (add (nw w9) 1) = some (string s22)) ∧ (∃ s23 : ByteArray, ((cell? w20 (add (nw w9) 2) = some (string s23)) ∧ (∃ s24 : ByteArray, ((cell? w20 (add (nw w) 0) = some (string s24)) ∧ (∃ s25 : ByteArray, ((cell? w20 (add (nw w) 1) = some (string s25)) ∧ (∃ s26 : ByteArray, ((cell? w20 (add (nw w) 2) = some (string s26)) ∧ (eqA Tryz.prog 35 (agg (Array.mk (List.reverse [string s23, string s22, string s21]))) (agg (Array.mk (List.reverse [string s26, string s25, string s24]))) (w20) (fun b27 => (fun w28 =>
(ifK (b27)
(R (bool true) (w28))
((z5 (wrap i64 (x8 + 1)) (w28)) ∧ (z6 (wrap i64 (x8 + 1)) w28 < z6 x8 w9))))))))))))))))))))))))))))))))))))
(R (bool false) (w9))))))))))))))))))
theorem ca20 (t : Option Addr) (b0_ : ByteArray) (b1_ : ByteArray) (b2_ : ByteArray) (w : World) (R : Value → World → Prop) (h : W20 t b0_ b1_ b2_ w R) : Ca Tryz.prog 20 ⟨[(.pointer t), (.agg ⟨[(.string b0_), (.string b1_), (.string b2_)]⟩)]⟩ w R :=
  caB (fn := Tryz.f20) (pl := pl20) (ls := ls20) Tryz.func20 (by kernel_rfl) (by kernel_rfl) h

/-- staith/staithref07.may -/
noncomputable def C72 : Code := (Tryz.f72.body).getD .skip
def pl72 : Nat → Plan := fun _ => .done
def ls72 : Nat → List (Nat × LT) := fun _ => []
def W72 (kind : Int) (pattern : ByteArray) (w : World) (R : Value → World → Prop) : Prop :=
  (ifK (kind == 1)
(Ca Tryz.prog (68) (Array.mk [string pattern]) (w) (fun v0 => (fun w1 =>
(∃ b2 : Bool, ((v0 = bool b2) ∧ (R (bool b2) (w1)))))))
(ifK (kind == 2)
(R (bool (ByteArray.toList pattern == ByteArray.toList (ByteArray.mk #[]))) (w))
(Ca Tryz.prog (94) (Array.mk [string pattern]) (w) (fun v3 => (fun w4 =>
(∃ b5 : Bool, ((v3 = bool b5) ∧ (R (bool b5) (w4)))))))))
theorem ca72 (kind : Int) (pattern : ByteArray) (w : World) (R : Value → World → Prop) (h : W72 kind pattern w R) : Ca Tryz.prog 72 ⟨[(.int .i64 kind), (.string pattern)]⟩ w R :=
  caB (fn := Tryz.f72) (pl := pl72) (ls := ls72) Tryz.func72 (by kernel_rfl) (by kernel_rfl) h

/-- staith/staithref07.ahead -/
noncomputable def C73 : Code := (Tryz.f73.body).getD .skip
def pl73 : Nat → Plan := fun _ => .done
def ls73 : Nat → List (Nat × LT) := fun _ => []
def W73 (a0_ : ByteArray) (a1_ : ByteArray) (a2_ : ByteArray) (b0_ : ByteArray) (b1_ : ByteArray) (b2_ : ByteArray) (w : World) (R : Value → World → Prop) : Prop :=
  (atW (alloc w (cells (Array.mk [string a0_, string a1_, string a2_]) 35 (0, 0))) (fun w0 =>
(atW (alloc w0 (cells (Array.mk [string b0_, string b1_, string b2_]) 35 (0, 0))) (fun w1 =>
(∃ s2 : ByteArray, ((cell? w1 (add (nw w) 0) = some (string s2)) ∧ (∃ s3 : ByteArray, ((cell? w1 (add (nw w0) 0) = some (string s3)) ∧ (ifK (!ByteArray.toList s2 == ByteArray.toList s3)
(∃ s4 : ByteArray, ((cell? w1 (add (nw w) 0) = some (string s4)) ∧ (∃ s5 : ByteArray, ((cell? w1 (add (nw w0) 0) = some (string s5)) ∧ (R (bool (Op.bytesLess (ByteArray.toList s4) (ByteArray.toList s5))) (w1))))))
(∃ s6 : ByteArray, ((cell? w1 (add (nw w) 1) = some (string s6)) ∧ (∃ s7 : ByteArray, ((cell? w1 (add (nw w0) 1) = some (string s7)) ∧ (ifK (!ByteArray.toList s6 == ByteArray.toList s7)
(∃ s8 : ByteArray, ((cell? w1 (add (nw w) 1) = some (string s8)) ∧ (∃ s9 : ByteArray, ((cell? w1 (add (nw w0) 1) = some (string s9)) ∧ (R (bool (Op.bytesLess (ByteArray.toList s8) (ByteArray.toList s9))) (w1))))))
(∃ s10 : ByteArray, ((cell? w1 (add (nw w) 2) = some (string s10)) ∧ (∃ s11 : ByteArray, ((cell? w1 (add (nw w0) 2) = some (string s11)) ∧ (R (bool (Op.bytesLess (ByteArray.toList s10) (ByteArray.toList s11))) (w1))))))))))))))))))))
theorem ca73 (a0_ : ByteArray) (a1_ : ByteArray) (a2_ : ByteArray) (b0_ : ByteArray) (b1_ : ByteArray) (b2_ : ByteArray) (w : World) (R : Value → World → Prop) (h : W73 a0_ a1_ a2_ b0_ b1_ b2_ w R) : Ca Tryz.prog 73 ⟨[(.agg ⟨[(.string a0_), (.string a1_), (.string a2_)]⟩), (.agg ⟨[(.string b0_), (.string b1_), (.string b2_)]⟩)]⟩ w R :=
  caB (fn := Tryz.f73) (pl := pl73) (ls := ls73) Tryz.func73 (by kernel_rfl) (by kernel_rfl) h
end Go.Proofs.YtehhhkcemmfjpaaGreatDoor

/- The reference's functions on names and patterns (the ahead part is Ref's, for any seat). -/
namespace Go.Proofs.YtehhhkcemmfjpaaGreatDoor
open Go Go.Proofs.YtehhhkcemmfjpaaGreatDoor Go.Proofs.YtehhhkcemmfjpaaGreatDoor.St

theorem plainB_eq (s : ByteArray) : plainB s = (lettersB s && decide (s.size > 0)) := by
  unfold plainB
  congr 1
  rw [byteArray_toList, byteArray_toList]
  have : s.size = s.data.toList.length := Array.length_toList.symm
  rw [this]
  cases s.data.toList with
  | nil => rfl
  | cons x r => exact (decide_eq_true (Nat.succ_pos _)).symm

theorem letters_ok (s : ByteArray) (w : World) (hs : s.size < 4611686018427387904) (R : Value → World → Prop) (h : R (.bool (plainB s)) w) : Ca Tryz.prog 97 #[.string s] w R := by
  refine ca97 s w R ?_
  refine ⟨fun x w' => ∃ i : Nat, x = i ∧ i ≤ s.size ∧ w' = w ∧ ∀ (k : Nat) (hk : k < s.size), k < i → letter (s[k]'hk).toNat = true, fun x _ => ((s.size : Int) - x).toNat,
    ⟨0, rfl, Nat.zero_le _, rfl, fun k _ hk => by omega⟩, ?_⟩
  rintro _ _ _ ⟨i, rfl, hi, rfl, hall⟩
  rename_i w
  refine ifK_dec (fun hlt => ?_) (fun hge => ?_)
  · have hlt' : i < s.size := by omega
    refine ⟨by omega, hlt, fun b w' => b = !(letter (s[i]'hlt').toNat) ∧ w' = w, ?_, ?_⟩
    · rw [Int.toNat_natCast, byteAt_eq hlt']
      generalize (s[i]'hlt').toNat = c
      repeat' first
        | refine ifK_dec (fun _ => ?_) (fun _ => ?_)
        | refine ifK_eq (fun _ => ?_) (fun _ => ?_)
      all_goals refine ⟨?_, rfl⟩
      all_goals rw [Bool.eq_iff_iff]
      all_goals simp [letter]
      all_goals omega
    · rintro _ b _ ⟨rfl, rfl⟩
      refine ifK_not (fun hf => ?_) (fun ht => ?_)
      · have : plainB s = false := by
          rw [plainB]
          have : lettersB s = false := by
            cases hc : lettersB s with
            | false => rfl
            | true => rw [lettersB_at hc hlt'] at hf; cases hf
          rw [this]; rfl
        rwa [this] at h
      · have e1 : IntKind.i64.wrap ((i : Int) + 1) = ((i + 1 : Nat) : Int) := (by first | (simp only [IntKind.wrap_i64]; omega) | omega)
        rw [e1]
        refine ⟨⟨i + 1, rfl, hlt', rfl, fun k hk hki => ?_⟩, by simp only; omega⟩
        by_cases e : k = i
        · subst e; exact ht
        · exact hall k hk (by omega)
  · have : plainB s = decide ((s.size : Int) > 0) := by
      rw [plainB_eq, lettersB_of fun k hk => hall k hk (by omega)]
      simp
    rwa [this] at h
theorem nameR_ok (s : ByteArray) (w : World) (R : Value → World → Prop) (h : R (.bool (nameB s)) w) : Ca Tryz.prog 71 #[.string s] w R := by
  refine ca71 s w R ?_
  refine ifK_dec (fun hle => ?_) (fun hgt => ?_)
  · refine letters_ok s w (by omega) _ ⟨_, rfl, ?_⟩
    have : nameB s = plainB s := by rw [nameB]; simp [hle]
    rwa [this] at h
  · have : nameB s = false := by rw [nameB]; simp [hgt]
    rwa [this] at h

/-! ### The reference's desk -/

def glue (c : List UInt8) : List (List UInt8) → List (List UInt8)
  | [] => [c]
  | x :: xs => (c ++ x) :: xs
theorem glue_dot (c r : List UInt8) : glue c (splitD (46 :: r)) = c :: splitD r := by simp [splitD, glue]
theorem glue_nil (l : List UInt8) : glue [] (splitD l) = splitD l := by
  cases h : splitD l with
  | nil => exact absurd h (splitD_ne l)
  | cons x xs => rfl
theorem glue_byte (c r : List UInt8) (b : UInt8) (hb : b ≠ 46) : glue c (splitD (b :: r)) = glue (c ++ [b]) (splitD r) := by
  cases h : splitD r with
  | nil => exact absurd h (splitD_ne r)
  | cons x xs => simp [splitD, hb, h, glue]
theorem bs_append (a b : List UInt8) : bs a ++ bs b = bs (a ++ b) := by
  apply ByteArray.ext
  simp [bs]
set_option maxHeartbeats 1000000 in
theorem refWords_ok (s : ByteArray) (w : World) (hs : s.size < 1000000000) (R : Value → World → Prop)
    (h : ∀ w' a l c, Els Value.string 9 w' a l c (wordsOf s) → Mod no w w' → (∀ k, rowB a k → w.heap.size ≤ k) → R (.slice a l c) w') : Ca Tryz.prog 96 #[.string s] w R := by
  refine ca96 s w R (ifK_of (fun he => ?_) fun hne => ?_)
  · have : s.size = 0 := by
      have : s = ByteArray.mk #[] := ba_toList _ _ (eq_of_beq he)
      rw [this]; rfl
    exact h w none 0 0 (by rw [wordsOf, if_pos this]; exact Els.nil _ _) (Mod.refl _ _) fun k hk => by cases hk
  have hpos : s.size ≠ 0 := fun h0 => by
    have : s = ByteArray.mk #[] := ByteArray.ext (Array.eq_empty_of_size_eq_zero h0)
    rw [this] at hne
    simp at hne
  have hsl : s.data.toList.length = s.size := Array.length_toList
  refine ⟨fun a l c t x w' => ∃ (i : Nat) (pre : List ByteArray) (cur : List UInt8), x = i ∧ i ≤ s.size ∧ t = bs cur ∧ cur.length ≤ i ∧ pre.length ≤ i ∧ Els Value.string 9 w' a l c pre ∧ Mod no w w' ∧ (∀ k, rowB a k → w.heap.size ≤ k) ∧
      pre ++ (glue cur (splitD (s.data.toList.drop i))).map bs = wordsOf s, fun _ _ _ _ x _ => ((s.size : Int) - x).toNat,
    ⟨0, [], [], rfl, Nat.zero_le _, rfl, Nat.le_refl _, Nat.le_refl _, Els.nil _ _, Mod.refl _ _, (fun k hk => by cases hk), by rw [List.drop_zero, glue_nil, wordsOf, if_neg hpos]; rfl⟩, ?_⟩
  rintro _ a l c _ _ w8 ⟨i, pre, cur, rfl, hi, rfl, hc, hp, hx, m8, hn, he⟩
  have hxl := hx.len.1
  refine ifK_dec (fun hlt => ?_) (fun hge => ?_)
  · have hlt' : i < s.size := by omega
    have hdr : s.data.toList.drop i = (s[i]'hlt') :: s.data.toList.drop (i + 1) := by
      rw [List.drop_eq_getElem_cons (by rw [hsl]; exact hlt')]
      rfl
    refine ⟨by omega, hlt, ?_⟩
    have e1 : IntKind.i64.wrap ((i : Int) + 1) = ((i + 1 : Nat) : Int) := (by first | (simp only [IntKind.wrap_i64]; omega) | omega)
    rw [Int.toNat_natCast, byteAt_eq hlt', e1]
    clear e1
    refine ifK_eq (fun h46 => ?_) (fun h46 => ?_)
    · have h46 : s[i]'hlt' = 46 := UInt8.toNat_inj.1 (by have : ((s[i]'hlt').toNat : Int) = 46 := h46; show (s[i]'hlt').toNat = 46; omega)
      intro w9 e9
      have m9 : Mod no w8 w9 := by subst e9; exact Mod.alloc _ _
      have b9 : w9.heap[w8.heap.size]? = some (.cells #[.string (bs cur)] 9 (0, 0)) := by subst e9; exact new_at _ _
      clear e9
      obtain ⟨a', c', w11, hrun, x11, m11, hnew⟩ := Els.push1 (P := Tryz.prog) (t := 55) (ty := 55) (fun _ => rfl) (by kernel_rfl) (hx.no m9) b9 (by omega)
      have h89 := m9.size
      have h08 := m8.size
      refine ⟨_, w11, hrun, _, _, _, rfl, ⟨i + 1, pre ++ [bs cur], [], rfl, hlt', rfl, Nat.zero_le _, by rw [List.length_append]; exact Nat.succ_le_succ hp, x11, ?_, fun k hk => (hnew k hk).elim (hn k) (fun h => by omega), ?_⟩, by simp only; omega⟩
      · exact (m8.trans m9).new m11 hn
      · rw [← he, hdr, h46, glue_dot, glue_nil]
        simp
    · have h46 : s[i]'hlt' ≠ 46 := fun h => h46 (by rw [h]; rfl)
      have hex : s.extract i (i + 1) = bs [s[i]'hlt'] := by
        have := bs_extract s.data.toList i (i + 1)
        rw [bs_data] at this
        rw [this, hdr]
        simp
      rw [Int.toNat_natCast, hex, bs_append]
      refine ⟨by omega, by omega, by omega, by rw [bs_size, bs_size]; simp; omega, ⟨i + 1, pre, cur ++ [s[i]'hlt'], rfl, hlt', rfl, by simp; omega, by omega, hx, m8, hn, ?_⟩, by simp only; omega⟩
      rw [← he, hdr, glue_byte _ _ _ h46]
  · intro w9 e9
    have m9 : Mod no w8 w9 := by subst e9; exact Mod.alloc _ _
    have b9 : w9.heap[w8.heap.size]? = some (.cells #[.string (bs cur)] 9 (0, 0)) := by subst e9; exact new_at _ _
    clear e9
    obtain ⟨a', c', w11, hrun, x11, m11, hnew⟩ := Els.push1 (P := Tryz.prog) (t := 55) (ty := 55) (fun _ => rfl) (by kernel_rfl) (hx.no m9) b9 (by omega)
    have h89 := m9.size
    have h08 := m8.size
    refine ⟨_, w11, hrun, _, _, _, rfl, h w11 a' (l + 1) c' ?_ ((m8.trans m9).new m11 hn) fun k hk => (hnew k hk).elim (hn k) (fun h => by omega)⟩
    have : s.data.toList.drop i = [] := List.drop_eq_nil_of_le (by omega)
    rw [this] at he
    rw [← he]
    simpa [splitD, glue] using x11
end Go.Proofs.YtehhhkcemmfjpaaGreatDoor

/- The reference's Key, Pattern, may, Good, ahead. -/
namespace Go.Proofs.YtehhhkcemmfjpaaGreatDoor
open Go Go.Proofs.YtehhhkcemmfjpaaGreatDoor Go.Proofs.YtehhhkcemmfjpaaGreatDoor.St

theorem splitD_mem : ∀ (l : List UInt8) (x : List UInt8), x ∈ splitD l → x.length ≤ l.length
  | [], x, h => by simp [splitD] at h; simp [h]
  | c :: r, x, h => by
    simp only [splitD] at h
    split at h
    · rcases List.mem_cons.1 h with rfl | h
      · simp
      · have := splitD_mem r x h; simp; omega
    · split at h
      · simp at h; simp [h]
      · rename_i y ys hy
        rcases List.mem_cons.1 h with rfl | h
        · have := splitD_mem r y (by rw [hy]; simp); simp; omega
        · have := splitD_mem r x (by rw [hy]; simp [h]); simp; omega
theorem words_mem {s x : ByteArray} (h : x ∈ wordsOf s) : x.size ≤ s.size := by
  unfold wordsOf at h
  split at h
  · cases h
  · obtain ⟨y, hy, rfl⟩ := List.mem_map.1 h
    exact splitD_mem _ y hy
def wordB (wi : Bool) (x : ByteArray) : Bool := if wi then wild x else plainB x
theorem all_ok (s : ByteArray) (wi : Bool) (w : World) (R : Value → World → Prop) (h : ∀ w', Mod no w w' → R (.bool (madeB (wordB wi) s)) w') : Ca Tryz.prog 93 #[.string s, .bool wi] w R := by
  refine ca93 s wi w R (ifK_dec (fun hgt => ?_) fun hle => ?_)
  · have h' := h w (Mod.refl _ _)
    rw [madeB, decide_eq_false (show ¬ s.size ≤ 60 by omega), Bool.false_and] at h'
    exact h'
  refine refWords_ok s w (by omega) _ fun w1 a l c hx m1 _ => ⟨a, l, c, rfl, ?_⟩
  have hxl := hx.len.1
  have hwl : (wordsOf s).length ≤ s.size + 1 := by
    unfold wordsOf
    split
    · simp
    · rw [List.length_map]; exact splitD_len _
  have hB : madeB (wordB wi) s = (decide (l ≤ 12) && (wordsOf s).all (wordB wi)) := by rw [madeB, decide_eq_true (show s.size ≤ 60 by omega), Bool.true_and, hxl]
  refine ⟨fun x w' => ∃ i : Nat, x = i ∧ i ≤ l ∧ Mod no w w' ∧ Els Value.string 9 w' a l c (wordsOf s) ∧ (wordsOf s).all (wordB wi) = ((wordsOf s).drop i).all (wordB wi), fun x _ => ((l : Int) - x).toNat, ⟨0, rfl, by omega, m1, hx, rfl⟩, ?_⟩
  rintro _ _ w4 ⟨i, rfl, hi, m4, hx4, he⟩
  refine ifK_dec (fun hlt => ?_) (fun hge => ?_)
  · have hil : i < (wordsOf s).length := by omega
    have hd : (wordsOf s).drop i = at0 (wordsOf s) i :: (wordsOf s).drop (i + 1) := by rw [List.drop_eq_getElem_cons hil, at0_eq hil]
    have e1 : IntKind.i64.wrap ((i : Int) + 1) = ((i + 1 : Nat) : Int) := (by first | (simp only [IntKind.wrap_i64]; omega) | omega)
    rw [e1]
    have hsz : (at0 (wordsOf s) i).size ≤ s.size := words_mem (by rw [at0_eq hil]; exact List.getElem_mem hil)
    rw [hd, List.all_cons] at he
    have next : wordB wi (at0 (wordsOf s) i) = true → (∃ i' : Nat, ((i + 1 : Nat) : Int) = i' ∧ i' ≤ l ∧ Mod no w w4 ∧ Els Value.string 9 w4 a l c (wordsOf s) ∧ (wordsOf s).all (wordB wi) = ((wordsOf s).drop i').all (wordB wi)) ∧ ((l : Int) - ((i + 1 : Nat) : Int)).toNat < ((l : Int) - (i : Int)).toNat := by
      intro ht
      exact ⟨⟨i + 1, rfl, by omega, m4, hx4, by rw [he, ht, Bool.true_and]⟩, by omega⟩
    have stop : wordB wi (at0 (wordsOf s) i) = false → R (.bool false) w4 := by
      intro hf
      have h' := h w4 m4
      rw [hB, he, hf, Bool.false_and, Bool.and_false] at h'
      exact h'
    refine hx4.rd i rfl (by omega) (letters_ok _ _ (by omega) _ ⟨_, rfl, ifK_not (fun hp => ?_) (fun hp => ?_)⟩)
    · cases wi with
      | false => exact ifK_of (fun h => by cases h) fun _ => stop (by rw [wordB]; exact hp)
      | true =>
        refine ifK_of (fun _ => ?_) fun h => by cases h
        rw [toList_beq, toList_beq]
        refine ifK_of (fun h1 => next (by rw [wordB]; simp only [if_true]; rw [wild, h1, Bool.true_or])) fun h1 => ifK_not (fun h2 => stop ?_) (fun h2 => next ?_)
        · rw [wordB]; simp only [if_true]; rw [wild, h1, h2, hp]; rfl
        · rw [wordB]; simp only [if_true]; rw [wild, h2, Bool.true_or, Bool.or_true]
    · refine next ?_
      rw [wordB, wild, hp]
      cases wi <;> simp
  · have h' := h w4 m4
    rw [hB, he, List.drop_eq_nil_of_le (by omega)] at h'
    have : decide ((l : Int) ≤ 12) = (decide (l ≤ 12) && ([] : List ByteArray).all (wordB wi)) := by
      rw [List.all_nil, Bool.and_true]
      exact decide_eq_decide.2 (by omega)
    rw [this]
    exact h'
theorem keyR_ok (s : ByteArray) (w : World) (R : Value → World → Prop) (h : ∀ w', Mod no w w' → R (.bool (keyB s)) w') : Ca Tryz.prog 68 #[.string s] w R := by
  refine ca68 s w R ?_
  exact all_ok s false w _ fun w' m => ⟨_, rfl, h w' m⟩
theorem patR_ok (s : ByteArray) (w : World) (R : Value → World → Prop) (h : ∀ w', Mod no w w' → R (.bool (patB s)) w') : Ca Tryz.prog 94 #[.string s] w R := by
  refine ca94 s w R ?_
  exact all_ok s true w _ fun w' m => ⟨_, rfl, h w' m⟩
end Go.Proofs.YtehhhkcemmfjpaaGreatDoor

/- The reference's may, Good, ahead; its table, and Find, Has in it. -/
namespace Go.Proofs.YtehhhkcemmfjpaaGreatDoor
open Go Go.Proofs.YtehhhkcemmfjpaaGreatDoor Go.Proofs.YtehhhkcemmfjpaaGreatDoor.St

theorem mayR_ok (x : Exc) (hk : x.k = 1 ∨ x.k = 2 ∨ x.k = 3) (p : ByteArray) (w : World) (R : Value → World → Prop) (h : ∀ w', Mod no w w' → R (.bool (mayB x p)) w') : Ca Tryz.prog 72 #[.int .i64 x.k, .string p] w R := by
  refine ca72 x.k p w R (ifK_eq (fun h1 => ?_) (fun h1 => ifK_eq (fun h2 => ?_) (fun h2 => ?_)))
  · refine keyR_ok p w _ fun w1 m1 => ⟨_, rfl, ?_⟩
    have h' := h w1 m1
    rw [mayB, if_pos h1] at h'
    exact h'
  · have h' := h w (Mod.refl _ _)
    rw [mayB, if_neg h1, if_neg (by omega)] at h'
    rw [toList_beq]
    exact h'
  · refine patR_ok p w _ fun w1 m1 => ⟨_, rfl, ?_⟩
    have h' := h w1 m1
    rw [mayB, if_neg h1, if_pos (by omega)] at h'
    exact h'
theorem goodR_ok (x : Exc) (w : World) (R : Value → World → Prop) (h : ∀ w', Mod no w w' → R (.bool (goodX x)) w') : Ca Tryz.prog 37 #[.agg ⟨x.cs⟩] w R := by
  refine (ca37 x.n x.k x.f w R ?_ : Ca _ _ _ _ _)
  intro w0 e0
  have m0 : Mod no w w0 := by subst e0; exact Mod.alloc _ _
  have b0 : Xc w0 w.heap.size x := by subst e0; exact new_at _ _
  clear e0
  have h := h w0 m0
  refine ⟨_, by rw [cl1 b0]; rfl, nameR_ok _ _ _ ⟨_, rfl, ?_⟩⟩
  rw [goodX] at h
  refine ifK_of (fun hn => ?_) (fun hn => ?_)
  · rw [hn, Bool.true_and] at h
    refine ⟨x.k, by rw [cl1 b0]; rfl, ifK_dec (fun h1 => ⟨x.k, by rw [cl1 b0]; rfl, ?_⟩) (fun h1 => ?_)⟩
    · have : (x.k == 1 || x.k == 2 || x.k == 3) = decide (x.k ≤ 3) := by
        rw [Bool.eq_iff_iff]; simp; omega
      rw [this] at h
      exact h
    · have : (x.k == 1 || x.k == 2 || x.k == 3) = false := by
        rw [Bool.eq_false_iff]; simp; omega
      rw [this] at h
      exact h
  · rw [hn, Bool.false_and] at h; exact h
theorem lt_bool (x y : ByteArray) : Op.bytesLess x.toList y.toList = decide (x < y) := by
  rw [Bool.eq_iff_iff, decide_eq_true_iff]
  exact Iff.rfl
instance bndDec : DecidableLT Bnd := fun a b => inferInstanceAs (Decidable (a.x < b.x ∨ a.x = b.x ∧ (a.q < b.q ∨ a.q = b.q ∧ a.p < b.p)))
theorem ahead_ok (x y : Bnd) (w : World) (R : Value → World → Prop) (h : ∀ w', Mod no w w' → R (.bool (decide (x < y))) w') : Ca Tryz.prog 73 #[.agg ⟨x.cs⟩, .agg ⟨y.cs⟩] w R := by
  refine (ca73 x.x x.q x.p y.x y.q y.p w R ?_ : Ca _ _ _ _ _)
  intro w0 e0
  have m0 : Mod no w w0 := by subst e0; exact Mod.alloc _ _
  have b0 : Bc w0 w.heap.size x := by subst e0; exact new_at _ _
  clear e0
  intro w1 e1
  have m1 : Mod no w0 w1 := by subst e1; exact Mod.alloc _ _
  have b1 : Bc w1 w0.heap.size y := by subst e1; exact new_at _ _
  have b0 := m1.at' b0
  clear e1
  have h := h w1 (m0.trans m1)
  refine ⟨_, by rw [cl1 b0]; rfl, _, by rw [cl1 b1]; rfl, ?_⟩
  rw [toList_beq]
  refine ifK_not (fun hx => ?_) (fun hx => ?_)
  · have hx : ¬ x.x = y.x := of_decide_eq_false hx
    refine ⟨_, by rw [cl1 b0]; rfl, _, by rw [cl1 b1]; rfl, ?_⟩
    rw [lt_bool]
    have : decide (x < y) = decide (x.x < y.x) := decide_eq_decide.2 ⟨fun h => h.resolve_right fun h => hx h.1, .inl⟩
    rw [this] at h
    exact h
  · have hx : x.x = y.x := of_decide_eq_true hx
    refine ⟨_, by rw [cl1 b0]; rfl, _, by rw [cl1 b1]; rfl, ?_⟩
    rw [toList_beq]
    refine ifK_not (fun hq => ?_) (fun hq => ?_)
    · have hq : ¬ x.q = y.q := of_decide_eq_false hq
      refine ⟨_, by rw [cl1 b0]; rfl, _, by rw [cl1 b1]; rfl, ?_⟩
      rw [lt_bool]
      have : decide (x < y) = decide (x.q < y.q) := decide_eq_decide.2 ⟨fun h => by
        rcases h with h | ⟨_, h | h⟩
        · exact absurd h (by rw [hx]; exact str_irr _)
        · exact h
        · exact absurd h.1 hq, fun h => .inr ⟨hx, .inl h⟩⟩
      rw [this] at h
      exact h
    · have hq : x.q = y.q := of_decide_eq_true hq
      refine ⟨_, by rw [cl1 b0]; rfl, _, by rw [cl1 b1]; rfl, ?_⟩
      rw [lt_bool]
      have : decide (x < y) = decide (x.p < y.p) := decide_eq_decide.2 ⟨fun h => by
        rcases h with h | ⟨_, h | h⟩
        · exact absurd h (by rw [hx]; exact str_irr _)
        · exact absurd h (by rw [hq]; exact str_irr _)
        · exact h.2, fun h => .inr ⟨hx, .inr ⟨hq, h⟩⟩⟩
      rw [this] at h
      exact h
end Go.Proofs.YtehhhkcemmfjpaaGreatDoor

/- The reference's table; Find, Has in it. -/
namespace Go.Proofs.YtehhhkcemmfjpaaGreatDoor
open Go Go.Proofs.YtehhhkcemmfjpaaGreatDoor Go.Proofs.YtehhhkcemmfjpaaGreatDoor.St

/-- The reference's table at r: exchanges X, bindings B. -/
structure RTb (w : World) (r : Nat) (X : List Exc) (B : List Bnd) : Prop where
  ex : ∃ (a : Option Addr) (l c : Nat) (a' : Option Addr) (l' c' : Nat), w.heap[r]? = some (.cells #[.slice a l c, .slice a' l' c'] 29 (0, 0)) ∧ Rx excL 33 w a l c X ∧ Rx bndL 35 w a' l' c' B ∧ ¬ rowB a r ∧ ¬ rowB a' r
theorem RTb.no {w w' : World} {r : Nat} {X : List Exc} {B : List Bnd} (h : RTb w r X B) (hm : Mod no w w') : RTb w' r X B := by
  obtain ⟨a, l, c, a', l', c', h1, h2, h3, h4, h5⟩ := h.ex
  exact ⟨a, l, c, a', l', c', hm.at' h1, h2.no hm, h3.no hm, h4, h5⟩
theorem St.Rx.cellX {w : World} {a : Option Addr} {l c : Nat} {X : List Exc} (h : Rx excL 33 w a l c X) {i : Nat} (hi : i < l) {K : ByteArray → Int → Bool → Prop} (hk : K (at0 X i).n (at0 X i).k (at0 X i).f) :
    ∃ ad : Addr, a = some ad ∧ (0 : Int) ≤ (i : Int) ∧ (i : Int) < (↑l : Int) ∧ ∃ s : ByteArray, w.cell? (Addr.add (Addr.add ad (Int.toNat (i : Int) * 3)) 0) = some (.string s) ∧ ∃ k : Int, w.cell? (Addr.add (Addr.add ad (Int.toNat (i : Int) * 3)) 1) = some (.int .i64 k) ∧
      ∃ f : Bool, w.cell? (Addr.add (Addr.add ad (Int.toNat (i : Int) * 3)) 2) = some (.bool f) ∧ K s k f := by
  have hil := h.lt hi
  obtain ⟨g, rfl, hc⟩ := Row.getS h hil (s := 3) rfl
  rw [at0_eq hil] at hk
  rw [Int.toNat_natCast]
  exact ⟨_, rfl, by omega, by omega, _, hc 0 _ rfl, _, hc 1 _ rfl, _, hc 2 _ rfl, hk⟩
theorem St.Rx.cellB {w : World} {a : Option Addr} {l c : Nat} {B : List Bnd} (h : Rx bndL 35 w a l c B) {i : Nat} (hi : i < l) {K : ByteArray → ByteArray → ByteArray → Prop} (hk : K (at0 B i).x (at0 B i).q (at0 B i).p) :
    ∃ ad : Addr, a = some ad ∧ (0 : Int) ≤ (i : Int) ∧ (i : Int) < (↑l : Int) ∧ ∃ s : ByteArray, w.cell? (Addr.add (Addr.add ad (Int.toNat (i : Int) * 3)) 0) = some (.string s) ∧ ∃ k : ByteArray, w.cell? (Addr.add (Addr.add ad (Int.toNat (i : Int) * 3)) 1) = some (.string k) ∧
      ∃ f : ByteArray, w.cell? (Addr.add (Addr.add ad (Int.toNat (i : Int) * 3)) 2) = some (.string f) ∧ K s k f := by
  have hil := h.lt hi
  obtain ⟨g, rfl, hc⟩ := Row.getS h hil (s := 3) rfl
  rw [at0_eq hil] at hk
  rw [Int.toNat_natCast]
  exact ⟨_, rfl, by omega, by omega, _, hc 0 _ rfl, _, hc 1 _ rfl, _, hc 2 _ rfl, hk⟩
section
variable {w : World} {r : Nat} {X : List Exc} {B : List Bnd} (hR : RTb w r X B)
include hR
theorem findR_ok (n : ByteArray) (hl : X.length < 1000000000) (R : Value → World → Prop) (h : ∀ w', Mod no w w' → R (.tuple #[.agg ⟨(fx n X).cs⟩, .bool (hx n X)]) w') :
    Ca Tryz.prog 43 #[.pointer (some ⟨r, 0, none⟩), .string n] w R := by
  refine ca43 (some ⟨r, 0, none⟩) n w R ?_
  obtain ⟨a, l, c, a', l', c', h1, h2, h3, h4, h5⟩ := hR.ex
  intro w0 e0
  have m0 : Mod no w w0 := by subst e0; exact Mod.alloc _ _
  have b0 : Xc w0 w.heap.size exc0 := by subst e0; exact new_at _ _
  clear e0
  have hxl := h2.len.1
  refine ⟨a, l, c, by rw [cl1 (m0.at' h1)]; rfl, ?_⟩
  refine ⟨fun x w' => ∃ i : Nat, x = i ∧ i ≤ l ∧ Mod no w w' ∧ Xc w' w.heap.size exc0 ∧ findX n X = findX n (X.drop i), fun x _ => ((l : Int) - x).toNat, ⟨0, rfl, by omega, m0, b0, rfl⟩, ?_⟩
  rintro _ _ w9 ⟨i, rfl, hi, m9, b9, he⟩
  refine ifK_dec (fun hlt => ?_) (fun hge => ?_)
  · have hil : i < X.length := by omega
    have hd : X.drop i = at0 X i :: X.drop (i + 1) := by rw [List.drop_eq_getElem_cons hil, at0_eq hil]
    have e1 : IntKind.i64.wrap ((i : Int) + 1) = ((i + 1 : Nat) : Int) := (by first | (simp only [IntKind.wrap_i64]; omega) | omega)
    rw [e1]
    clear e1
    refine (h2.no m9).cellX (by omega) ?_
    intro w14 e14
    have m14 : Mod no w9 w14 := by subst e14; exact Mod.alloc _ _
    have b14 : Xc w14 w9.heap.size exc0 := by subst e14; exact new_at _ _
    clear e14
    refine put3 b14 fun w20 m20 b20 => ⟨_, by rw [cl1 b20]; rfl, ?_⟩
    have m920 : Mod no w9 w20 := m14.new m20 fun k hk => by cases hk; exact Nat.le_refl _
    have hlt9 := lt_of_heap b9
    rw [toList_beq]
    refine ifK_dec (fun hn => ?_) (fun hn => ?_)
    · refine ⟨_, by rw [cl1 b20]; rfl, _, by rw [cl1 b20]; rfl, _, by rw [cl1 b20]; rfl, put3 (m920.at' b9) fun w30 m30 b30 => ?_⟩
      refine ⟨_, by rw [cl1 b30]; rfl, _, by rw [cl1 b30]; rfl, _, by rw [cl1 b30]; rfl, ?_⟩
      have hf : findX n X = some (at0 X i) := by
        rw [he, hd, findX, List.find?_cons]
        have : (n == (at0 X i).n) = true := by rw [hn]; exact beq_self_eq_true _
        rw [this]
      have h' := h w30 ((m9.trans m920).new m30 fun k hk => by cases hk; exact Nat.le_refl _)
      rw [fx, hx, hf] at h'
      exact h'
    · refine ⟨⟨i + 1, rfl, by omega, m9.trans m920, m920.at' b9, ?_⟩, by simp only; omega⟩
      rw [he, hd, findX, List.find?_cons]
      have : (n == (at0 X i).n) = false := beq_false_of_ne fun e => hn e.symm
      rw [this]
      rfl
  · refine put3 b9 fun w39 m39 b39 => ⟨_, by rw [cl1 b39]; rfl, _, by rw [cl1 b39]; rfl, _, by rw [cl1 b39]; rfl, ?_⟩
    have hf : findX n X = none := by rw [he, List.drop_eq_nil_of_le (by omega)]; rfl
    have h' := h w39 (m9.new m39 fun k hk => by cases hk; exact Nat.le_refl _)
    rw [fx, hx, hf] at h'
    exact h'
theorem hasR_ok (b : Bnd) (hl : B.length < 1000000000) (R : Value → World → Prop) (h : ∀ w', Mod no w w' → R (.bool (decide (b ∈ B))) w') :
    Ca Tryz.prog 20 #[.pointer (some ⟨r, 0, none⟩), .agg ⟨b.cs⟩] w R := by
  refine (ca20 (some ⟨r, 0, none⟩) b.x b.q b.p w R ?_ : Ca _ _ _ _ _)
  obtain ⟨a, l, c, a', l', c', h1, h2, h3, h4, h5⟩ := hR.ex
  intro w0 e0
  have m0 : Mod no w w0 := by subst e0; exact Mod.alloc _ _
  have b0 : Bc w0 w.heap.size b := by subst e0; exact new_at _ _
  clear e0
  have hxl := h3.len.1
  refine ⟨a', l', c', by rw [cl1 (m0.at' h1)]; rfl, ?_⟩
  refine ⟨fun x w' => ∃ i : Nat, x = i ∧ i ≤ l' ∧ Mod no w w' ∧ Bc w' w.heap.size b ∧ (b ∈ B ↔ b ∈ B.drop i), fun x _ => ((l' : Int) - x).toNat, ⟨0, rfl, by omega, m0, b0, Iff.rfl⟩, ?_⟩
  rintro _ _ w9 ⟨i, rfl, hi, m9, b9, he⟩
  refine ifK_dec (fun hlt => ?_) (fun hge => ?_)
  · have hil : i < B.length := by omega
    have hd : B.drop i = at0 B i :: B.drop (i + 1) := by rw [List.drop_eq_getElem_cons hil, at0_eq hil]
    have e1 : IntKind.i64.wrap ((i : Int) + 1) = ((i + 1 : Nat) : Int) := (by first | (simp only [IntKind.wrap_i64]; omega) | omega)
    rw [e1]
    clear e1
    refine (h3.no m9).cellB (by omega) ?_
    intro w14 e14
    have m14 : Mod no w9 w14 := by subst e14; exact Mod.alloc _ _
    have b14 : w14.heap[w9.heap.size]? = some (.cells #[.string (ByteArray.mk #[]), .string (ByteArray.mk #[]), .string (ByteArray.mk #[])] 35 (0, 0)) := by subst e14; exact new_at _ _
    clear e14
    refine put3 b14 fun w20 m20 b20 => ?_
    have m920 : Mod no w9 w20 := m14.new m20 fun k hk => by cases hk; exact Nat.le_refl _
    have b9' := m920.at' b9
    refine ⟨_, by rw [cl1 b20]; rfl, _, by rw [cl1 b20]; rfl, _, by rw [cl1 b20]; rfl, _, by rw [cl1 b9']; rfl, _, by rw [cl1 b9']; rfl, _, by rw [cl1 b9']; rfl, ?_⟩
    refine eqA_agg bnd_s.guard (bnd_s.eq (at0 B i) b) (ifK_dec (fun hn => ?_) (fun hn => ?_))
    · have h' := h w20 (m9.trans m920)
      rw [decide_eq_true (he.2 (by rw [hd, hn]; exact List.mem_cons_self ..))] at h'
      exact h'
    · refine ⟨⟨i + 1, rfl, by omega, m9.trans m920, b9', ?_⟩, by simp only; omega⟩
      rw [he, hd, List.mem_cons]
      exact ⟨fun h => h.resolve_left fun e => hn e.symm, .inr⟩
  · have h' := h w9 m9
    rw [decide_eq_false (fun hm => by have := he.1 hm; rw [List.drop_eq_nil_of_le (by omega)] at this; cases this)] at h'
    exact h'
end
end Go.Proofs.YtehhhkcemmfjpaaGreatDoor

/- The formulas of functions, printed by a program of mine (gen.py) out of the translation. -/
namespace Go.Proofs.YtehhhkcemmfjpaaGreatDoor
open Go Go.Proofs.YtehhhkcemmfjpaaGreatDoor.St
open _root_.Go.Value (string int bool slice pointer agg tuple map func nilFunc iface)
open _root_.Go.World (cell? frozen? setCell alloc drew)
open _root_.Go.Addr (add)
open _root_.Go.Obj (cells)
open _root_.Go.IntKind (wrap i64 u64 i32 u32 u8)
set_option maxRecDepth 100000

/-- (*staith/staithref07.Table).Forget -/
noncomputable def C42 : Code := (Tryz.f42.body).getD .skip
def pl42 : Nat → Plan := fun _ => .done
def ls42 : Nat → List (Nat × LT)
  | 4 => [(5, (.one .slice)), (14, (.one (.int .i64)))]
  | _ => []
def W42 (t : Option Addr) (queue : ByteArray) (w : World) (R : Value → World → Prop) : Prop :=
  (onP (t) (fun a0 =>
(∃ p1 : Option Addr, (∃ n2 : Nat, (∃ n3 : Nat, ((cell? w (add a0 1) = some (slice p1 n2 n3)) ∧ (∃ z4 : Option Addr → Nat → Nat → Int → World → Prop, (∃ z5 : Option Addr → Nat → Nat → Int → World → Nat, ((z4 (none) (0) (0) (0) (w)) ∧ (∀ (_ : Nat → Value), (∀ (p7 : Option Addr), (∀ (n8 : Nat), (∀ (n9 : Nat), (∀ (x10 : Int), (∀ (w11 : World), ((z4 (p7) (n8) (n9) (x10) (w11)) → (ifK (decide (x10 < (↑n2 : Int)))
(∃ a12 : Addr, ((p1 = some a12) ∧ (((0 : Int) ≤ x10) ∧ (((x10 : Int) < (↑n2 : Int)) ∧ (∃ s13 : ByteArray, ((cell? w11 (add (add a12 (Int.toNat x10 * 3)) 0) = some (string s13)) ∧ (∃ s14 : ByteArray, ((cell? w11 (add (add a12 (Int.toNat x10 * 3)) 1) = some (string s14)) ∧ (∃ s15 : ByteArray, ((cell? w11 (add (add a12 (Int.toNat x10 * 3)) 2) = some (string s15)) ∧ (atW (alloc w11 (cells (Array.mk [string (ByteArray.mk #[]), string (ByteArray.mk #[]), string (ByteArray.mk #[])]) 35 (0, 0))) (fun w16 =>
(st1 (add (nw w11) 0) (string s13) w16 (fun w18 =>
(st1 (add (nw w11) 1) (string s14) w18 (fun w20 =>
(st1 (add (nw w11) 2) (string s15) w20 (fun w22 =>
(∃ s23 : ByteArray, ((cell? w22 (add (nw w11) 1) = some (string s23)) ∧ (ifK (!ByteArray.toList s23 == ByteArray.toList queue)
(∃ s24 : ByteArray, ((cell? w22 (add (nw w11) 0) = some (string s24)) ∧ (∃ s25 : ByteArray, ((cell? w22 (add (nw w11) 1) = some (string s25)) ∧ (∃ s26 : ByteArray, ((cell? w22 (add (nw w11) 2) = some (string s26)) ∧ (atW (alloc w22 (cells (Array.mk [string s24, string s25, string s26]) 35 (0, 0))) (fun w27 =>
(∃ v28 : Value, (∃ w29 : World, ((Sem.run Tryz.prog (Builtin.append_ (Array.mk [27, 27]) 27 (Array.mk [slice p7 n8 n9, slice (some (nw w22)) 1 1])) w27 = Result.ok v28 w29) ∧ (∃ p30 : Option Addr, (∃ n31 : Nat, (∃ n32 : Nat, ((v28 = slice p30 n31 n32) ∧ ((z4 (p30) (n31) (n32) (wrap i64 (x10 + 1)) (w29)) ∧ (z5 p30 n31 n32 (wrap i64 (x10 + 1)) w29 < z5 p7 n8 n9 x10 w11)))))))))))))))))
((z4 (p7) (n8) (n9) (wrap i64 (x10 + 1)) (w22)) ∧ (z5 p7 n8 n9 (wrap i64 (x10 + 1)) w22 < z5 p7 n8 n9 x10 w11)))))))))))))))))))))))
(onP (t) (fun a33 =>
(∃ p34 : Option Addr, (∃ n35 : Nat, (∃ n36 : Nat, ((cell? w11 (add a33 1) = some (slice p34 n35 n36)) ∧ (onP (t) (fun a37 =>
(st1 (add (add a37 1) 0) (slice p7 n8 n9) w11 (fun w39 =>
(R (int i64 (wrap i64 ((↑n35 : Int) - (↑n8 : Int)))) (w39)))))))))))))))))))))))))))))
theorem ca42 (t : Option Addr) (queue : ByteArray) (w : World) (R : Value → World → Prop) (h : W42 t queue w R) : Ca Tryz.prog 42 ⟨[(.pointer t), (.string queue)]⟩ w R :=
  caB (fn := Tryz.f42) (pl := pl42) (ls := ls42) Tryz.func42 (by kernel_rfl) (by kernel_rfl) h

/-- (*staith/staithref07.Table).Unbind -/
noncomputable def C40 : Code := (Tryz.f40.body).getD .skip
def pl40 : Nat → Plan := fun _ => .done
def ls40 : Nat → List (Nat × LT)
  | 7 => [(5, (.one .slice)), (17, (.one (.int .i64)))]
  | _ => []
def W40 (t : Option Addr) (b0_ : ByteArray) (b1_ : ByteArray) (b2_ : ByteArray) (w : World) (R : Value → World → Prop) : Prop :=
  (atW (alloc w (cells (Array.mk [string b0_, string b1_, string b2_]) 35 (0, 0))) (fun w0 =>
(∃ s1 : ByteArray, ((cell? w0 (add (nw w) 0) = some (string s1)) ∧ (∃ s2 : ByteArray, ((cell? w0 (add (nw w) 1) = some (string s2)) ∧ (∃ s3 : ByteArray, ((cell? w0 (add (nw w) 2) = some (string s3)) ∧ (Ca Tryz.prog (20) (Array.mk [pointer t, agg (Array.mk (List.reverse [string s3, string s2, string s1]))]) (w0) (fun v4 => (fun w5 =>
(∃ b6 : Bool, ((v4 = bool b6) ∧ (ifK (!b6)
(R (int i64 3) (w5))
(onP (t) (fun a7 =>
(∃ p8 : Option Addr, (∃ n9 : Nat, (∃ n10 : Nat, ((cell? w5 (add a7 1) = some (slice p8 n9 n10)) ∧ (∃ z11 : Option Addr → Nat → Nat → Int → World → Prop, (∃ z12 : Option Addr → Nat → Nat → Int → World → Nat, ((z11 (none) (0) (0) (0) (w5)) ∧ (∀ (_ : Nat → Value), (∀ (p14 : Option Addr), (∀ (n15 : Nat), (∀ (n16 : Nat), (∀ (x17 : Int), (∀ (w18 : World), ((z11 (p14) (n15) (n16) (x17) (w18)) → (ifK (decide (x17 < (↑n9 : Int)))
(∃ a19 : Addr, ((p8 = some a19) ∧ (((0 : Int) ≤ x17) ∧ (((x17 : Int) < (↑n9 : Int)) ∧ (∃ s20 : ByteArray, ((cell? w18 (add (add a19 (Int.toNat x17 * 3)) 0) = some (string s20)) ∧ (∃ s21 : ByteArray, ((cell? w18 (add (add a19 (Int.toNat x17 * 3)) 1) = some (string s21)) ∧ (∃ s22 : ByteArray, ((cell? w18 (add (add a19 (Int.toNat x17 * 3)) 2) = some (string s22)) ∧ (atW (alloc w18 (cells (Array.mk [string (ByteArray.mk #[]), string (ByteArray.mk #[]), string (ByteArray.mk #[])]) 35 (0, 0))) (fun w23 =>
(st1 (add (nw w18) 0) (string s20) w23 (fun w25 =>
(st1 (add (nw w18) 1) (string s21) w25 (fun w27 =>
(st1 (add (nw w18) 2) (string s22) w27 (fun w29 =>
(∃ s30 : ByteArray, ((cell? w29 (add (nw w18) 0) = some (string s30)) ∧ (∃ s31 : ByteArray, ((cell? w29 (add (nw w18) 1) = some (string s31)) ∧ (∃ s32 : ByteArray, ((cell? w29 (add (nw w18) 2) = some (string s32)) ∧ (∃ s33 : ByteArray, ((cell? w29 (add (nw w) 0) = some (string s33)) ∧ (∃ s34 : ByteArray, ((cell? w29 (add (nw w) 1) = some (string s34)) ∧ (∃ s35 : ByteArray, ((cell? w29 (add (nw w) 2) = some (string s35)) ∧ (eqA Tryz.prog 35 (agg (Array.mk (List.reverse [string s32, string s31, string s30]))) (agg (Array.mk (List.reverse [string s35, string s34, string s33]))) (w29) (fun b36 => (fun w37 =>
(ifK (!b36)
(∃ s38 : ByteArray, ((cell? w37 (add (nw w18) 0) = some (string s38)) ∧ (∃ s39 : ByteArray, ((cell? w37 (add (nw w18) 1) = some (string s39)) ∧ (∃ s40 : ByteArray, ((cell? w37 (add (nw w18) 2) = some (string s40)) ∧ (atW (alloc w37 (cells (Array.mk [string s38, string s39, string s40]) 35 (0, 0))) (fun w41 =>
(∃ v42 : Value, (∃ w43 : World, ((Sem.run Tryz.prog (Builtin.append_ (Array.mk [27, 27]) 27 (Array.mk [slice p14 n15 n16, slice (some (nw w37)) 1 1])) w41 = Result.ok v42 w43) ∧ (∃ p44 : Option Addr, (∃ n45 : Nat, (∃ n46 : Nat, ((v42 = slice p44 n45 n46) ∧ ((z11 (p44) (n45) (n46) (wrap i64 (x17 + 1)) (w43)) ∧ (z12 p44 n45 n46 (wrap i64 (x17 + 1)) w43 < z12 p14 n15 n16 x17 w18)))))))))))))))))
((z11 (p14) (n15) (n16) (wrap i64 (x17 + 1)) (w37)) ∧ (z12 p14 n15 n16 (wrap i64 (x17 + 1)) w37 < z12 p14 n15 n16 x17 w18))))))))))))))))))))))))))))))))))))
(onP (t) (fun a47 =>
(st1 (add (add a47 1) 0) (slice p14 n15 n16) w18 (fun w49 =>
(R (int i64 0) (w49)))))))))))))))))))))))))))))))))))))
theorem ca40 (t : Option Addr) (b0_ : ByteArray) (b1_ : ByteArray) (b2_ : ByteArray) (w : World) (R : Value → World → Prop) (h : W40 t b0_ b1_ b2_ w R) : Ca Tryz.prog 40 ⟨[(.pointer t), (.agg ⟨[(.string b0_), (.string b1_), (.string b2_)]⟩)]⟩ w R :=
  caB (fn := Tryz.f40) (pl := pl40) (ls := ls40) Tryz.func40 (by kernel_rfl) (by kernel_rfl) h
end Go.Proofs.YtehhhkcemmfjpaaGreatDoor

/- The reference's Forget, Unbind. -/
namespace Go.Proofs.YtehhhkcemmfjpaaGreatDoor
open Go Go.Proofs.YtehhhkcemmfjpaaGreatDoor Go.Proofs.YtehhhkcemmfjpaaGreatDoor.St

theorem empty3 {w : World} : (w.alloc (.cells #[.string (ByteArray.mk #[]), .string (ByteArray.mk #[]), .string (ByteArray.mk #[])] 35 (0, 0))).heap[w.heap.size]? = some (.cells #[.string (ByteArray.mk #[]), .string (ByteArray.mk #[]), .string (ByteArray.mk #[])] 35 (0, 0)) := new_at _ _
/-- append(l, b), where b lies in a block of its own. -/
theorem pushB {w : World} {a : Option Addr} {l c : Nat} {L : List Bnd} (h : Rx bndL 35 w a l c L) {k : Nat} {b : Bnd} (hk : Bc w k b) (hn : l + 1 ≤ 1099511627776) :
    ∃ a' c' w', (Builtin.append_ #[27, 27] 27 #[.slice a l c, .slice (some ⟨k, 0, none⟩) 1 1]).run Tryz.prog w = .ok (.slice a' (l + 1) c') w' ∧ Rx bndL 35 w' a' (l + 1) c' (L ++ [b]) ∧ Mod (rowB a) w w' ∧ (∀ k, rowB a' k → rowB a k ∨ w.heap.size ≤ k) :=
  Row.push (P := Tryz.prog) (t := 27) (ty := 27) (by kernel_rfl) h (b := some ⟨k, 0, none⟩) (m := 1) (cc := 1) (ys := [b]) rfl (fun ad had j v hj => by
    cases had
    rw [cl1 hk]
    simpa [bndL, Bnd.cs] using hj) (fun h => by cases h) hn
section
variable {w : World} {r : Nat} {X : List Exc} {B : List Bnd} (hR : RTb w r X B)
include hR
theorem forgetR_ok (n : ByteArray) (hl : B.length < 1000000000) (R : Value → World → Prop) (h : ∀ w', RTb w' r X (B.filter fun b => !decide (b.q = n)) → Mod (on r) w w' → R (.int .i64 ((B.length : Int) - (B.filter fun b => !decide (b.q = n)).length)) w') :
    Ca Tryz.prog 42 #[.pointer (some ⟨r, 0, none⟩), .string n] w R := by
  refine ca42 (some ⟨r, 0, none⟩) n w R ?_
  obtain ⟨a, l, c, a', l', c', h1, h2, h3, h4, h5⟩ := hR.ex
  have hxl := h3.len.1
  have hrlt := lt_of_heap h1
  refine ⟨a', l', c', by rw [cl1 h1]; rfl, ?_⟩
  refine ⟨fun p q s x w' => ∃ i : Nat, x = i ∧ i ≤ l' ∧ Mod no w w' ∧ Rx bndL 35 w' p q s ((B.take i).filter fun b => !decide (b.q = n)) ∧ ∀ k, rowB p k → w.heap.size ≤ k, fun _ _ _ x _ => ((l' : Int) - x).toNat,
    ⟨0, rfl, by omega, Mod.refl _ _, Row.empty _ _ _, fun k hk => by cases hk⟩, ?_⟩
  rintro _ p q s _ w11 ⟨i, rfl, hi, m11, hx, hn⟩
  have hql := hx.len.1
  have hqi : q ≤ i := by
    have : ((B.take i).filter fun b => !decide (b.q = n)).length ≤ (B.take i).length := List.length_filter_le _ _
    rw [List.length_take] at this
    omega
  refine ifK_dec (fun hlt => ?_) (fun hge => ?_)
  · have hil : i < B.length := by omega
    have htk : B.take (i + 1) = B.take i ++ [at0 B i] := by rw [List.take_succ_eq_append_getElem hil, at0_eq hil]
    have e1 : IntKind.i64.wrap ((i : Int) + 1) = ((i + 1 : Nat) : Int) := (by first | (simp only [IntKind.wrap_i64]; omega) | omega)
    rw [e1]
    clear e1
    refine (h3.no m11).cellB (by omega) ?_
    intro w16 e16
    have m16 : Mod no w11 w16 := by subst e16; exact Mod.alloc _ _
    have b16 : w16.heap[w11.heap.size]? = some (.cells #[.string (ByteArray.mk #[]), .string (ByteArray.mk #[]), .string (ByteArray.mk #[])] 35 (0, 0)) := by subst e16; exact empty3
    clear e16
    refine put3 b16 fun w22 m22 b22 => ⟨_, by rw [cl1 b22]; rfl, ?_⟩
    have m1122 : Mod no w11 w22 := m16.new m22 fun k hk => by cases hk; exact Nat.le_refl _
    have hx22 := hx.no m1122
    rw [toList_beq]
    refine ifK_not (fun hq => ?_) (fun hq => ?_)
    · refine ⟨_, by rw [cl1 b22]; rfl, _, by rw [cl1 b22]; rfl, _, by rw [cl1 b22]; rfl, ?_⟩
      intro w27 e27
      have m27 : Mod no w22 w27 := by subst e27; exact Mod.alloc _ _
      have b27 : Bc w27 w22.heap.size (at0 B i) := by subst e27; exact new_at _ _
      clear e27
      obtain ⟨p', s', w29, hrun, hx29, m29, hnew⟩ := pushB (hx22.no m27) b27 (by omega)
      have g1 := m11.size
      have g2 := m1122.size
      have g3 := m27.size
      refine ⟨_, w29, hrun, _, _, _, rfl, ⟨i + 1, rfl, by omega, ((m11.trans m1122).trans m27).new m29 hn, ?_, fun k hk => (hnew k hk).elim (hn k) fun h => by omega⟩, by simp only; omega⟩
      rw [htk, List.filter_append, List.filter_cons_of_pos (by rw [hq]; rfl)]
      exact hx29
    · refine ⟨⟨i + 1, rfl, by omega, m11.trans m1122, ?_, hn⟩, by simp only; omega⟩
      rw [htk, List.filter_append, List.filter_cons_of_neg (by rw [hq]; simp), List.filter_nil, List.append_nil]
      exact hx22
  · have hti : B.take i = B := List.take_of_length_le (by omega)
    rw [hti] at hx hql
    have h1' := m11.at' h1
    refine ⟨a', l', c', by rw [cl1 h1']; rfl, ⟨_, by rw [cl2 h1']; rfl⟩, fz2 h1' _ _, ?_⟩
    intro w39 e39
    have m39 : Mod (on r) w11 w39 := by subst e39; exact Mod.set2 _ _ _ _ _
    have b39 : w39.heap[r]? = some (.cells #[.slice a l c, .slice p q s] 29 (0, 0)) := by subst e39; rw [set2 h1']; rfl
    clear e39
    have hpr : ¬ rowB p r := fun hk => by have := hn r hk; omega
    have h' := h w39 ⟨a, l, c, p, q, s, b39, (h2.no m11).mod m39 (fun k hk hS => by cases hS; exact h4 hk), hx.mod m39 (fun k hk hS => by cases hS; exact hpr hk), h4, hpr⟩ (m11.no_trans m39)
    have e1 : IntKind.i64.wrap ((l' : Int) - (q : Int)) = (B.length : Int) - ((B.filter fun b => !decide (b.q = n)).length : Nat) := by rw [hxl, hql]; exact (by first | (simp only [IntKind.wrap_i64]; omega) | omega)
    rw [e1]
    exact h'
end
end Go.Proofs.YtehhhkcemmfjpaaGreatDoor

/- The reference's Unbind. -/
namespace Go.Proofs.YtehhhkcemmfjpaaGreatDoor
open Go Go.Proofs.YtehhhkcemmfjpaaGreatDoor Go.Proofs.YtehhhkcemmfjpaaGreatDoor.St

theorem unbindR_ok {w : World} {r : Nat} {X : List Exc} {B : List Bnd} (hR : RTb w r X B) (b : Bnd) (hl : B.length < 1000000000) (R : Value → World → Prop)
    (h : ∀ w', RTb w' r X (if b ∈ B then B.filter fun x => !decide (x = b) else B) → Mod (on r) w w' → R (.int .i64 (if b ∈ B then 0 else 3)) w') :
    Ca Tryz.prog 40 #[.pointer (some ⟨r, 0, none⟩), .agg ⟨b.cs⟩] w R := by
  refine (ca40 (some ⟨r, 0, none⟩) b.x b.q b.p w R ?_ : Ca _ _ _ _ _)
  intro w0 e0
  have m0 : Mod no w w0 := by subst e0; exact Mod.alloc _ _
  have b0 : Bc w0 w.heap.size b := by subst e0; exact new_at _ _
  clear e0
  refine ⟨_, by rw [cl1 b0]; rfl, _, by rw [cl1 b0]; rfl, _, by rw [cl1 b0]; rfl, ?_⟩
  refine (hasR_ok (hR.no m0) b hl _ fun w5 m5 => ?_ : Ca _ _ _ _ _)
  refine ⟨_, rfl, ?_⟩
  have m05 := m0.trans m5
  have hR5 := hR.no m05
  have b5 := m5.at' b0
  by_cases hb : b ∈ B
  · rw [if_pos hb, if_pos hb] at h
    rw [decide_eq_true hb]
    refine ifK_of (fun h => by cases h) fun _ => ?_
    obtain ⟨a, l, c, a', l', c', h1, h2, h3, h4, h5⟩ := hR5.ex
    have hxl := h3.len.1
    have hrlt : r < w.heap.size := by obtain ⟨_, _, _, _, _, _, hh, _⟩ := hR.ex; exact lt_of_heap hh
    have g0 := m05.size
    refine ⟨a', l', c', by rw [cl1 h1]; rfl, ?_⟩
    refine ⟨fun p q s x w' => ∃ i : Nat, x = i ∧ i ≤ l' ∧ Mod no w5 w' ∧ Rx bndL 35 w' p q s ((B.take i).filter fun x => !decide (x = b)) ∧ ∀ k, rowB p k → w5.heap.size ≤ k, fun _ _ _ x _ => ((l' : Int) - x).toNat,
      ⟨0, rfl, by omega, Mod.refl _ _, Row.empty _ _ _, fun k hk => by cases hk⟩, ?_⟩
    rintro _ p q s _ w11 ⟨i, rfl, hi, m11, hx, hn⟩
    have hql := hx.len.1
    have hqi : q ≤ i := by
      have : ((B.take i).filter fun x => !decide (x = b)).length ≤ (B.take i).length := List.length_filter_le _ _
      rw [List.length_take] at this
      omega
    refine ifK_dec (fun hlt => ?_) (fun hge => ?_)
    · have hil : i < B.length := by omega
      have htk : B.take (i + 1) = B.take i ++ [at0 B i] := by rw [List.take_succ_eq_append_getElem hil, at0_eq hil]
      have e1 : IntKind.i64.wrap ((i : Int) + 1) = ((i + 1 : Nat) : Int) := (by first | (simp only [IntKind.wrap_i64]; omega) | omega)
      rw [e1]
      clear e1
      refine (h3.no m11).cellB (by omega) ?_
      intro w16 e16
      have m16 : Mod no w11 w16 := by subst e16; exact Mod.alloc _ _
      have b16 : w16.heap[w11.heap.size]? = some (.cells #[.string (ByteArray.mk #[]), .string (ByteArray.mk #[]), .string (ByteArray.mk #[])] 35 (0, 0)) := by subst e16; exact empty3
      clear e16
      refine put3 b16 fun w22 m22 b22 => ?_
      have m1122 : Mod no w11 w22 := m16.new m22 fun k hk => by cases hk; exact Nat.le_refl _
      have hx22 := hx.no m1122
      have bb := m1122.at' (m11.at' b5)
      refine ⟨_, by rw [cl1 b22]; rfl, _, by rw [cl1 b22]; rfl, _, by rw [cl1 b22]; rfl, _, by rw [cl1 bb]; rfl, _, by rw [cl1 bb]; rfl, _, by rw [cl1 bb]; rfl, ?_⟩
      refine eqA_agg bnd_s.guard (bnd_s.eq (at0 B i) b) (ifK_not (fun hq => ?_) (fun hq => ?_))
      · refine ⟨_, by rw [cl1 b22]; rfl, _, by rw [cl1 b22]; rfl, _, by rw [cl1 b22]; rfl, ?_⟩
        intro w27 e27
        have m27 : Mod no w22 w27 := by subst e27; exact Mod.alloc _ _
        have b27 : Bc w27 w22.heap.size (at0 B i) := by subst e27; exact new_at _ _
        clear e27
        obtain ⟨p', s', w29, hrun, hx29, m29, hnew⟩ := pushB (hx22.no m27) b27 (by omega)
        have g1 := m11.size
        have g2 := m1122.size
        have g3 := m27.size
        refine ⟨_, w29, hrun, _, _, _, rfl, ⟨i + 1, rfl, by omega, ((m11.trans m1122).trans m27).new m29 hn, ?_, fun k hk => (hnew k hk).elim (hn k) fun h => by omega⟩, by simp only; omega⟩
        rw [htk, List.filter_append, List.filter_cons_of_pos (by rw [hq]; rfl)]
        exact hx29
      · refine ⟨⟨i + 1, rfl, by omega, m11.trans m1122, ?_, hn⟩, by simp only; omega⟩
        rw [htk, List.filter_append, List.filter_cons_of_neg (by rw [hq]; simp), List.filter_nil, List.append_nil]
        exact hx22
    · have hti : B.take i = B := List.take_of_length_le (by omega)
      rw [hti] at hx
      have h1' := m11.at' h1
      refine ⟨⟨_, by rw [cl2 h1']; rfl⟩, fz2 h1' _ _, ?_⟩
      intro w39 e39
      have m39 : Mod (on r) w11 w39 := by subst e39; exact Mod.set2 _ _ _ _ _
      have b39 : w39.heap[r]? = some (.cells #[.slice a l c, .slice p q s] 29 (0, 0)) := by subst e39; rw [set2 h1']; rfl
      clear e39
      have hpr : ¬ rowB p r := fun hk => by have := hn r hk; omega
      exact h w39 ⟨a, l, c, p, q, s, b39, (h2.no m11).mod m39 (fun k hk hS => by cases hS; exact h4 hk), hx.mod m39 (fun k hk hS => by cases hS; exact hpr hk), h4, hpr⟩ ((m05.trans m11).no_trans m39)
  · rw [if_neg hb, if_neg hb] at h
    rw [decide_eq_false hb]
    exact ifK_of (fun _ => h w5 hR5 m05.of_no) fun h => by cases h
end Go.Proofs.YtehhhkcemmfjpaaGreatDoor

/- The formulas of functions, printed by a program of mine (gen.py) out of the translation. -/
namespace Go.Proofs.YtehhhkcemmfjpaaGreatDoor
open Go Go.Proofs.YtehhhkcemmfjpaaGreatDoor.St
open _root_.Go.Value (string int bool slice pointer agg tuple map func nilFunc iface)
open _root_.Go.World (cell? frozen? setCell alloc drew)
open _root_.Go.Addr (add)
open _root_.Go.Obj (cells)
open _root_.Go.IntKind (wrap i64 u64 i32 u32 u8)
set_option maxRecDepth 100000

/-- (*staith/staithref07.Table).Drop -/
noncomputable def C38 : Code := (Tryz.f38.body).getD .skip
def pl38 : Nat → Plan := fun _ => .done
def ls38 : Nat → List (Nat × LT)
  | 6 => [(0, .agg []), (7, (.one .slice))]
  | 8 => [(7, (.one .slice)), (26, (.one (.int .i64)))]
  | 17 => [(10, (.one .slice)), (44, (.one (.int .i64)))]
  | _ => []
def W38 (t : Option Addr) (name : ByteArray) (w : World) (R : Value → World → Prop) : Prop :=
  (Ca Tryz.prog (43) (Array.mk [pointer t, string name]) (w) (fun v0 => (fun w1 =>
(∃ s2 : ByteArray, (∃ x3 : Int, (∃ b4 : Bool, (∃ b5 : Bool, ((v0 = tuple (Array.mk (List.reverse [bool b5, agg (Array.mk (List.reverse [bool b4, int i64 x3, string s2]))]))) ∧ (atW (alloc w1 (cells (Array.mk [string (ByteArray.mk #[]), int i64 0, bool false]) 33 (0, 0))) (fun w6 =>
(st1 (add (nw w1) 0) (string s2) w6 (fun w8 =>
(st1 (add (nw w1) 1) (int i64 x3) w8 (fun w10 =>
(st1 (add (nw w1) 2) (bool b4) w10 (fun w12 =>
(ifK (!b5)
(R (int i64 3) (w12))
(∃ z13 : Option Addr → Nat → Nat → World → Prop, ((onP (t) (fun a14 =>
(∃ p15 : Option Addr, (∃ n16 : Nat, (∃ n17 : Nat, ((cell? w12 (add a14 0) = some (slice p15 n16 n17)) ∧ (∃ z18 : Option Addr → Nat → Nat → Int → World → Prop, (∃ z19 : Option Addr → Nat → Nat → Int → World → Nat, ((z18 (none) (0) (0) (0) (w12)) ∧ (∀ (_ : Nat → Value), (∀ (p21 : Option Addr), (∀ (n22 : Nat), (∀ (n23 : Nat), (∀ (x24 : Int), (∀ (w25 : World), ((z18 (p21) (n22) (n23) (x24) (w25)) → (ifK (decide (x24 < (↑n16 : Int)))
(∃ a26 : Addr, ((p15 = some a26) ∧ (((0 : Int) ≤ x24) ∧ (((x24 : Int) < (↑n16 : Int)) ∧ (∃ s27 : ByteArray, ((cell? w25 (add (add a26 (Int.toNat x24 * 3)) 0) = some (string s27)) ∧ (∃ x28 : Int, ((cell? w25 (add (add a26 (Int.toNat x24 * 3)) 1) = some (int i64 x28)) ∧ (∃ b29 : Bool, ((cell? w25 (add (add a26 (Int.toNat x24 * 3)) 2) = some (bool b29)) ∧ (atW (alloc w25 (cells (Array.mk [string (ByteArray.mk #[]), int i64 0, bool false]) 33 (0, 0))) (fun w30 =>
(st1 (add (nw w25) 0) (string s27) w30 (fun w32 =>
(st1 (add (nw w25) 1) (int i64 x28) w32 (fun w34 =>
(st1 (add (nw w25) 2) (bool b29) w34 (fun w36 =>
(∃ s37 : ByteArray, ((cell? w36 (add (nw w25) 0) = some (string s37)) ∧ (ifK (!ByteArray.toList s37 == ByteArray.toList name)
(∃ s38 : ByteArray, ((cell? w36 (add (nw w25) 0) = some (string s38)) ∧ (∃ x39 : Int, ((cell? w36 (add (nw w25) 1) = some (int i64 x39)) ∧ (∃ b40 : Bool, ((cell? w36 (add (nw w25) 2) = some (bool b40)) ∧ (atW (alloc w36 (cells (Array.mk [string s38, int i64 x39, bool b40]) 33 (0, 0))) (fun w41 =>
(∃ v42 : Value, (∃ w43 : World, ((Sem.run Tryz.prog (Builtin.append_ (Array.mk [26, 26]) 26 (Array.mk [slice p21 n22 n23, slice (some (nw w36)) 1 1])) w41 = Result.ok v42 w43) ∧ (∃ p44 : Option Addr, (∃ n45 : Nat, (∃ n46 : Nat, ((v42 = slice p44 n45 n46) ∧ ((z18 (p44) (n45) (n46) (wrap i64 (x24 + 1)) (w43)) ∧ (z19 p44 n45 n46 (wrap i64 (x24 + 1)) w43 < z19 p21 n22 n23 x24 w25)))))))))))))))))
((z18 (p21) (n22) (n23) (wrap i64 (x24 + 1)) (w36)) ∧ (z19 p21 n22 n23 (wrap i64 (x24 + 1)) w36 < z19 p21 n22 n23 x24 w25)))))))))))))))))))))))
(z13 (p21) (n22) (n23) (w25))))))))))))))))))) ∧ (∀ (_ : Nat → Value), (∀ (p48 : Option Addr), (∀ (n49 : Nat), (∀ (n50 : Nat), (∀ (w51 : World), ((z13 (p48) (n49) (n50) (w51)) → (onP (t) (fun a52 =>
(∃ p53 : Option Addr, (∃ n54 : Nat, (∃ n55 : Nat, ((cell? w51 (add a52 1) = some (slice p53 n54 n55)) ∧ (∃ z56 : Option Addr → Nat → Nat → Int → World → Prop, (∃ z57 : Option Addr → Nat → Nat → Int → World → Nat, ((z56 (none) (0) (0) (0) (w51)) ∧ (∀ (_ : Nat → Value), (∀ (p59 : Option Addr), (∀ (n60 : Nat), (∀ (n61 : Nat), (∀ (x62 : Int), (∀ (w63 : World), ((z56 (p59) (n60) (n61) (x62) (w63)) → (ifK (decide (x62 < (↑n54 : Int)))
(∃ a64 : Addr, ((p53 = some a64) ∧ (((0 : Int) ≤ x62) ∧ (((x62 : Int) < (↑n54 : Int)) ∧ (∃ s65 : ByteArray, ((cell? w63 (add (add a64 (Int.toNat x62 * 3)) 0) = some (string s65)) ∧ (∃ s66 : ByteArray, ((cell? w63 (add (add a64 (Int.toNat x62 * 3)) 1) = some (string s66)) ∧ (∃ s67 : ByteArray, ((cell? w63 (add (add a64 (Int.toNat x62 * 3)) 2) = some (string s67)) ∧ (atW (alloc w63 (cells (Array.mk [string (ByteArray.mk #[]), string (ByteArray.mk #[]), string (ByteArray.mk #[])]) 35 (0, 0))) (fun w68 =>
(st1 (add (nw w63) 0) (string s65) w68 (fun w70 =>
(st1 (add (nw w63) 1) (string s66) w70 (fun w72 =>
(st1 (add (nw w63) 2) (string s67) w72 (fun w74 =>
(∃ s75 : ByteArray, ((cell? w74 (add (nw w63) 0) = some (string s75)) ∧ (ifK (!ByteArray.toList s75 == ByteArray.toList name)
(∃ s76 : ByteArray, ((cell? w74 (add (nw w63) 0) = some (string s76)) ∧ (∃ s77 : ByteArray, ((cell? w74 (add (nw w63) 1) = some (string s77)) ∧ (∃ s78 : ByteArray, ((cell? w74 (add (nw w63) 2) = some (string s78)) ∧ (atW (alloc w74 (cells (Array.mk [string s76, string s77, string s78]) 35 (0, 0))) (fun w79 =>
(∃ v80 : Value, (∃ w81 : World, ((Sem.run Tryz.prog (Builtin.append_ (Array.mk [27, 27]) 27 (Array.mk [slice p59 n60 n61, slice (some (nw w74)) 1 1])) w79 = Result.ok v80 w81) ∧ (∃ p82 : Option Addr, (∃ n83 : Nat, (∃ n84 : Nat, ((v80 = slice p82 n83 n84) ∧ ((z56 (p82) (n83) (n84) (wrap i64 (x62 + 1)) (w81)) ∧ (z57 p82 n83 n84 (wrap i64 (x62 + 1)) w81 < z57 p59 n60 n61 x62 w63)))))))))))))))))
((z56 (p59) (n60) (n61) (wrap i64 (x62 + 1)) (w74)) ∧ (z57 p59 n60 n61 (wrap i64 (x62 + 1)) w74 < z57 p59 n60 n61 x62 w63)))))))))))))))))))))))
(onP (t) (fun a85 =>
(st1 (add (add a85 0) 0) (slice p48 n49 n50) w63 (fun w87 =>
(onP (t) (fun a88 =>
(st1 (add (add a88 1) 0) (slice p59 n60 n61) w87 (fun w90 =>
(R (int i64 0) (w90))))))))))))))))))))))))))))))))))))))))))))))))))))
theorem ca38 (t : Option Addr) (name : ByteArray) (w : World) (R : Value → World → Prop) (h : W38 t name w R) : Ca Tryz.prog 38 ⟨[(.pointer t), (.string name)]⟩ w R :=
  caB (fn := Tryz.f38) (pl := pl38) (ls := ls38) Tryz.func38 (by kernel_rfl) (by kernel_rfl) h
end Go.Proofs.YtehhhkcemmfjpaaGreatDoor
