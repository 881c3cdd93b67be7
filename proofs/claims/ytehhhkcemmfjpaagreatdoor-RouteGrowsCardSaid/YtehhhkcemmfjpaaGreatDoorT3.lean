/- Parts of the proof of RouteGrowsCard. -/
import Derived.Laws.RangeString
import Derived.Test.YtehhhkcemmfjpaaGreatDoorCore9
import Derived.Test.YtehhhkcemmfjpaaGreatDoorProg
import Derived.Laws.Externs
import Derived.Lib.Bytealg
import Derived.WalkKit
import Derived.Laws.MakeOwn
import Derived.Lib.SliceRun
import Derived.Test.YtehhhkcemmfjpaaGreatDoorT2
/- The program's functions 'plain' and 'Name': what a name is (Con2, for any seat). -/
namespace Go.Proofs.YtehhhkcemmfjpaaGreatDoor
open Go Go.Proofs.YtehhhkcemmfjpaaGreatDoor.St

def letter (c : Nat) : Bool := (decide (97 ≤ c) && decide (c ≤ 122)) || (decide (48 ≤ c) && decide (c ≤ 57)) || c == 45 || c == 95
def lettersB (s : ByteArray) : Bool := s.data.toList.all (fun b => letter b.toNat)
def plainB (s : ByteArray) : Bool := lettersB s && !(ByteArray.toList s == ByteArray.toList (ByteArray.mk #[]))
def nameB (s : ByteArray) : Bool := decide ((s.size : Int) ≤ 20) && plainB s

theorem decode_high (s : ByteArray) (pos : Nat) (h : pos < s.size) (ha : ¬ (s[pos]'h).toNat < 128) : 128 ≤ (Utf8.decode s pos).1 := by
  have e : s.get! (pos + 0) = s[pos]'h := by
    show s.get! pos = _
    simp [ByteArray.get!, getElem!_pos, h]
    rfl
  simp only [Utf8.decode, e, ha, if_false]
  repeat' split
  all_goals simp_all [Utf8.runeError] <;> omega

theorem lettersB_at {s : ByteArray} (h : lettersB s = true) {pos : Nat} (hp : pos < s.size) : letter (s[pos]'hp).toNat = true := by
  rw [lettersB, List.all_eq_true] at h
  exact h _ (by simp [ByteArray.getElem_eq_getElem_data])

theorem lettersB_of {s : ByteArray} (h : ∀ (pos : Nat) (hp : pos < s.size), letter (s[pos]'hp).toNat = true) : lettersB s = true := by
  rw [lettersB, List.all_eq_true]
  intro x hx
  obtain ⟨i, hi, rfl⟩ := List.getElem_of_mem hx
  exact h i (by simpa using hi)

def itPos (w : World) (k n : Nat) : Nat := match w.heap[k]? with | some (.stringIter _ p) => n - p | _ => 0
theorem itPos_of {w : World} {k n p : Nat} {s : ByteArray} (h : w.heap[k]? = some (.stringIter s p)) : itPos w k n = n - p := by simp [itPos, h]

theorem plain_ok (s : ByteArray) (w : World) (R : Value → World → Prop) (h : ∀ w', Mod no w w' → R (.bool (plainB s)) w') : Ca Tryz.prog 82 #[.string s] w R := by
  refine ca82 s w R ?_
  intro w1 e
  subst e
  refine ⟨fun w' => ∃ pos, pos ≤ s.size ∧ w'.heap[w.heap.size]? = some (.stringIter s pos) ∧ Mod no w w' ∧ ∀ (i : Nat) (hi : i < s.size), i < pos → letter (s[i]'hi).toNat = true,
    fun w' => itPos w' w.heap.size s.size, ⟨0, Nat.zero_le _, new_at w _, Mod.alloc w _, fun _ _ h => absurd h (Nat.not_lt_zero _)⟩, ?_⟩
  rintro _ w4 ⟨pos, hle, hit, hm, hgood⟩
  refine ⟨s, pos, hit, ifK_of (fun hp => ?_) (fun hp => ?_)⟩
  · have hp : pos < s.size := of_decide_eq_true hp
    intro w7 e7
    have hm7 : Mod no w w7 := by subst e7; exact hm.new (Mod.putObj w4 _ _) fun k hk => by cases hk; exact Nat.le_refl _
    have hit7 : w7.heap[w.heap.size]? = some (.stringIter s (pos + (Utf8.decode s pos).2)) := by subst e7; exact put_at _ hit
    have hA : letter (Utf8.decode s pos).1 = true → (∃ pos, pos ≤ s.size ∧ w7.heap[w.heap.size]? = some (.stringIter s pos) ∧ Mod no w w7 ∧ ∀ (i : Nat) (hi : i < s.size), i < pos → letter (s[i]'hi).toNat = true) ∧
        itPos w7 w.heap.size s.size < itPos w4 w.heap.size s.size := by
      intro hl
      have hlow : (s[pos]'hp).toNat < 128 := by
        apply Decidable.byContradiction
        intro hh
        have := decode_high s pos hp hh
        simp [letter] at hl
        omega
      have hd := decode_ascii s pos hp hlow
      rw [hd] at hit7 hl
      rw [itPos_of hit, itPos_of hit7]
      refine ⟨⟨pos + 1, hp, hit7, hm7, fun i hi hlt => ?_⟩, by simp only; omega⟩
      by_cases e : i = pos
      · subst e; exact hl
      · exact hgood i hi (by omega)
    have hB : letter (Utf8.decode s pos).1 = false → R (.bool false) w7 := by
      intro hl
      have : plainB s = false := by
        rw [plainB]
        cases hall : lettersB s with
        | false => rfl
        | true =>
          have := lettersB_at hall hp
          by_cases hlow : (s[pos]'hp).toNat < 128
          · rw [decode_ascii s pos hp hlow] at hl; rw [this] at hl; cases hl
          · simp [letter] at this; omega
      have h' := h w7 hm7
      rwa [this] at h'
    have hL : letter (Utf8.decode s pos).1 = ((decide (((Utf8.decode s pos).1 : Int) ≥ 97) && decide (((Utf8.decode s pos).1 : Int) ≤ 122)) || (decide (((Utf8.decode s pos).1 : Int) ≥ 48) && decide (((Utf8.decode s pos).1 : Int) ≤ 57)) ||
        (((Utf8.decode s pos).1 : Int) == 45) || (((Utf8.decode s pos).1 : Int) == 95)) := by
      rw [letter]
      congr 1
      · congr 1
        · congr 1
          · congr 1 <;> exact decide_eq_decide.2 (by omega)
          · congr 1 <;> exact decide_eq_decide.2 (by omega)
        · rw [Bool.eq_iff_iff]; simp; omega
      · rw [Bool.eq_iff_iff]; simp; omega
    rw [hL] at hA hB
    clear hL
    revert hA hB
    dsimp only
    generalize ((∃ pos, pos ≤ s.size ∧ w7.heap[w.heap.size]? = some (.stringIter s pos) ∧ Mod no w w7 ∧ ∀ (i : Nat) (hi : i < s.size), i < pos → letter (s[i]'hi).toNat = true) ∧ itPos w7 w.heap.size s.size < itPos w4 w.heap.size s.size) = A
    generalize decide (((Utf8.decode s pos).1 : Int) ≥ 97) = b1
    generalize decide (((Utf8.decode s pos).1 : Int) ≤ 122) = b2
    generalize decide (((Utf8.decode s pos).1 : Int) ≥ 48) = b3
    generalize decide (((Utf8.decode s pos).1 : Int) ≤ 57) = b4
    generalize (((Utf8.decode s pos).1 : Int) == 45) = b5
    generalize (((Utf8.decode s pos).1 : Int) == 95) = b6
    intro hA hB
    cases b1 <;> cases b2 <;> cases b3 <;> cases b4 <;> cases b5 <;> cases b6 <;> first | exact hA rfl | exact hB rfl
  · have hp : ¬ pos < s.size := of_decide_eq_false hp
    have : lettersB s = true := lettersB_of fun i hi => hgood i hi (by omega)
    have h' := h w4 hm
    rwa [plainB, this, Bool.true_and] at h'

theorem name_ok (s : ByteArray) (w : World) (R : Value → World → Prop) (h : ∀ w', Mod no w w' → R (.bool (nameB s)) w') : Ca Tryz.prog 53 #[.string s] w R := by
  refine ca53 s w R (ifK_of (fun hb => ?_) (fun hb => ?_))
  · refine plain_ok s w _ fun w' hm => ⟨_, rfl, ?_⟩
    have h' := h w' hm
    rwa [nameB, hb, Bool.true_and] at h'
  · have h' := h w (Mod.refl _ _)
    rwa [nameB, hb, Bool.false_and] at h'
end Go.Proofs.YtehhhkcemmfjpaaGreatDoor

/- The table's functions: Find, Good, Declare, Drop, Unbind, Forget. -/
namespace Go.Proofs.YtehhhkcemmfjpaaGreatDoor
open Go Go.Proofs.YtehhhkcemmfjpaaGreatDoor Go.Proofs.YtehhhkcemmfjpaaGreatDoor.St

def exc0 : Exc := ⟨ByteArray.mk #[], 0, false⟩
def findX (n : ByteArray) (D : List Exc) : Option Exc := D.find? fun e => n == e.n
abbrev fx (n : ByteArray) (D : List Exc) : Exc := (findX n D).getD exc0
abbrev hx (n : ByteArray) (D : List Exc) : Bool := (findX n D).isSome
theorem getX (n : ByteArray) : ∀ D : List Exc, getG n (exL D) = (findX n D).map fun e => .agg ⟨e.cs⟩
  | [] => rfl
  | e :: D => by
    have ih := getX n D
    simp only [getG, exL, findX, List.map_cons, List.find?_cons] at ih ⊢
    cases h : (n == e.n) with
    | true => rfl
    | false => exact ih
theorem getB (b : Bnd) : ∀ B : List Bnd, getG b (bnL B) = if b ∈ B then some (.agg ⟨[]⟩) else none
  | [] => rfl
  | x :: B => by
    have ih := getB b B
    simp only [getG, bnL, List.map_cons, List.find?_cons] at ih ⊢
    by_cases h : b = x
    · have : (b == x) = true := decide_eq_true h
      simp [this, h]
    · have hb : (b == x) = false := decide_eq_false h
      simp only [hb]
      rw [ih]
      simp [h]
theorem zero_of {t : TypeId} {z : Value} (h : (Tryz.prog.info? t).bind (·.zero) = some z) (w : World) : (zeroValue t).run Tryz.prog w = .ok z w := by
  cases hi : Tryz.prog.info? t with
  | none => rw [hi] at h; cases h
  | some i => rw [hi] at h; exact run_zeroValue' hi h
theorem look_x {w : World} {m : Nat} {D : List Exc} (h : XMap w m D) (n : ByteArray) :
    Sem.run Tryz.prog (Instr.lookup 67 (.map (some m)) (.string n) true) w = Result.ok (.tuple #[.agg ⟨(fx n D).cs⟩, .bool (hx n D)]) w := by
  rw [lookup_k (keys_string Tryz.underlying9) Tryz.underlying67 (z := .agg ⟨exc0.cs⟩) (zero_of (by kernel_rfl)) h n trivial (fun _ _ => trivial) true, getX]
  cases h : findX n D <;> simp [fx, hx, h]
theorem look_b {w : World} {m : Nat} {B : List Bnd} (h : BMap w m B) (b : Bnd) :
    Sem.run Tryz.prog (Instr.lookup 68 (.map (some m)) (.agg ⟨b.cs⟩) true) w = Result.ok (.tuple #[.agg ⟨[]⟩, .bool (decide (b ∈ B))]) w := by
  have := lookup_k (keys_bnd bnd_s) Tryz.underlying68 (z := .agg ⟨[]⟩) (zero_of (by kernel_rfl)) h b trivial (fun _ _ => trivial) true
  rw [getB] at this
  refine this.trans ?_
  by_cases hb : b ∈ B <;> simp [hb]

theorem put3 {k : Nat} {e : TypeId} {w : World} {x y z a b c : Value} {K : World → Prop} (h : w.heap[k]? = some (.cells #[x, y, z] e (0, 0))) (hk : ∀ w', Mod (on k) w w' → w'.heap[k]? = some (.cells #[a, b, c] e (0, 0)) → K w') :
    (∃ v : Value, w.cell? (Addr.add ⟨k, 0, none⟩ 0) = some v) ∧ w.frozen? (Addr.add ⟨k, 0, none⟩ 0) = false ∧ atW (w.setCell (Addr.add ⟨k, 0, none⟩ 0) a) fun w1 =>
    (∃ v : Value, w1.cell? (Addr.add ⟨k, 0, none⟩ 1) = some v) ∧ w1.frozen? (Addr.add ⟨k, 0, none⟩ 1) = false ∧ atW (w1.setCell (Addr.add ⟨k, 0, none⟩ 1) b) fun w2 =>
    (∃ v : Value, w2.cell? (Addr.add ⟨k, 0, none⟩ 2) = some v) ∧ w2.frozen? (Addr.add ⟨k, 0, none⟩ 2) = false ∧ atW (w2.setCell (Addr.add ⟨k, 0, none⟩ 2) c) K := by
  refine ⟨⟨x, by rw [cl1 h]; rfl⟩, fz1 h _, fun w1 e1 => ?_⟩
  have h1 : w1.heap[k]? = some (.cells #[a, y, z] e (0, 0)) := by subst e1; rw [set1 h]; rfl
  have m1 : Mod (on k) w w1 := by subst e1; exact Mod.set1 _ _ _ _
  clear e1
  refine ⟨⟨y, by rw [cl1 h1]; rfl⟩, fz1 h1 _, fun w2 e2 => ?_⟩
  have h2 : w2.heap[k]? = some (.cells #[a, b, z] e (0, 0)) := by subst e2; rw [set1 h1]; rfl
  have m2 : Mod (on k) w1 w2 := by subst e2; exact Mod.set1 _ _ _ _
  clear e2
  refine ⟨⟨z, by rw [cl1 h2]; rfl⟩, fz1 h2 _, fun w3 e3 => ?_⟩
  have h3 : w3.heap[k]? = some (.cells #[a, b, c] e (0, 0)) := by subst e3; rw [set1 h2]; rfl
  have m3 : Mod (on k) w2 w3 := by subst e3; exact Mod.set1 _ _ _ _
  clear e3
  exact hk w3 ((m1.trans m2).trans m3) h3

/-- The three cells of an exchange. -/
abbrev Xc (w : World) (k : Nat) (x : Exc) : Prop := w.heap[k]? = some (.cells #[.string x.n, .int .i64 x.k, .bool x.f] 33 (0, 0))
abbrev Bc (w : World) (k : Nat) (x : Bnd) : Prop := w.heap[k]? = some (.cells #[.string x.x, .string x.q, .string x.p] 35 (0, 0))

section
variable {w : World} {t m1 m2 : Nat} {D : List Exc} {B : List Bnd} (hT : Tbl w t m1 m2 D B)
include hT
theorem find_ok (n : ByteArray) (R : Value → World → Prop) (h : ∀ w', Mod no w w' → R (.tuple #[.agg ⟨(fx n D).cs⟩, .bool (hx n D)]) w') :
    Ca Tryz.prog 17 #[.pointer (some ⟨t, 0, none⟩), .string n] w R := by
  refine ca17 (some ⟨t, 0, none⟩) n w R ?_
  intro w0 e0
  have m0 : Mod no w w0 := by subst e0; exact Mod.alloc _ _
  have b0 : Xc w0 w.heap.size exc0 := by subst e0; exact new_at _ _
  clear e0
  have hT0 := hT.no m0
  refine made_ok hT0 _ ⟨true, rfl, ifK_of (fun h => by cases h) fun _ => ?_⟩
  refine ⟨some m1, by rw [cl1 hT0.cell]; rfl, _, _, look_x hT0.x n, _, _, _, _, rfl, ?_⟩
  intro w1 e1
  have n1 : Mod no w0 w1 := by subst e1; exact Mod.alloc _ _
  have b1 : Xc w1 w0.heap.size exc0 := by subst e1; exact new_at _ _
  clear e1
  refine put3 b1 fun w2 n2 b2 => ?_
  refine ⟨_, by rw [cl1 b2]; rfl, _, by rw [cl1 b2]; rfl, _, by rw [cl1 b2]; rfl, ?_⟩
  have n12 : Mod no w0 w2 := n1.new n2 fun k hk => by cases hk; exact Nat.le_refl _
  refine put3 (n12.at' b0) fun w3 n3 b3 => ?_
  refine ⟨_, by rw [cl1 b3]; rfl, _, by rw [cl1 b3]; rfl, _, by rw [cl1 b3]; rfl, ?_⟩
  exact h w3 ((m0.trans n12).new n3 fun k hk => by cases hk; exact Nat.le_refl _)
end

/-- Whether an exchange may be. -/
def goodX (x : Exc) : Bool := nameB x.n && (x.k == 1 || x.k == 2 || x.k == 3)
theorem good_ok (x : Exc) (w : World) (R : Value → World → Prop) (h : ∀ w', Mod no w w' → R (.bool (goodX x)) w') : Ca Tryz.prog 18 #[.agg ⟨x.cs⟩] w R := by
  refine (ca18 x.n x.k x.f w R ?_ : Ca _ _ _ _ _)
  intro w0 e0
  have m0 : Mod no w w0 := by subst e0; exact Mod.alloc _ _
  have b0 : Xc w0 w.heap.size x := by subst e0; exact new_at _ _
  clear e0
  refine ⟨_, by rw [cl1 b0]; rfl, name_ok _ _ _ fun w1 m1 => ⟨_, rfl, ?_⟩⟩
  have b1 := m1.at' b0
  have m01 := m0.trans m1
  have h := h w1 m01
  unfold goodX at h
  refine ifK_of (fun hn => ?_) (fun hn => ?_)
  · rw [hn, Bool.true_and] at h
    refine ⟨_, by rw [cl1 b1]; rfl, ifK_of (fun h1 => ?_) (fun h1 => ?_)⟩
    · rw [h1] at h; exact h
    · rw [h1] at h
      refine ⟨_, by rw [cl1 b1]; rfl, ifK_of (fun h2 => ?_) (fun h2 => ?_)⟩
      · rw [h2] at h; exact h
      · rw [h2] at h; exact ⟨_, by rw [cl1 b1]; rfl, h⟩
  · rw [hn, Bool.false_and] at h; exact h
end Go.Proofs.YtehhhkcemmfjpaaGreatDoor

/- The table's functions: Declare, Drop, Unbind, Forget. -/
namespace Go.Proofs.YtehhhkcemmfjpaaGreatDoor
open Go Go.Proofs.YtehhhkcemmfjpaaGreatDoor Go.Proofs.YtehhhkcemmfjpaaGreatDoor.St

theorem findX_none {n : ByteArray} {D : List Exc} : findX n D = none ↔ n ∉ D.map (·.n) := by
  unfold findX
  rw [List.find?_eq_none]
  constructor
  · intro h hn
    obtain ⟨e, he, rfl⟩ := List.mem_map.1 hn
    exact h e he (beq_self_eq_true _)
  · intro h e he hb
    exact h (List.mem_map.2 ⟨e, he, (eq_of_beq hb).symm⟩)
theorem findX_some {n : ByteArray} {D : List Exc} {e : Exc} (h : findX n D = some e) : e ∈ D ∧ e.n = n := ⟨List.mem_of_find?_eq_some h, (eq_of_beq (List.find?_some (p := fun e : Exc => n == e.n) (l := D) h)).symm⟩
theorem exL_fst (D : List Exc) : (exL D).map (·.1) = D.map (·.n) := by rw [exL, List.map_map]; rfl
theorem bnL_fst (B : List Bnd) : (bnL B).map (·.1) = B := by
  rw [bnL, List.map_map]
  conv => rhs; rw [← List.map_id B]
  rfl
def excV (x : Exc) : Value := .agg ⟨[.string x.n, .int .i64 x.k, .bool x.f]⟩
theorem put_x {w : World} {m : Nat} {D : List Exc} (h : XMap w m D) (x : Exc) (hn : x.n ∉ D.map (·.n)) :
    ∃ w', Sem.run Tryz.prog (Instr.mapUpdate 67 (.map (some m)) (.string x.n) (excV x)) w = Result.ok () w' ∧ Mod (on m) w w' ∧ XMap w' m (D ++ [x]) := by
  obtain ⟨w', h1, h2, h3⟩ := update_k (keys_string Tryz.underlying9) Tryz.underlying67 h x.n trivial (fun _ _ => trivial) (excV x)
  refine ⟨w', h1, h2, ?_⟩
  rw [setG_none (by rw [exL_fst]; exact hn)] at h3
  have : exL (D ++ [x]) = exL D ++ [(x.n, excV x)] := by rw [exL, List.map_append]; rfl
  rw [XMap, this]
  exact h3
theorem delX (n : ByteArray) : ∀ {D : List Exc}, (D.map (·.n)).Nodup → delG n (exL D) = exL (D.filter fun e => !(e.n == n))
  | [], _ => rfl
  | e :: D, h => by
    rw [List.map_cons, List.nodup_cons] at h
    simp only [exL, List.map_cons, delG]
    by_cases he : n = e.n
    · subst he
      rw [if_pos (beq_self_eq_true _), List.filter_cons_of_neg (by simp), List.filter_eq_self.2]
      intro y hy
      have : (y.n == e.n) = false := beq_false_of_ne fun h' => h.1 (by rw [← h']; exact List.mem_map_of_mem hy)
      simp [this]
    · have hne : (e.n == n) = false := beq_false_of_ne fun h' => he h'.symm
      rw [if_neg (fun h' => he (eq_of_beq h')), List.filter_cons_of_pos (by simp [hne]), List.map_cons]
      congr 1
      exact delX n h.2
theorem del_x {w : World} {m : Nat} {D : List Exc} (h : XMap w m D) (n : ByteArray) (hD : (D.map (·.n)).Nodup) :
    ∃ w', Sem.run Tryz.prog (Builtin.delete_ #[67, 9] 0 #[.map (some m), .string n]) w = Result.ok (.tuple #[]) w' ∧ Mod (on m) w w' ∧ XMap w' m (D.filter fun e => !(e.n == n)) := by
  obtain ⟨w', h1, h2, h3⟩ := delete_k (keys_string Tryz.underlying9) (u := 9) (ty := 0) Tryz.underlying67 h n trivial (fun _ _ => trivial)
  refine ⟨w', h1, h2, ?_⟩
  rw [delX n hD] at h3
  exact h3

/-! ### What Declare answers, and leaves -/
def declR (x : Exc) (D : List Exc) : Int := if goodX x then (match findX x.n D with | some y => if y = x then 0 else 12 | none => if D.length ≥ 8 then 5 else 0) else 2
def declD (x : Exc) (D : List Exc) : List Exc := if goodX x && (findX x.n D).isNone && decide (D.length < 8) then D ++ [x] else D

section
variable {w : World} {t m1 m2 : Nat} {D : List Exc} {B : List Bnd} (hT : Tbl w t m1 m2 D B)
include hT
theorem declare_ok (x : Exc) (R : Value → World → Prop) (h : ∀ w', Tbl w' t m1 m2 (declD x D) B → Mod (on m1) w w' → R (.int .i64 (declR x D)) w') :
    Ca Tryz.prog 35 #[.pointer (some ⟨t, 0, none⟩), .agg ⟨x.cs⟩] w R := by
  refine (ca35 (some ⟨t, 0, none⟩) x.n x.k x.f w R ?_ : Ca _ _ _ _ _)
  intro w0 e0
  have n0 : Mod no w w0 := by subst e0; exact Mod.alloc _ _
  have b0 : Xc w0 w.heap.size x := by subst e0; exact new_at _ _
  clear e0
  have hT0 := hT.no n0
  refine made_ok hT0 _ ⟨true, rfl, ifK_of (fun h => by cases h) fun _ => ?_⟩
  refine ⟨_, by rw [cl1 b0]; rfl, _, by rw [cl1 b0]; rfl, _, by rw [cl1 b0]; rfl, ?_⟩
  refine (good_ok x w0 _ fun w8 n8 => ?_ : Ca _ _ _ _ _)
  refine ⟨_, rfl, ?_⟩
  have n08 := n0.trans n8
  refine ifK_of (fun hg => ?_) (fun hg => ?_)
  · have hg : goodX x = false := by simpa using hg
    have h' := h w8 (by rw [declD, hg]; exact hT.no n08) n08.of_no
    rw [declR, hg] at h'
    exact h'
  have hg : goodX x = true := by simpa using hg
  refine ⟨fun p b w' => ∃ k, p = some ⟨k, 0, none⟩ ∧ Xc w' k (fx x.n D) ∧ b = hx x.n D ∧ Xc w' w.heap.size x ∧ Tbl w' t m1 m2 D B ∧ Mod no w w', ?_, ?_⟩
  · intro w11 e11
    have n11 : Mod no w8 w11 := by subst e11; exact Mod.drew _
    clear e11
    have b11 := n11.at' (n8.at' b0)
    have n011 := n08.trans n11
    have hT11 := hT.no n011
    refine ⟨some m1, by rw [cl1 hT11.cell]; rfl, _, by rw [cl1 b11]; rfl, ⟨_, _, look_x hT11.x x.n, _, _, _, _, rfl, ?_⟩, ?_⟩
    · intro w21 e21
      have n21 : Mod no w11 w21 := by subst e21; exact Mod.alloc _ _
      have b21 : Xc w21 w11.heap.size exc0 := by subst e21; exact new_at _ _
      clear e21
      have hT21 := hT11.no n21
      have bx := n21.at' b11
      refine ⟨by rw [cl2 hT21.cell]; rfl, by rw [cl2 bx]; rfl, put3 b21 fun w27 n27 b27 => ?_⟩
      have n1127 : Mod no w11 w27 := n21.new n27 fun k hk => by cases hk; exact Nat.le_refl _
      exact ⟨_, rfl, b27, rfl, n1127.at' b11, hT11.no n1127, n011.trans n1127⟩
    · intro w21 e21
      have n21 : Mod no w11 w21 := by subst e21; exact Mod.alloc _ _
      have b21 : Xc w21 w11.heap.size exc0 := by subst e21; exact new_at _ _
      clear e21
      have hT21 := hT11.no n21
      have bx := n21.at' b11
      refine ⟨by rw [cl2 hT21.cell]; rfl, by rw [cl2 bx]; rfl, _, _, look_x hT21.x x.n, _, _, _, _, rfl, put3 b21 fun w27 n27 b27 => ?_⟩
      have n1127 : Mod no w11 w27 := n21.new n27 fun k hk => by cases hk; exact Nat.le_refl _
      exact ⟨_, rfl, b27, rfl, n1127.at' b11, hT11.no n1127, n011.trans n1127⟩
  rintro _ _ _ w44 ⟨k, rfl, bk, rfl, bx, hT44, n44⟩
  have add : ∀ w' , Mod no w w' → Tbl w' t m1 m2 D B → Xc w' w.heap.size x → findX x.n D = none →
      (∃ p66 : Option Nat, w'.cell? (Addr.add ⟨t, 0, none⟩ 0) = some (.map p66) ∧ lenM p66 w' fun x67 => ifK (decide (x67 ≥ 8)) (R (.int .i64 5) w') (atW w'.drew fun w68 =>
        ∃ p70 : Option Nat, w68.cell? (Addr.add ⟨t, 0, none⟩ 0) = some (.map p70) ∧ ∃ s71 : ByteArray, w68.cell? (Addr.add ⟨w.heap.size, 0, none⟩ 0) = some (.string s71) ∧ ∃ s72 : ByteArray, w68.cell? (Addr.add ⟨w.heap.size, 0, none⟩ 0) = some (.string s72) ∧
        ∃ x73 : Int, w68.cell? (Addr.add ⟨w.heap.size, 0, none⟩ 1) = some (.int .i64 x73) ∧ ∃ b74 : Bool, w68.cell? (Addr.add ⟨w.heap.size, 0, none⟩ 2) = some (.bool b74) ∧
        ∃ w75 : World, Sem.run Tryz.prog (Instr.mapUpdate 67 (.map p70) (.string s71) (.agg ⟨[.string s72, .int .i64 x73, .bool b74]⟩)) w68 = Result.ok () w75 ∧ R (.int .i64 0) w75)) := by
    intro w' nw hTw bw hf
    obtain ⟨es, clock, hes, hlen⟩ := xmap_len hTw.x
    refine ⟨some m1, by rw [cl1 hTw.cell]; rfl, es, clock, hes, ifK_dec (fun hge => ?_) (fun hlt => ?_)⟩
    · rw [hlen] at hge
      have h' := h w' (by rw [declD, hg, hf, show decide (D.length < 8) = false from decide_eq_false (by omega)]; exact hTw) nw.of_no
      rw [declR, hg, hf] at h'
      simp only [if_true] at h'
      rw [if_pos (by omega)] at h'
      exact h'
    · rw [hlen] at hlt
      intro w68 e68
      have n68 : Mod no w' w68 := by subst e68; exact Mod.drew _
      clear e68
      have hT68 := hTw.no n68
      have b68 := n68.at' bw
      have hnm : x.n ∉ D.map (·.n) := findX_none.1 hf
      obtain ⟨w75, hr, n75, hx75⟩ := put_x hT68.x x hnm
      refine ⟨some m1, by rw [cl1 hT68.cell]; rfl, _, by rw [cl1 b68]; rfl, _, by rw [cl1 b68]; rfl, _, by rw [cl1 b68]; rfl, _, by rw [cl1 b68]; rfl, w75, hr, ?_⟩
      have h' := h w75 (by
        rw [declD, hg, hf, show decide (D.length < 8) = true from decide_eq_true (by omega)]
        show Tbl w75 t m1 m2 (D ++ [x]) B
        refine ⟨n75.at hT68.cell hT.t1, hx75, hT68.b.mod n75 (fun hS => hT.ne hS.symm), hT.ne, ?_, hT.bn⟩
        rw [List.map_append, List.nodup_append]
        refine ⟨hT.dn, by simp, fun a ha b hb => ?_⟩
        simp only [List.map_cons, List.map_nil, List.mem_singleton] at hb
        rintro rfl
        exact hnm (hb ▸ ha)) ((nw.trans n68).no_trans n75)
      rw [declR, hg, hf] at h'
      simp only [if_true] at h'
      rw [if_neg (by omega)] at h'
      exact h'
  cases hf : findX x.n D with
  | none =>
    have hb : hx x.n D = false := by rw [hx, hf]; rfl
    rw [hb]
    exact ifK_of (fun h => by cases h) fun _ => ifK_of (fun h => by cases h) fun _ => add w44 n44 hT44 bx hf
  | some y =>
    have hb : hx x.n D = true := by rw [hx, hf]; rfl
    have hy : fx x.n D = y := by rw [fx, hf]; rfl
    rw [hb]
    rw [hy] at bk
    refine ifK_of (fun _ => ?_) fun h => by cases h
    refine ⟨_, by rw [cl1 bk]; rfl, _, by rw [cl1 bk]; rfl, _, by rw [cl1 bk]; rfl, _, by rw [cl1 bx]; rfl, _, by rw [cl1 bx]; rfl, _, by rw [cl1 bx]; rfl, ?_⟩
    have hD : declD x D = D := by rw [declD, hf]; simp
    refine eqA_agg exc_s.guard (exc_s.eq y x) (ifK_dec (fun he => ?_) (fun he => ifK_of (fun _ => ?_) fun h => by cases h))
    · have h' := h w44 (by rw [hD]; exact hT44) n44.of_no
      rw [declR, hg, hf] at h'
      simp only [if_true, if_pos he] at h'
      exact h'
    · have h' := h w44 (by rw [hD]; exact hT44) n44.of_no
      rw [declR, hg, hf] at h'
      simp only [if_true, if_neg he] at h'
      exact h'
theorem forget_ok (n : ByteArray) (hl : B.length < 1099511627776) (R : Value → World → Prop) (h : ∀ w', Tbl w' t m1 m2 D (B.filter fun b => !decide (b.q = n)) → Mod (on m2) w w' → R (.int .i64 ((B.length : Int) - (B.filter fun b => !decide (b.q = n)).length)) w') :
    Ca Tryz.prog 41 #[.pointer (some ⟨t, 0, none⟩), .string n] w R := by
  refine ca41 (some ⟨t, 0, none⟩) n w R ?_
  intro w0 e0
  have n0 : Mod no w w0 := by subst e0; exact Mod.alloc _ _
  have b0 : w0.heap[w.heap.size]? = some (.cells #[.string n] 9 (0, 0)) := by subst e0; exact new_at _ _
  clear e0
  have hT0 := hT.no n0
  refine made_ok hT0 _ ⟨true, rfl, ifK_of (fun h => by cases h) fun _ => ?_⟩
  have hmlt : m2 < w.heap.size := by obtain ⟨_, _, hh, _⟩ := hT.b; exact lt_of_heap hh
  exact sweep_ok _ _ _ _ hT0 hl (test2 n b0 (by omega)) _ fun w1 hT1 n1 => ⟨_, rfl, h w1 hT1 (n0.no_trans n1)⟩
omit hT in
theorem filter_len_eq {p : Bnd → Bool} {B : List Bnd} : (B.length : Int) - (B.filter fun b => !p b).length = 0 ↔ ∀ b ∈ B, p b = false := by
  have hle : (B.filter fun b => !p b).length ≤ B.length := List.length_filter_le _ _
  constructor
  · intro h
    have := List.length_filter_eq_length_iff.1 (show (B.filter fun b => !p b).length = B.length by omega)
    intro b hb
    simpa using this b hb
  · intro h
    have : (B.filter fun b => !p b).length = B.length := List.length_filter_eq_length_iff.2 fun b hb => by simp [h b hb]
    omega
theorem unbind_ok (x : Bnd) (hl : B.length < 1099511627776) (R : Value → World → Prop) (h : ∀ w', Tbl w' t m1 m2 D (B.filter fun b => !decide (b = x)) → Mod (on m2) w w' → R (.int .i64 (if x ∈ B then 0 else 3)) w') :
    Ca Tryz.prog 22 #[.pointer (some ⟨t, 0, none⟩), .agg ⟨x.cs⟩] w R := by
  refine (ca22 (some ⟨t, 0, none⟩) x.x x.q x.p w R ?_ : Ca _ _ _ _ _)
  intro w0 e0
  have n0 : Mod no w w0 := by subst e0; exact Mod.alloc _ _
  have b0 : Bc w0 w.heap.size x := by subst e0; exact new_at _ _
  clear e0
  have hT0 := hT.no n0
  refine made_ok hT0 _ ⟨true, rfl, ifK_of (fun h => by cases h) fun _ => ?_⟩
  have hmlt : m2 < w.heap.size := by obtain ⟨_, _, hh, _⟩ := hT.b; exact lt_of_heap hh
  refine sweep_ok _ _ _ _ hT0 hl (test3 x b0 (by omega)) _ fun w1 hT1 n1 => ⟨_, rfl, ?_⟩
  have h' := h w1 hT1 (n0.no_trans n1)
  by_cases hx : x ∈ B
  · rw [if_pos hx] at h'
    refine ifK_eq (fun h0 => ?_) (fun _ => h')
    have := filter_len_eq.1 h0 x hx
    simp at this
  · rw [if_neg hx] at h'
    refine ifK_eq (fun _ => h') (fun h0 => absurd (filter_len_eq.2 fun b hb => ?_) h0)
    exact decide_eq_false fun e => hx (e ▸ hb)
theorem drop_ok (n : ByteArray) (hl : B.length < 1099511627776) (R : Value → World → Prop)
    (h : ∀ w', Tbl w' t m1 m2 (if hx n D then D.filter fun e => !(e.n == n) else D) (if hx n D then B.filter fun b => !decide (b.x = n) else B) → Mod (of2 m1 m2) w w' → R (.int .i64 (if hx n D then 0 else 3)) w') :
    Ca Tryz.prog 23 #[.pointer (some ⟨t, 0, none⟩), .string n] w R := by
  refine ca23 (some ⟨t, 0, none⟩) n w R ?_
  intro w0 e0
  have n0 : Mod no w w0 := by subst e0; exact Mod.alloc _ _
  have b0 : w0.heap[w.heap.size]? = some (.cells #[.string n] 9 (0, 0)) := by subst e0; exact new_at _ _
  clear e0
  have hT0 := hT.no n0
  refine made_ok hT0 _ ⟨true, rfl, ifK_of (fun h => by cases h) fun _ => ?_⟩
  have hm2 : m2 < w.heap.size := by obtain ⟨_, _, hh, _⟩ := hT.b; exact lt_of_heap hh
  have hm1 : m1 < w.heap.size := by obtain ⟨_, _, hh, _⟩ := hT.x; exact lt_of_heap hh
  refine ⟨fun b w' => b = hx n D ∧ w'.heap[w.heap.size]? = some (.cells #[.string n] 9 (0, 0)) ∧ Tbl w' t m1 m2 D B ∧ Mod no w w', ?_, ?_⟩
  · intro w11 e11
    have n11 : Mod no w0 w11 := by subst e11; exact Mod.drew _
    clear e11
    have b11 := n11.at' b0
    have n011 := n0.trans n11
    have hT11 := hT.no n011
    refine ⟨some m1, by rw [cl1 hT11.cell]; rfl, _, by rw [cl b11]; rfl, ⟨_, _, look_x hT11.x n, _, _, _, _, rfl, ?_⟩, ?_⟩
    · intro w21 e21
      have n21 : Mod no w11 w21 := by subst e21; exact Mod.alloc _ _
      have b21 : Xc w21 w11.heap.size exc0 := by subst e21; exact new_at _ _
      clear e21
      have hT21 := hT11.no n21
      have bx := n21.at' b11
      refine ⟨by rw [cl2 hT21.cell]; rfl, by rw [cl1 bx]; rfl, put3 b21 fun w27 n27 b27 => ?_⟩
      have n1127 : Mod no w11 w27 := n21.new n27 fun k hk => by cases hk; exact Nat.le_refl _
      exact ⟨rfl, n1127.at' b11, hT11.no n1127, n011.trans n1127⟩
    · intro w21 e21
      have n21 : Mod no w11 w21 := by subst e21; exact Mod.alloc _ _
      have b21 : Xc w21 w11.heap.size exc0 := by subst e21; exact new_at _ _
      clear e21
      have hT21 := hT11.no n21
      have bx := n21.at' b11
      refine ⟨by rw [cl2 hT21.cell]; rfl, by rw [cl1 bx]; rfl, _, _, look_x hT21.x n, _, _, _, _, rfl, put3 b21 fun w27 n27 b27 => ?_⟩
      have n1127 : Mod no w11 w27 := n21.new n27 fun k hk => by cases hk; exact Nat.le_refl _
      exact ⟨rfl, n1127.at' b11, hT11.no n1127, n011.trans n1127⟩
  rintro _ _ w44 ⟨rfl, bn, hT44, n44⟩
  cases hh : hx n D with
  | false =>
    refine ifK_of (fun _ => ?_) fun h => by cases h
    have h' := h w44 (by rw [hh]; exact hT44) n44.of_no
    rw [hh] at h'
    exact h'
  | true =>
    refine ifK_of (fun h => by cases h) fun _ => ?_
    rw [hh] at h
    intro w38 e38
    have n38 : Mod no w44 w38 := by subst e38; exact Mod.drew _
    clear e38
    have hT38 := hT44.no n38
    have b38 := n38.at' bn
    have n038 := n44.trans n38
    obtain ⟨w43, hr, n43, hx43⟩ := del_x hT38.x n hT.dn
    refine ⟨some m1, by rw [cl1 hT38.cell]; rfl, _, by rw [cl b38]; rfl, _, w43, hr, rfl, ?_⟩
    have hT43 : Tbl w43 t m1 m2 (D.filter fun e => !(e.n == n)) B := ⟨n43.at hT38.cell hT.t1, hx43, hT38.b.mod n43 (fun hS => hT.ne hS.symm), hT.ne, hT.dn.sublist (List.filter_sublist.map _), hT.bn⟩
    have b43 := n43.at b38 (show ¬ w.heap.size = m1 by omega)
    refine sweep_ok _ _ _ _ hT43 hl (test1 n b43 (by omega)) _ fun w45 hT45 n45 => ⟨_, rfl, ?_⟩
    exact h w45 hT45 (((n038.no_trans n43).mono fun k _ hk => .inl hk).trans (n45.mono fun k _ hk => .inr hk))
end
end Go.Proofs.YtehhhkcemmfjpaaGreatDoor

/- The formulas of functions, printed by a program of mine (gen.py) out of the translation. -/
namespace Go.Proofs.YtehhhkcemmfjpaaGreatDoor
open Go Go.Proofs.YtehhhkcemmfjpaaGreatDoor.St
open _root_.Go.Value (string int bool slice pointer agg tuple map func nilFunc iface)
open _root_.Go.World (cell? frozen? setCell alloc drew)
open _root_.Go.Addr (add)
open _root_.Go.Obj (cells)
open _root_.Go.IntKind (wrap i64 u64 i32 u32 u8)
set_option maxRecDepth 100000

/-- strings.SplitSeq -/
noncomputable def C137 : Code := (Tryz.f137.body).getD .skip
def pl137 : Nat → Plan := fun _ => .done
def ls137 : Nat → List (Nat × LT) := fun _ => []
def W137 (s : ByteArray) (sep : ByteArray) (w : World) (R : Value → World → Prop) : Prop :=
  (Ca Tryz.prog (150) (Array.mk [string s, string sep, int i64 0]) (w) (fun v0 => (fun w1 =>
(∃ v2 : Value, ((v0 = v2) ∧ (R (v2) (w1)))))))
theorem ca137 (s : ByteArray) (sep : ByteArray) (w : World) (R : Value → World → Prop) (h : W137 s sep w R) : Ca Tryz.prog 137 ⟨[(.string s), (.string sep)]⟩ w R :=
  caB (fn := Tryz.f137) (pl := pl137) (ls := ls137) Tryz.func137 (by kernel_rfl) (by kernel_rfl) h

/-- strings.splitSeq -/
noncomputable def C150 : Code := (Tryz.f150.body).getD .skip
def pl150 : Nat → Plan := fun _ => .done
def ls150 : Nat → List (Nat × LT) := fun _ => []
def W150 (s : ByteArray) (sep : ByteArray) (sepSave : Int) (w : World) (R : Value → World → Prop) : Prop :=
  (atW (alloc w (cells (Array.mk [string s]) 9 (0, 0))) (fun w0 =>
(atW (alloc w0 (cells (Array.mk [string sep]) 9 (0, 0))) (fun w1 =>
(atW (alloc w1 (cells (Array.mk [int i64 sepSave]) 3 (0, 0))) (fun w2 =>
(R (func (Fn.func 154) (Array.mk []) (Array.mk [pointer (some (nw w0)), pointer (some (nw w)), pointer (some (nw w1))])) (w2))))))))
theorem ca150 (s : ByteArray) (sep : ByteArray) (sepSave : Int) (w : World) (R : Value → World → Prop) (h : W150 s sep sepSave w R) : Ca Tryz.prog 150 ⟨[(.string s), (.string sep), (.int .i64 sepSave)]⟩ w R :=
  caB (fn := Tryz.f150) (pl := pl150) (ls := ls150) Tryz.func150 (by kernel_rfl) (by kernel_rfl) h

/-- strings.splitSeq$1 -/
noncomputable def C154 : Code := (Tryz.f154.body).getD .skip
def pl154 : Nat → Plan := fun _ => .done
def ls154 : Nat → List (Nat × LT)
  | 3 => []
  | 10 => []
  | _ => []
def W154 (yield : Value) (c0 : Option Addr) (c1 : Option Addr) (c2 : Option Addr) (w : World) (R : Value → World → Prop) : Prop :=
  (onP (c0) (fun a0 =>
(∃ s1 : ByteArray, ((cell? w a0 = some (string s1)) ∧ (ifK ((↑(ByteArray.size s1) : Int) == 0)
(∃ z2 : World → Prop, (∃ z3 : World → Nat, ((z2 (w)) ∧ (∀ (_ : Nat → Value), (∀ (w5 : World), ((z2 (w5)) → (onP (c1) (fun a6 =>
(∃ s7 : ByteArray, ((cell? w5 a6 = some (string s7)) ∧ (ifK (decide ((↑(ByteArray.size s7) : Int) > 0))
(onP (c1) (fun a8 =>
(∃ s9 : ByteArray, ((cell? w5 a8 = some (string s9)) ∧ (Ca Tryz.prog (155) (Array.mk [string s9]) (w5) (fun v10 => (fun w11 =>
(∃ x12 : Int, (∃ x13 : Int, ((v10 = tuple (Array.mk (List.reverse [int i64 x13, int i32 x12]))) ∧ (onP (c1) (fun a14 =>
(∃ s15 : ByteArray, ((cell? w11 a14 = some (string s15)) ∧ (((0 : Int) ≤ 0) ∧ (((0 : Int) ≤ x13) ∧ (((x13 : Int) ≤ (↑(ByteArray.size s15) : Int)) ∧ (CaV Tryz.prog (yield) (Array.mk [string (ByteArray.extract s15 0 (Int.toNat x13))]) (w11) (fun v16 => (fun w17 =>
(∃ b18 : Bool, ((v16 = bool b18) ∧ (ifK (!b18)
(R (tuple (Array.mk (List.reverse []))) (w17))
(onP (c1) (fun a19 =>
(∃ s20 : ByteArray, ((cell? w17 a19 = some (string s20)) ∧ (((0 : Int) ≤ x13) ∧ (((x13 : Int) ≤ (↑(ByteArray.size s20) : Int)) ∧ ((((↑(ByteArray.size s20) : Int) : Int) ≤ (↑(ByteArray.size s20) : Int)) ∧ (onP (c1) (fun a21 =>
(st1 (add a21 0) (string (ByteArray.extract s20 (Int.toNat x13) (Int.toNat (↑(ByteArray.size s20) : Int)))) w17 (fun w23 =>
((z2 (w23)) ∧ (z3 w23 < z3 w5))))))))))))))))))))))))))))))))))))
(R (tuple (Array.mk (List.reverse []))) (w5)))))))))))))
(∃ z24 : World → Prop, (∃ z25 : World → Nat, ((z24 (w)) ∧ (∀ (_ : Nat → Value), (∀ (w27 : World), ((z24 (w27)) → (onP (c1) (fun a28 =>
(∃ s29 : ByteArray, ((cell? w27 a28 = some (string s29)) ∧ (onP (c0) (fun a30 =>
(∃ s31 : ByteArray, ((cell? w27 a30 = some (string s31)) ∧ (Ca Tryz.prog (156) (Array.mk [string s29, string s31]) (w27) (fun v32 => (fun w33 =>
(∃ x34 : Int, ((v32 = int i64 x34) ∧ (ifK (decide (x34 < 0))
(onP (c1) (fun a35 =>
(∃ s36 : ByteArray, ((cell? w33 a35 = some (string s36)) ∧ (CaV Tryz.prog (yield) (Array.mk [string s36]) (w33) (fun v37 => (fun w38 =>
(∃ b39 : Bool, ((v37 = bool b39) ∧ (R (tuple (Array.mk (List.reverse []))) (w38)))))))))))
(onP (c1) (fun a40 =>
(∃ s41 : ByteArray, ((cell? w33 a40 = some (string s41)) ∧ (onP (c2) (fun a42 =>
(∃ x43 : Int, ((cell? w33 a42 = some (int i64 x43)) ∧ (((0 : Int) ≤ 0) ∧ (((0 : Int) ≤ wrap i64 (x34 + x43)) ∧ (((wrap i64 (x34 + x43) : Int) ≤ (↑(ByteArray.size s41) : Int)) ∧ (CaV Tryz.prog (yield) (Array.mk [string (ByteArray.extract s41 0 (Int.toNat (wrap i64 (x34 + x43))))]) (w33) (fun v44 => (fun w45 =>
(∃ b46 : Bool, ((v44 = bool b46) ∧ (ifK (!b46)
(R (tuple (Array.mk (List.reverse []))) (w45))
(onP (c1) (fun a47 =>
(∃ s48 : ByteArray, ((cell? w45 a47 = some (string s48)) ∧ (onP (c0) (fun a49 =>
(∃ s50 : ByteArray, ((cell? w45 a49 = some (string s50)) ∧ (((0 : Int) ≤ wrap i64 (x34 + (↑(ByteArray.size s50) : Int))) ∧ (((wrap i64 (x34 + (↑(ByteArray.size s50) : Int)) : Int) ≤ (↑(ByteArray.size s48) : Int)) ∧ ((((↑(ByteArray.size s48) : Int) : Int) ≤ (↑(ByteArray.size s48) : Int)) ∧ (onP (c1) (fun a51 =>
((∃ v52 : Value, (cell? w45 (add a51 0) = some v52)) ∧ ((frozen? w45 (add a51 0) = false) ∧ (atW (setCell w45 (add a51 0) (string (ByteArray.extract s48 (Int.toNat (wrap i64 (x34 + (↑(ByteArray.size s50) : Int)))) (Int.toNat (↑(ByteArray.size s48) : Int))))) (fun w53 =>
((z24 (w53)) ∧ (z25 w53 < z25 w27)))))))))))))))))))))))))))))))))))))))))))))))))))))))))))))
theorem ca154 (yield : Value) (c0 : Option Addr) (c1 : Option Addr) (c2 : Option Addr) (w : World) (R : Value → World → Prop) (h : W154 yield c0 c1 c2 w R) : Ca Tryz.prog 154 ⟨[yield, (.pointer c0), (.pointer c1), (.pointer c2)]⟩ w R :=
  caB (fn := Tryz.f154) (pl := pl154) (ls := ls154) Tryz.func154 (by kernel_rfl) (by kernel_rfl) h

/-- strings.Index -/
noncomputable def C156 : Code := (Tryz.f156.body).getD .skip
def pl156 : Nat → Plan := fun _ => .done
def ls156 : Nat → List (Nat × LT) := fun _ => []
def W156 (s : ByteArray) (substr : ByteArray) (w : World) (R : Value → World → Prop) : Prop :=
  (Ca Tryz.prog (158) (Array.mk [string s, string substr]) (w) (fun v0 => (fun w1 =>
(∃ x2 : Int, ((v0 = int i64 x2) ∧ (R (int i64 x2) (w1)))))))
theorem ca156 (s : ByteArray) (substr : ByteArray) (w : World) (R : Value → World → Prop) (h : W156 s substr w R) : Ca Tryz.prog 156 ⟨[(.string s), (.string substr)]⟩ w R :=
  caB (fn := Tryz.f156) (pl := pl156) (ls := ls156) Tryz.func156 (by kernel_rfl) (by kernel_rfl) h

/-- internal/stringslite.Index -/
noncomputable def C158 : Code := (Tryz.f158.body).getD .skip
def pl158 : Nat → Plan := fun _ => .done
def ls158 : Nat → List (Nat × LT)
  | 17 => [(8, (.one (.int .i64))), (10, (.one (.int .i64)))]
  | _ => []
def W158 (s : ByteArray) (substr : ByteArray) (w : World) (R : Value → World → Prop) : Prop :=
  (ifK ((↑(ByteArray.size substr) : Int) == 0)
(R (int i64 0) (w))
(ifK (ByteArray.toList substr == ByteArray.toList s)
(R (int i64 0) (w))
(ifK ((↑(ByteArray.size substr) : Int) == 1)
(((0 : Int) ≤ 0) ∧ (((0 : Int) < (↑(ByteArray.size substr) : Int)) ∧ (Ca Tryz.prog (159) (Array.mk [string s, int u8 (byteAt substr 0)]) (w) (fun v0 => (fun w1 =>
(∃ x2 : Int, ((v0 = int i64 x2) ∧ (R (int i64 x2) (w1)))))))))
(ifK (decide ((↑(ByteArray.size substr) : Int) ≥ (↑(ByteArray.size s) : Int)))
(R (int i64 (-1)) (w))
(∃ x3 : Int, ((cell? w (Addr.mk 2 0 none) = some (int i64 x3)) ∧ (ifK (decide ((↑(ByteArray.size substr) : Int) ≤ x3))
(ifK (decide ((↑(ByteArray.size s) : Int) ≤ 64))
(Ca Tryz.prog (160) (Array.mk [string s, string substr]) (w) (fun v4 => (fun w5 =>
(∃ x6 : Int, ((v4 = int i64 x6) ∧ (R (int i64 x6) (w5)))))))
(((0 : Int) ≤ 0) ∧ (((0 : Int) < (↑(ByteArray.size substr) : Int)) ∧ (((0 : Int) ≤ 1) ∧ (((1 : Int) < (↑(ByteArray.size substr) : Int)) ∧ (∃ z7 : Int → Int → World → Prop, (∃ z8 : Int → Int → World → Nat, ((z7 (0) (0) (w)) ∧ (∀ (_ : Nat → Value), (∀ (x10 : Int), (∀ (x11 : Int), (∀ (w12 : World), ((z7 (x10) (x11) (w12)) → (ifK (decide (x10 < wrap i64 (wrap i64 ((↑(ByteArray.size s) : Int) - (↑(ByteArray.size substr) : Int)) + 1)))
(((0 : Int) ≤ x10) ∧ (((x10 : Int) < (↑(ByteArray.size s) : Int)) ∧ (ifK (byteAt s (Int.toNat x10) != byteAt substr 0)
(((0 : Int) ≤ wrap i64 (x10 + 1)) ∧ (((wrap i64 (x10 + 1) : Int) ≤ wrap i64 (wrap i64 ((↑(ByteArray.size s) : Int) - (↑(ByteArray.size substr) : Int)) + 1)) ∧ (((wrap i64 (wrap i64 ((↑(ByteArray.size s) : Int) - (↑(ByteArray.size substr) : Int)) + 1) : Int) ≤ (↑(ByteArray.size s) : Int)) ∧ (Ca Tryz.prog (159) (Array.mk [string (ByteArray.extract s (Int.toNat (wrap i64 (x10 + 1))) (Int.toNat (wrap i64 (wrap i64 ((↑(ByteArray.size s) : Int) - (↑(ByteArray.size substr) : Int)) + 1)))), int u8 (byteAt substr 0)]) (w12) (fun v13 => (fun w14 =>
(∃ x15 : Int, ((v13 = int i64 x15) ∧ (ifK (decide (x15 < 0))
(R (int i64 (-1)) (w14))
(((0 : Int) ≤ wrap i64 (wrap i64 (x10 + wrap i64 (x15 + 1)) + 1)) ∧ (((wrap i64 (wrap i64 (x10 + wrap i64 (x15 + 1)) + 1) : Int) < (↑(ByteArray.size s) : Int)) ∧ (ifK (byteAt s (Int.toNat (wrap i64 (wrap i64 (x10 + wrap i64 (x15 + 1)) + 1))) == byteAt substr 1)
(((0 : Int) ≤ wrap i64 (x10 + wrap i64 (x15 + 1))) ∧ (((wrap i64 (x10 + wrap i64 (x15 + 1)) : Int) ≤ wrap i64 (wrap i64 (x10 + wrap i64 (x15 + 1)) + (↑(ByteArray.size substr) : Int))) ∧ (((wrap i64 (wrap i64 (x10 + wrap i64 (x15 + 1)) + (↑(ByteArray.size substr) : Int)) : Int) ≤ (↑(ByteArray.size s) : Int)) ∧ (ifK (ByteArray.toList (ByteArray.extract s (Int.toNat (wrap i64 (x10 + wrap i64 (x15 + 1)))) (Int.toNat (wrap i64 (wrap i64 (x10 + wrap i64 (x15 + 1)) + (↑(ByteArray.size substr) : Int))))) == ByteArray.toList substr)
(R (int i64 (wrap i64 (x10 + wrap i64 (x15 + 1)))) (w14))
(∃ x16 : Int, ((cell? w14 (Addr.mk 2 0 none) = some (int i64 x16)) ∧ (ifK (decide ((↑(ByteArray.size substr) : Int) ≤ x16))
(Ca Tryz.prog (161) (Array.mk [int i64 (wrap i64 (wrap i64 (x10 + wrap i64 (x15 + 1)) + 1))]) (w14) (fun v17 => (fun w18 =>
(∃ x19 : Int, ((v17 = int i64 x19) ∧ (ifK (decide (wrap i64 (x11 + 1) > x19))
(((0 : Int) ≤ wrap i64 (wrap i64 (x10 + wrap i64 (x15 + 1)) + 1)) ∧ (((wrap i64 (wrap i64 (x10 + wrap i64 (x15 + 1)) + 1) : Int) ≤ (↑(ByteArray.size s) : Int)) ∧ ((((↑(ByteArray.size s) : Int) : Int) ≤ (↑(ByteArray.size s) : Int)) ∧ (Ca Tryz.prog (160) (Array.mk [string (ByteArray.extract s (Int.toNat (wrap i64 (wrap i64 (x10 + wrap i64 (x15 + 1)) + 1))) (Int.toNat (↑(ByteArray.size s) : Int))), string substr]) (w18) (fun v20 => (fun w21 =>
(∃ x22 : Int, ((v20 = int i64 x22) ∧ (ifK (decide (x22 ≥ 0))
(R (int i64 (wrap i64 (x22 + wrap i64 (wrap i64 (x10 + wrap i64 (x15 + 1)) + 1)))) (w21))
(R (int i64 (-1)) (w21)))))))))))
(∃ x23 : Int, ((cell? w18 (Addr.mk 2 0 none) = some (int i64 x23)) ∧ (ifK (decide ((↑(ByteArray.size substr) : Int) > x23))
(((0 : Int) ≤ 4) ∧ (ifK (decide (wrap i64 (x11 + 1) ≥ wrap i64 (4 + Int.fdiv (wrap i64 (wrap i64 (x10 + wrap i64 (x15 + 1)) + 1)) (2 ^ 4))))
(ifK (decide (wrap i64 (wrap i64 (x10 + wrap i64 (x15 + 1)) + 1) < wrap i64 (wrap i64 ((↑(ByteArray.size s) : Int) - (↑(ByteArray.size substr) : Int)) + 1)))
(((0 : Int) ≤ wrap i64 (wrap i64 (x10 + wrap i64 (x15 + 1)) + 1)) ∧ (((wrap i64 (wrap i64 (x10 + wrap i64 (x15 + 1)) + 1) : Int) ≤ (↑(ByteArray.size s) : Int)) ∧ ((((↑(ByteArray.size s) : Int) : Int) ≤ (↑(ByteArray.size s) : Int)) ∧ (Ca Tryz.prog (162) (Array.mk [string (ByteArray.extract s (Int.toNat (wrap i64 (wrap i64 (x10 + wrap i64 (x15 + 1)) + 1))) (Int.toNat (↑(ByteArray.size s) : Int))), string substr]) (w18) (fun v24 => (fun w25 =>
(∃ x26 : Int, ((v24 = int i64 x26) ∧ (ifK (decide (x26 < 0))
(R (int i64 (-1)) (w25))
(R (int i64 (wrap i64 (wrap i64 (wrap i64 (x10 + wrap i64 (x15 + 1)) + 1) + x26))) (w25)))))))))))
((z7 (wrap i64 (wrap i64 (x10 + wrap i64 (x15 + 1)) + 1)) (wrap i64 (x11 + 1)) (w18)) ∧ (z8 (wrap i64 (wrap i64 (x10 + wrap i64 (x15 + 1)) + 1)) (wrap i64 (x11 + 1)) w18 < z8 x10 x11 w12)))
((z7 (wrap i64 (wrap i64 (x10 + wrap i64 (x15 + 1)) + 1)) (wrap i64 (x11 + 1)) (w18)) ∧ (z8 (wrap i64 (wrap i64 (x10 + wrap i64 (x15 + 1)) + 1)) (wrap i64 (x11 + 1)) w18 < z8 x10 x11 w12))))
((z7 (wrap i64 (wrap i64 (x10 + wrap i64 (x15 + 1)) + 1)) (wrap i64 (x11 + 1)) (w18)) ∧ (z8 (wrap i64 (wrap i64 (x10 + wrap i64 (x15 + 1)) + 1)) (wrap i64 (x11 + 1)) w18 < z8 x10 x11 w12)))))))))))
(∃ x27 : Int, ((cell? w14 (Addr.mk 2 0 none) = some (int i64 x27)) ∧ (ifK (decide ((↑(ByteArray.size substr) : Int) > x27))
(((0 : Int) ≤ 4) ∧ (ifK (decide (wrap i64 (x11 + 1) ≥ wrap i64 (4 + Int.fdiv (wrap i64 (wrap i64 (x10 + wrap i64 (x15 + 1)) + 1)) (2 ^ 4))))
(ifK (decide (wrap i64 (wrap i64 (x10 + wrap i64 (x15 + 1)) + 1) < wrap i64 (wrap i64 ((↑(ByteArray.size s) : Int) - (↑(ByteArray.size substr) : Int)) + 1)))
(((0 : Int) ≤ wrap i64 (wrap i64 (x10 + wrap i64 (x15 + 1)) + 1)) ∧ (((wrap i64 (wrap i64 (x10 + wrap i64 (x15 + 1)) + 1) : Int) ≤ (↑(ByteArray.size s) : Int)) ∧ ((((↑(ByteArray.size s) : Int) : Int) ≤ (↑(ByteArray.size s) : Int)) ∧ (Ca Tryz.prog (162) (Array.mk [string (ByteArray.extract s (Int.toNat (wrap i64 (wrap i64 (x10 + wrap i64 (x15 + 1)) + 1))) (Int.toNat (↑(ByteArray.size s) : Int))), string substr]) (w14) (fun v28 => (fun w29 =>
(∃ x30 : Int, ((v28 = int i64 x30) ∧ (ifK (decide (x30 < 0))
(R (int i64 (-1)) (w29))
(R (int i64 (wrap i64 (wrap i64 (wrap i64 (x10 + wrap i64 (x15 + 1)) + 1) + x30))) (w29)))))))))))
((z7 (wrap i64 (wrap i64 (x10 + wrap i64 (x15 + 1)) + 1)) (wrap i64 (x11 + 1)) (w14)) ∧ (z8 (wrap i64 (wrap i64 (x10 + wrap i64 (x15 + 1)) + 1)) (wrap i64 (x11 + 1)) w14 < z8 x10 x11 w12)))
((z7 (wrap i64 (wrap i64 (x10 + wrap i64 (x15 + 1)) + 1)) (wrap i64 (x11 + 1)) (w14)) ∧ (z8 (wrap i64 (wrap i64 (x10 + wrap i64 (x15 + 1)) + 1)) (wrap i64 (x11 + 1)) w14 < z8 x10 x11 w12))))
((z7 (wrap i64 (wrap i64 (x10 + wrap i64 (x15 + 1)) + 1)) (wrap i64 (x11 + 1)) (w14)) ∧ (z8 (wrap i64 (wrap i64 (x10 + wrap i64 (x15 + 1)) + 1)) (wrap i64 (x11 + 1)) w14 < z8 x10 x11 w12))))))))))))
(∃ x31 : Int, ((cell? w14 (Addr.mk 2 0 none) = some (int i64 x31)) ∧ (ifK (decide ((↑(ByteArray.size substr) : Int) ≤ x31))
(Ca Tryz.prog (161) (Array.mk [int i64 (wrap i64 (wrap i64 (x10 + wrap i64 (x15 + 1)) + 1))]) (w14) (fun v32 => (fun w33 =>
(∃ x34 : Int, ((v32 = int i64 x34) ∧ (ifK (decide (wrap i64 (x11 + 1) > x34))
(((0 : Int) ≤ wrap i64 (wrap i64 (x10 + wrap i64 (x15 + 1)) + 1)) ∧ (((wrap i64 (wrap i64 (x10 + wrap i64 (x15 + 1)) + 1) : Int) ≤ (↑(ByteArray.size s) : Int)) ∧ ((((↑(ByteArray.size s) : Int) : Int) ≤ (↑(ByteArray.size s) : Int)) ∧ (Ca Tryz.prog (160) (Array.mk [string (ByteArray.extract s (Int.toNat (wrap i64 (wrap i64 (x10 + wrap i64 (x15 + 1)) + 1))) (Int.toNat (↑(ByteArray.size s) : Int))), string substr]) (w33) (fun v35 => (fun w36 =>
(∃ x37 : Int, ((v35 = int i64 x37) ∧ (ifK (decide (x37 ≥ 0))
(R (int i64 (wrap i64 (x37 + wrap i64 (wrap i64 (x10 + wrap i64 (x15 + 1)) + 1)))) (w36))
(R (int i64 (-1)) (w36)))))))))))
(∃ x38 : Int, ((cell? w33 (Addr.mk 2 0 none) = some (int i64 x38)) ∧ (ifK (decide ((↑(ByteArray.size substr) : Int) > x38))
(((0 : Int) ≤ 4) ∧ (ifK (decide (wrap i64 (x11 + 1) ≥ wrap i64 (4 + Int.fdiv (wrap i64 (wrap i64 (x10 + wrap i64 (x15 + 1)) + 1)) (2 ^ 4))))
(ifK (decide (wrap i64 (wrap i64 (x10 + wrap i64 (x15 + 1)) + 1) < wrap i64 (wrap i64 ((↑(ByteArray.size s) : Int) - (↑(ByteArray.size substr) : Int)) + 1)))
(((0 : Int) ≤ wrap i64 (wrap i64 (x10 + wrap i64 (x15 + 1)) + 1)) ∧ (((wrap i64 (wrap i64 (x10 + wrap i64 (x15 + 1)) + 1) : Int) ≤ (↑(ByteArray.size s) : Int)) ∧ ((((↑(ByteArray.size s) : Int) : Int) ≤ (↑(ByteArray.size s) : Int)) ∧ (Ca Tryz.prog (162) (Array.mk [string (ByteArray.extract s (Int.toNat (wrap i64 (wrap i64 (x10 + wrap i64 (x15 + 1)) + 1))) (Int.toNat (↑(ByteArray.size s) : Int))), string substr]) (w33) (fun v39 => (fun w40 =>
(∃ x41 : Int, ((v39 = int i64 x41) ∧ (ifK (decide (x41 < 0))
(R (int i64 (-1)) (w40))
(R (int i64 (wrap i64 (wrap i64 (wrap i64 (x10 + wrap i64 (x15 + 1)) + 1) + x41))) (w40)))))))))))
((z7 (wrap i64 (wrap i64 (x10 + wrap i64 (x15 + 1)) + 1)) (wrap i64 (x11 + 1)) (w33)) ∧ (z8 (wrap i64 (wrap i64 (x10 + wrap i64 (x15 + 1)) + 1)) (wrap i64 (x11 + 1)) w33 < z8 x10 x11 w12)))
((z7 (wrap i64 (wrap i64 (x10 + wrap i64 (x15 + 1)) + 1)) (wrap i64 (x11 + 1)) (w33)) ∧ (z8 (wrap i64 (wrap i64 (x10 + wrap i64 (x15 + 1)) + 1)) (wrap i64 (x11 + 1)) w33 < z8 x10 x11 w12))))
((z7 (wrap i64 (wrap i64 (x10 + wrap i64 (x15 + 1)) + 1)) (wrap i64 (x11 + 1)) (w33)) ∧ (z8 (wrap i64 (wrap i64 (x10 + wrap i64 (x15 + 1)) + 1)) (wrap i64 (x11 + 1)) w33 < z8 x10 x11 w12)))))))))))
(∃ x42 : Int, ((cell? w14 (Addr.mk 2 0 none) = some (int i64 x42)) ∧ (ifK (decide ((↑(ByteArray.size substr) : Int) > x42))
(((0 : Int) ≤ 4) ∧ (ifK (decide (wrap i64 (x11 + 1) ≥ wrap i64 (4 + Int.fdiv (wrap i64 (wrap i64 (x10 + wrap i64 (x15 + 1)) + 1)) (2 ^ 4))))
(ifK (decide (wrap i64 (wrap i64 (x10 + wrap i64 (x15 + 1)) + 1) < wrap i64 (wrap i64 ((↑(ByteArray.size s) : Int) - (↑(ByteArray.size substr) : Int)) + 1)))
(((0 : Int) ≤ wrap i64 (wrap i64 (x10 + wrap i64 (x15 + 1)) + 1)) ∧ (((wrap i64 (wrap i64 (x10 + wrap i64 (x15 + 1)) + 1) : Int) ≤ (↑(ByteArray.size s) : Int)) ∧ ((((↑(ByteArray.size s) : Int) : Int) ≤ (↑(ByteArray.size s) : Int)) ∧ (Ca Tryz.prog (162) (Array.mk [string (ByteArray.extract s (Int.toNat (wrap i64 (wrap i64 (x10 + wrap i64 (x15 + 1)) + 1))) (Int.toNat (↑(ByteArray.size s) : Int))), string substr]) (w14) (fun v43 => (fun w44 =>
(∃ x45 : Int, ((v43 = int i64 x45) ∧ (ifK (decide (x45 < 0))
(R (int i64 (-1)) (w44))
(R (int i64 (wrap i64 (wrap i64 (wrap i64 (x10 + wrap i64 (x15 + 1)) + 1) + x45))) (w44)))))))))))
((z7 (wrap i64 (wrap i64 (x10 + wrap i64 (x15 + 1)) + 1)) (wrap i64 (x11 + 1)) (w14)) ∧ (z8 (wrap i64 (wrap i64 (x10 + wrap i64 (x15 + 1)) + 1)) (wrap i64 (x11 + 1)) w14 < z8 x10 x11 w12)))
((z7 (wrap i64 (wrap i64 (x10 + wrap i64 (x15 + 1)) + 1)) (wrap i64 (x11 + 1)) (w14)) ∧ (z8 (wrap i64 (wrap i64 (x10 + wrap i64 (x15 + 1)) + 1)) (wrap i64 (x11 + 1)) w14 < z8 x10 x11 w12))))
((z7 (wrap i64 (wrap i64 (x10 + wrap i64 (x15 + 1)) + 1)) (wrap i64 (x11 + 1)) (w14)) ∧ (z8 (wrap i64 (wrap i64 (x10 + wrap i64 (x15 + 1)) + 1)) (wrap i64 (x11 + 1)) w14 < z8 x10 x11 w12))))))))))))))))))))
(((0 : Int) ≤ wrap i64 (x10 + 1)) ∧ (((wrap i64 (x10 + 1) : Int) < (↑(ByteArray.size s) : Int)) ∧ (ifK (byteAt s (Int.toNat (wrap i64 (x10 + 1))) == byteAt substr 1)
(((0 : Int) ≤ x10) ∧ (((x10 : Int) ≤ wrap i64 (x10 + (↑(ByteArray.size substr) : Int))) ∧ (((wrap i64 (x10 + (↑(ByteArray.size substr) : Int)) : Int) ≤ (↑(ByteArray.size s) : Int)) ∧ (ifK (ByteArray.toList (ByteArray.extract s (Int.toNat x10) (Int.toNat (wrap i64 (x10 + (↑(ByteArray.size substr) : Int))))) == ByteArray.toList substr)
(R (int i64 x10) (w12))
(∃ x46 : Int, ((cell? w12 (Addr.mk 2 0 none) = some (int i64 x46)) ∧ (ifK (decide ((↑(ByteArray.size substr) : Int) ≤ x46))
(Ca Tryz.prog (161) (Array.mk [int i64 (wrap i64 (x10 + 1))]) (w12) (fun v47 => (fun w48 =>
(∃ x49 : Int, ((v47 = int i64 x49) ∧ (ifK (decide (wrap i64 (x11 + 1) > x49))
(((0 : Int) ≤ wrap i64 (x10 + 1)) ∧ (((wrap i64 (x10 + 1) : Int) ≤ (↑(ByteArray.size s) : Int)) ∧ ((((↑(ByteArray.size s) : Int) : Int) ≤ (↑(ByteArray.size s) : Int)) ∧ (Ca Tryz.prog (160) (Array.mk [string (ByteArray.extract s (Int.toNat (wrap i64 (x10 + 1))) (Int.toNat (↑(ByteArray.size s) : Int))), string substr]) (w48) (fun v50 => (fun w51 =>
(∃ x52 : Int, ((v50 = int i64 x52) ∧ (ifK (decide (x52 ≥ 0))
(R (int i64 (wrap i64 (x52 + wrap i64 (x10 + 1)))) (w51))
(R (int i64 (-1)) (w51)))))))))))
(∃ x53 : Int, ((cell? w48 (Addr.mk 2 0 none) = some (int i64 x53)) ∧ (ifK (decide ((↑(ByteArray.size substr) : Int) > x53))
(((0 : Int) ≤ 4) ∧ (ifK (decide (wrap i64 (x11 + 1) ≥ wrap i64 (4 + Int.fdiv (wrap i64 (x10 + 1)) (2 ^ 4))))
(ifK (decide (wrap i64 (x10 + 1) < wrap i64 (wrap i64 ((↑(ByteArray.size s) : Int) - (↑(ByteArray.size substr) : Int)) + 1)))
(((0 : Int) ≤ wrap i64 (x10 + 1)) ∧ (((wrap i64 (x10 + 1) : Int) ≤ (↑(ByteArray.size s) : Int)) ∧ ((((↑(ByteArray.size s) : Int) : Int) ≤ (↑(ByteArray.size s) : Int)) ∧ (Ca Tryz.prog (162) (Array.mk [string (ByteArray.extract s (Int.toNat (wrap i64 (x10 + 1))) (Int.toNat (↑(ByteArray.size s) : Int))), string substr]) (w48) (fun v54 => (fun w55 =>
(∃ x56 : Int, ((v54 = int i64 x56) ∧ (ifK (decide (x56 < 0))
(R (int i64 (-1)) (w55))
(R (int i64 (wrap i64 (wrap i64 (x10 + 1) + x56))) (w55)))))))))))
((z7 (wrap i64 (x10 + 1)) (wrap i64 (x11 + 1)) (w48)) ∧ (z8 (wrap i64 (x10 + 1)) (wrap i64 (x11 + 1)) w48 < z8 x10 x11 w12)))
((z7 (wrap i64 (x10 + 1)) (wrap i64 (x11 + 1)) (w48)) ∧ (z8 (wrap i64 (x10 + 1)) (wrap i64 (x11 + 1)) w48 < z8 x10 x11 w12))))
((z7 (wrap i64 (x10 + 1)) (wrap i64 (x11 + 1)) (w48)) ∧ (z8 (wrap i64 (x10 + 1)) (wrap i64 (x11 + 1)) w48 < z8 x10 x11 w12)))))))))))
(∃ x57 : Int, ((cell? w12 (Addr.mk 2 0 none) = some (int i64 x57)) ∧ (ifK (decide ((↑(ByteArray.size substr) : Int) > x57))
(((0 : Int) ≤ 4) ∧ (ifK (decide (wrap i64 (x11 + 1) ≥ wrap i64 (4 + Int.fdiv (wrap i64 (x10 + 1)) (2 ^ 4))))
(ifK (decide (wrap i64 (x10 + 1) < wrap i64 (wrap i64 ((↑(ByteArray.size s) : Int) - (↑(ByteArray.size substr) : Int)) + 1)))
(((0 : Int) ≤ wrap i64 (x10 + 1)) ∧ (((wrap i64 (x10 + 1) : Int) ≤ (↑(ByteArray.size s) : Int)) ∧ ((((↑(ByteArray.size s) : Int) : Int) ≤ (↑(ByteArray.size s) : Int)) ∧ (Ca Tryz.prog (162) (Array.mk [string (ByteArray.extract s (Int.toNat (wrap i64 (x10 + 1))) (Int.toNat (↑(ByteArray.size s) : Int))), string substr]) (w12) (fun v58 => (fun w59 =>
(∃ x60 : Int, ((v58 = int i64 x60) ∧ (ifK (decide (x60 < 0))
(R (int i64 (-1)) (w59))
(R (int i64 (wrap i64 (wrap i64 (x10 + 1) + x60))) (w59)))))))))))
((z7 (wrap i64 (x10 + 1)) (wrap i64 (x11 + 1)) (w12)) ∧ (z8 (wrap i64 (x10 + 1)) (wrap i64 (x11 + 1)) w12 < z8 x10 x11 w12)))
((z7 (wrap i64 (x10 + 1)) (wrap i64 (x11 + 1)) (w12)) ∧ (z8 (wrap i64 (x10 + 1)) (wrap i64 (x11 + 1)) w12 < z8 x10 x11 w12))))
((z7 (wrap i64 (x10 + 1)) (wrap i64 (x11 + 1)) (w12)) ∧ (z8 (wrap i64 (x10 + 1)) (wrap i64 (x11 + 1)) w12 < z8 x10 x11 w12))))))))))))
(∃ x61 : Int, ((cell? w12 (Addr.mk 2 0 none) = some (int i64 x61)) ∧ (ifK (decide ((↑(ByteArray.size substr) : Int) ≤ x61))
(Ca Tryz.prog (161) (Array.mk [int i64 (wrap i64 (x10 + 1))]) (w12) (fun v62 => (fun w63 =>
(∃ x64 : Int, ((v62 = int i64 x64) ∧ (ifK (decide (wrap i64 (x11 + 1) > x64))
(((0 : Int) ≤ wrap i64 (x10 + 1)) ∧ (((wrap i64 (x10 + 1) : Int) ≤ (↑(ByteArray.size s) : Int)) ∧ ((((↑(ByteArray.size s) : Int) : Int) ≤ (↑(ByteArray.size s) : Int)) ∧ (Ca Tryz.prog (160) (Array.mk [string (ByteArray.extract s (Int.toNat (wrap i64 (x10 + 1))) (Int.toNat (↑(ByteArray.size s) : Int))), string substr]) (w63) (fun v65 => (fun w66 =>
(∃ x67 : Int, ((v65 = int i64 x67) ∧ (ifK (decide (x67 ≥ 0))
(R (int i64 (wrap i64 (x67 + wrap i64 (x10 + 1)))) (w66))
(R (int i64 (-1)) (w66)))))))))))
(∃ x68 : Int, ((cell? w63 (Addr.mk 2 0 none) = some (int i64 x68)) ∧ (ifK (decide ((↑(ByteArray.size substr) : Int) > x68))
(((0 : Int) ≤ 4) ∧ (ifK (decide (wrap i64 (x11 + 1) ≥ wrap i64 (4 + Int.fdiv (wrap i64 (x10 + 1)) (2 ^ 4))))
(ifK (decide (wrap i64 (x10 + 1) < wrap i64 (wrap i64 ((↑(ByteArray.size s) : Int) - (↑(ByteArray.size substr) : Int)) + 1)))
(((0 : Int) ≤ wrap i64 (x10 + 1)) ∧ (((wrap i64 (x10 + 1) : Int) ≤ (↑(ByteArray.size s) : Int)) ∧ ((((↑(ByteArray.size s) : Int) : Int) ≤ (↑(ByteArray.size s) : Int)) ∧ (Ca Tryz.prog (162) (Array.mk [string (ByteArray.extract s (Int.toNat (wrap i64 (x10 + 1))) (Int.toNat (↑(ByteArray.size s) : Int))), string substr]) (w63) (fun v69 => (fun w70 =>
(∃ x71 : Int, ((v69 = int i64 x71) ∧ (ifK (decide (x71 < 0))
(R (int i64 (-1)) (w70))
(R (int i64 (wrap i64 (wrap i64 (x10 + 1) + x71))) (w70)))))))))))
((z7 (wrap i64 (x10 + 1)) (wrap i64 (x11 + 1)) (w63)) ∧ (z8 (wrap i64 (x10 + 1)) (wrap i64 (x11 + 1)) w63 < z8 x10 x11 w12)))
((z7 (wrap i64 (x10 + 1)) (wrap i64 (x11 + 1)) (w63)) ∧ (z8 (wrap i64 (x10 + 1)) (wrap i64 (x11 + 1)) w63 < z8 x10 x11 w12))))
((z7 (wrap i64 (x10 + 1)) (wrap i64 (x11 + 1)) (w63)) ∧ (z8 (wrap i64 (x10 + 1)) (wrap i64 (x11 + 1)) w63 < z8 x10 x11 w12)))))))))))
(∃ x72 : Int, ((cell? w12 (Addr.mk 2 0 none) = some (int i64 x72)) ∧ (ifK (decide ((↑(ByteArray.size substr) : Int) > x72))
(((0 : Int) ≤ 4) ∧ (ifK (decide (wrap i64 (x11 + 1) ≥ wrap i64 (4 + Int.fdiv (wrap i64 (x10 + 1)) (2 ^ 4))))
(ifK (decide (wrap i64 (x10 + 1) < wrap i64 (wrap i64 ((↑(ByteArray.size s) : Int) - (↑(ByteArray.size substr) : Int)) + 1)))
(((0 : Int) ≤ wrap i64 (x10 + 1)) ∧ (((wrap i64 (x10 + 1) : Int) ≤ (↑(ByteArray.size s) : Int)) ∧ ((((↑(ByteArray.size s) : Int) : Int) ≤ (↑(ByteArray.size s) : Int)) ∧ (Ca Tryz.prog (162) (Array.mk [string (ByteArray.extract s (Int.toNat (wrap i64 (x10 + 1))) (Int.toNat (↑(ByteArray.size s) : Int))), string substr]) (w12) (fun v73 => (fun w74 =>
(∃ x75 : Int, ((v73 = int i64 x75) ∧ (ifK (decide (x75 < 0))
(R (int i64 (-1)) (w74))
(R (int i64 (wrap i64 (wrap i64 (x10 + 1) + x75))) (w74)))))))))))
((z7 (wrap i64 (x10 + 1)) (wrap i64 (x11 + 1)) (w12)) ∧ (z8 (wrap i64 (x10 + 1)) (wrap i64 (x11 + 1)) w12 < z8 x10 x11 w12)))
((z7 (wrap i64 (x10 + 1)) (wrap i64 (x11 + 1)) (w12)) ∧ (z8 (wrap i64 (x10 + 1)) (wrap i64 (x11 + 1)) w12 < z8 x10 x11 w12))))
((z7 (wrap i64 (x10 + 1)) (wrap i64 (x11 + 1)) (w12)) ∧ (z8 (wrap i64 (x10 + 1)) (wrap i64 (x11 + 1)) w12 < z8 x10 x11 w12))))))))))))))
(R (int i64 (-1)) (w12))))))))))))))))
(((0 : Int) ≤ 0) ∧ (((0 : Int) < (↑(ByteArray.size substr) : Int)) ∧ (((0 : Int) ≤ 1) ∧ (((1 : Int) < (↑(ByteArray.size substr) : Int)) ∧ (∃ z76 : Int → Int → World → Prop, (∃ z77 : Int → Int → World → Nat, ((z76 (0) (0) (w)) ∧ (∀ (_ : Nat → Value), (∀ (x79 : Int), (∀ (x80 : Int), (∀ (w81 : World), ((z76 (x79) (x80) (w81)) → (ifK (decide (x79 < wrap i64 (wrap i64 ((↑(ByteArray.size s) : Int) - (↑(ByteArray.size substr) : Int)) + 1)))
(((0 : Int) ≤ x79) ∧ (((x79 : Int) < (↑(ByteArray.size s) : Int)) ∧ (ifK (byteAt s (Int.toNat x79) != byteAt substr 0)
(((0 : Int) ≤ wrap i64 (x79 + 1)) ∧ (((wrap i64 (x79 + 1) : Int) ≤ wrap i64 (wrap i64 ((↑(ByteArray.size s) : Int) - (↑(ByteArray.size substr) : Int)) + 1)) ∧ (((wrap i64 (wrap i64 ((↑(ByteArray.size s) : Int) - (↑(ByteArray.size substr) : Int)) + 1) : Int) ≤ (↑(ByteArray.size s) : Int)) ∧ (Ca Tryz.prog (159) (Array.mk [string (ByteArray.extract s (Int.toNat (wrap i64 (x79 + 1))) (Int.toNat (wrap i64 (wrap i64 ((↑(ByteArray.size s) : Int) - (↑(ByteArray.size substr) : Int)) + 1)))), int u8 (byteAt substr 0)]) (w81) (fun v82 => (fun w83 =>
(∃ x84 : Int, ((v82 = int i64 x84) ∧ (ifK (decide (x84 < 0))
(R (int i64 (-1)) (w83))
(((0 : Int) ≤ wrap i64 (wrap i64 (x79 + wrap i64 (x84 + 1)) + 1)) ∧ (((wrap i64 (wrap i64 (x79 + wrap i64 (x84 + 1)) + 1) : Int) < (↑(ByteArray.size s) : Int)) ∧ (ifK (byteAt s (Int.toNat (wrap i64 (wrap i64 (x79 + wrap i64 (x84 + 1)) + 1))) == byteAt substr 1)
(((0 : Int) ≤ wrap i64 (x79 + wrap i64 (x84 + 1))) ∧ (((wrap i64 (x79 + wrap i64 (x84 + 1)) : Int) ≤ wrap i64 (wrap i64 (x79 + wrap i64 (x84 + 1)) + (↑(ByteArray.size substr) : Int))) ∧ (((wrap i64 (wrap i64 (x79 + wrap i64 (x84 + 1)) + (↑(ByteArray.size substr) : Int)) : Int) ≤ (↑(ByteArray.size s) : Int)) ∧ (ifK (ByteArray.toList (ByteArray.extract s (Int.toNat (wrap i64 (x79 + wrap i64 (x84 + 1)))) (Int.toNat (wrap i64 (wrap i64 (x79 + wrap i64 (x84 + 1)) + (↑(ByteArray.size substr) : Int))))) == ByteArray.toList substr)
(R (int i64 (wrap i64 (x79 + wrap i64 (x84 + 1)))) (w83))
(∃ x85 : Int, ((cell? w83 (Addr.mk 2 0 none) = some (int i64 x85)) ∧ (ifK (decide ((↑(ByteArray.size substr) : Int) ≤ x85))
(Ca Tryz.prog (161) (Array.mk [int i64 (wrap i64 (wrap i64 (x79 + wrap i64 (x84 + 1)) + 1))]) (w83) (fun v86 => (fun w87 =>
(∃ x88 : Int, ((v86 = int i64 x88) ∧ (ifK (decide (wrap i64 (x80 + 1) > x88))
(((0 : Int) ≤ wrap i64 (wrap i64 (x79 + wrap i64 (x84 + 1)) + 1)) ∧ (((wrap i64 (wrap i64 (x79 + wrap i64 (x84 + 1)) + 1) : Int) ≤ (↑(ByteArray.size s) : Int)) ∧ ((((↑(ByteArray.size s) : Int) : Int) ≤ (↑(ByteArray.size s) : Int)) ∧ (Ca Tryz.prog (160) (Array.mk [string (ByteArray.extract s (Int.toNat (wrap i64 (wrap i64 (x79 + wrap i64 (x84 + 1)) + 1))) (Int.toNat (↑(ByteArray.size s) : Int))), string substr]) (w87) (fun v89 => (fun w90 =>
(∃ x91 : Int, ((v89 = int i64 x91) ∧ (ifK (decide (x91 ≥ 0))
(R (int i64 (wrap i64 (x91 + wrap i64 (wrap i64 (x79 + wrap i64 (x84 + 1)) + 1)))) (w90))
(R (int i64 (-1)) (w90)))))))))))
(∃ x92 : Int, ((cell? w87 (Addr.mk 2 0 none) = some (int i64 x92)) ∧ (ifK (decide ((↑(ByteArray.size substr) : Int) > x92))
(((0 : Int) ≤ 4) ∧ (ifK (decide (wrap i64 (x80 + 1) ≥ wrap i64 (4 + Int.fdiv (wrap i64 (wrap i64 (x79 + wrap i64 (x84 + 1)) + 1)) (2 ^ 4))))
(ifK (decide (wrap i64 (wrap i64 (x79 + wrap i64 (x84 + 1)) + 1) < wrap i64 (wrap i64 ((↑(ByteArray.size s) : Int) - (↑(ByteArray.size substr) : Int)) + 1)))
(((0 : Int) ≤ wrap i64 (wrap i64 (x79 + wrap i64 (x84 + 1)) + 1)) ∧ (((wrap i64 (wrap i64 (x79 + wrap i64 (x84 + 1)) + 1) : Int) ≤ (↑(ByteArray.size s) : Int)) ∧ ((((↑(ByteArray.size s) : Int) : Int) ≤ (↑(ByteArray.size s) : Int)) ∧ (Ca Tryz.prog (162) (Array.mk [string (ByteArray.extract s (Int.toNat (wrap i64 (wrap i64 (x79 + wrap i64 (x84 + 1)) + 1))) (Int.toNat (↑(ByteArray.size s) : Int))), string substr]) (w87) (fun v93 => (fun w94 =>
(∃ x95 : Int, ((v93 = int i64 x95) ∧ (ifK (decide (x95 < 0))
(R (int i64 (-1)) (w94))
(R (int i64 (wrap i64 (wrap i64 (wrap i64 (x79 + wrap i64 (x84 + 1)) + 1) + x95))) (w94)))))))))))
((z76 (wrap i64 (wrap i64 (x79 + wrap i64 (x84 + 1)) + 1)) (wrap i64 (x80 + 1)) (w87)) ∧ (z77 (wrap i64 (wrap i64 (x79 + wrap i64 (x84 + 1)) + 1)) (wrap i64 (x80 + 1)) w87 < z77 x79 x80 w81)))
((z76 (wrap i64 (wrap i64 (x79 + wrap i64 (x84 + 1)) + 1)) (wrap i64 (x80 + 1)) (w87)) ∧ (z77 (wrap i64 (wrap i64 (x79 + wrap i64 (x84 + 1)) + 1)) (wrap i64 (x80 + 1)) w87 < z77 x79 x80 w81))))
((z76 (wrap i64 (wrap i64 (x79 + wrap i64 (x84 + 1)) + 1)) (wrap i64 (x80 + 1)) (w87)) ∧ (z77 (wrap i64 (wrap i64 (x79 + wrap i64 (x84 + 1)) + 1)) (wrap i64 (x80 + 1)) w87 < z77 x79 x80 w81)))))))))))
(∃ x96 : Int, ((cell? w83 (Addr.mk 2 0 none) = some (int i64 x96)) ∧ (ifK (decide ((↑(ByteArray.size substr) : Int) > x96))
(((0 : Int) ≤ 4) ∧ (ifK (decide (wrap i64 (x80 + 1) ≥ wrap i64 (4 + Int.fdiv (wrap i64 (wrap i64 (x79 + wrap i64 (x84 + 1)) + 1)) (2 ^ 4))))
(ifK (decide (wrap i64 (wrap i64 (x79 + wrap i64 (x84 + 1)) + 1) < wrap i64 (wrap i64 ((↑(ByteArray.size s) : Int) - (↑(ByteArray.size substr) : Int)) + 1)))
(((0 : Int) ≤ wrap i64 (wrap i64 (x79 + wrap i64 (x84 + 1)) + 1)) ∧ (((wrap i64 (wrap i64 (x79 + wrap i64 (x84 + 1)) + 1) : Int) ≤ (↑(ByteArray.size s) : Int)) ∧ ((((↑(ByteArray.size s) : Int) : Int) ≤ (↑(ByteArray.size s) : Int)) ∧ (Ca Tryz.prog (162) (Array.mk [string (ByteArray.extract s (Int.toNat (wrap i64 (wrap i64 (x79 + wrap i64 (x84 + 1)) + 1))) (Int.toNat (↑(ByteArray.size s) : Int))), string substr]) (w83) (fun v97 => (fun w98 =>
(∃ x99 : Int, ((v97 = int i64 x99) ∧ (ifK (decide (x99 < 0))
(R (int i64 (-1)) (w98))
(R (int i64 (wrap i64 (wrap i64 (wrap i64 (x79 + wrap i64 (x84 + 1)) + 1) + x99))) (w98)))))))))))
((z76 (wrap i64 (wrap i64 (x79 + wrap i64 (x84 + 1)) + 1)) (wrap i64 (x80 + 1)) (w83)) ∧ (z77 (wrap i64 (wrap i64 (x79 + wrap i64 (x84 + 1)) + 1)) (wrap i64 (x80 + 1)) w83 < z77 x79 x80 w81)))
((z76 (wrap i64 (wrap i64 (x79 + wrap i64 (x84 + 1)) + 1)) (wrap i64 (x80 + 1)) (w83)) ∧ (z77 (wrap i64 (wrap i64 (x79 + wrap i64 (x84 + 1)) + 1)) (wrap i64 (x80 + 1)) w83 < z77 x79 x80 w81))))
((z76 (wrap i64 (wrap i64 (x79 + wrap i64 (x84 + 1)) + 1)) (wrap i64 (x80 + 1)) (w83)) ∧ (z77 (wrap i64 (wrap i64 (x79 + wrap i64 (x84 + 1)) + 1)) (wrap i64 (x80 + 1)) w83 < z77 x79 x80 w81))))))))))))
(∃ x100 : Int, ((cell? w83 (Addr.mk 2 0 none) = some (int i64 x100)) ∧ (ifK (decide ((↑(ByteArray.size substr) : Int) ≤ x100))
(Ca Tryz.prog (161) (Array.mk [int i64 (wrap i64 (wrap i64 (x79 + wrap i64 (x84 + 1)) + 1))]) (w83) (fun v101 => (fun w102 =>
(∃ x103 : Int, ((v101 = int i64 x103) ∧ (ifK (decide (wrap i64 (x80 + 1) > x103))
(((0 : Int) ≤ wrap i64 (wrap i64 (x79 + wrap i64 (x84 + 1)) + 1)) ∧ (((wrap i64 (wrap i64 (x79 + wrap i64 (x84 + 1)) + 1) : Int) ≤ (↑(ByteArray.size s) : Int)) ∧ ((((↑(ByteArray.size s) : Int) : Int) ≤ (↑(ByteArray.size s) : Int)) ∧ (Ca Tryz.prog (160) (Array.mk [string (ByteArray.extract s (Int.toNat (wrap i64 (wrap i64 (x79 + wrap i64 (x84 + 1)) + 1))) (Int.toNat (↑(ByteArray.size s) : Int))), string substr]) (w102) (fun v104 => (fun w105 =>
(∃ x106 : Int, ((v104 = int i64 x106) ∧ (ifK (decide (x106 ≥ 0))
(R (int i64 (wrap i64 (x106 + wrap i64 (wrap i64 (x79 + wrap i64 (x84 + 1)) + 1)))) (w105))
(R (int i64 (-1)) (w105)))))))))))
(∃ x107 : Int, ((cell? w102 (Addr.mk 2 0 none) = some (int i64 x107)) ∧ (ifK (decide ((↑(ByteArray.size substr) : Int) > x107))
(((0 : Int) ≤ 4) ∧ (ifK (decide (wrap i64 (x80 + 1) ≥ wrap i64 (4 + Int.fdiv (wrap i64 (wrap i64 (x79 + wrap i64 (x84 + 1)) + 1)) (2 ^ 4))))
(ifK (decide (wrap i64 (wrap i64 (x79 + wrap i64 (x84 + 1)) + 1) < wrap i64 (wrap i64 ((↑(ByteArray.size s) : Int) - (↑(ByteArray.size substr) : Int)) + 1)))
(((0 : Int) ≤ wrap i64 (wrap i64 (x79 + wrap i64 (x84 + 1)) + 1)) ∧ (((wrap i64 (wrap i64 (x79 + wrap i64 (x84 + 1)) + 1) : Int) ≤ (↑(ByteArray.size s) : Int)) ∧ ((((↑(ByteArray.size s) : Int) : Int) ≤ (↑(ByteArray.size s) : Int)) ∧ (Ca Tryz.prog (162) (Array.mk [string (ByteArray.extract s (Int.toNat (wrap i64 (wrap i64 (x79 + wrap i64 (x84 + 1)) + 1))) (Int.toNat (↑(ByteArray.size s) : Int))), string substr]) (w102) (fun v108 => (fun w109 =>
(∃ x110 : Int, ((v108 = int i64 x110) ∧ (ifK (decide (x110 < 0))
(R (int i64 (-1)) (w109))
(R (int i64 (wrap i64 (wrap i64 (wrap i64 (x79 + wrap i64 (x84 + 1)) + 1) + x110))) (w109)))))))))))
((z76 (wrap i64 (wrap i64 (x79 + wrap i64 (x84 + 1)) + 1)) (wrap i64 (x80 + 1)) (w102)) ∧ (z77 (wrap i64 (wrap i64 (x79 + wrap i64 (x84 + 1)) + 1)) (wrap i64 (x80 + 1)) w102 < z77 x79 x80 w81)))
((z76 (wrap i64 (wrap i64 (x79 + wrap i64 (x84 + 1)) + 1)) (wrap i64 (x80 + 1)) (w102)) ∧ (z77 (wrap i64 (wrap i64 (x79 + wrap i64 (x84 + 1)) + 1)) (wrap i64 (x80 + 1)) w102 < z77 x79 x80 w81))))
((z76 (wrap i64 (wrap i64 (x79 + wrap i64 (x84 + 1)) + 1)) (wrap i64 (x80 + 1)) (w102)) ∧ (z77 (wrap i64 (wrap i64 (x79 + wrap i64 (x84 + 1)) + 1)) (wrap i64 (x80 + 1)) w102 < z77 x79 x80 w81)))))))))))
(∃ x111 : Int, ((cell? w83 (Addr.mk 2 0 none) = some (int i64 x111)) ∧ (ifK (decide ((↑(ByteArray.size substr) : Int) > x111))
(((0 : Int) ≤ 4) ∧ (ifK (decide (wrap i64 (x80 + 1) ≥ wrap i64 (4 + Int.fdiv (wrap i64 (wrap i64 (x79 + wrap i64 (x84 + 1)) + 1)) (2 ^ 4))))
(ifK (decide (wrap i64 (wrap i64 (x79 + wrap i64 (x84 + 1)) + 1) < wrap i64 (wrap i64 ((↑(ByteArray.size s) : Int) - (↑(ByteArray.size substr) : Int)) + 1)))
(((0 : Int) ≤ wrap i64 (wrap i64 (x79 + wrap i64 (x84 + 1)) + 1)) ∧ (((wrap i64 (wrap i64 (x79 + wrap i64 (x84 + 1)) + 1) : Int) ≤ (↑(ByteArray.size s) : Int)) ∧ ((((↑(ByteArray.size s) : Int) : Int) ≤ (↑(ByteArray.size s) : Int)) ∧ (Ca Tryz.prog (162) (Array.mk [string (ByteArray.extract s (Int.toNat (wrap i64 (wrap i64 (x79 + wrap i64 (x84 + 1)) + 1))) (Int.toNat (↑(ByteArray.size s) : Int))), string substr]) (w83) (fun v112 => (fun w113 =>
(∃ x114 : Int, ((v112 = int i64 x114) ∧ (ifK (decide (x114 < 0))
(R (int i64 (-1)) (w113))
(R (int i64 (wrap i64 (wrap i64 (wrap i64 (x79 + wrap i64 (x84 + 1)) + 1) + x114))) (w113)))))))))))
((z76 (wrap i64 (wrap i64 (x79 + wrap i64 (x84 + 1)) + 1)) (wrap i64 (x80 + 1)) (w83)) ∧ (z77 (wrap i64 (wrap i64 (x79 + wrap i64 (x84 + 1)) + 1)) (wrap i64 (x80 + 1)) w83 < z77 x79 x80 w81)))
((z76 (wrap i64 (wrap i64 (x79 + wrap i64 (x84 + 1)) + 1)) (wrap i64 (x80 + 1)) (w83)) ∧ (z77 (wrap i64 (wrap i64 (x79 + wrap i64 (x84 + 1)) + 1)) (wrap i64 (x80 + 1)) w83 < z77 x79 x80 w81))))
((z76 (wrap i64 (wrap i64 (x79 + wrap i64 (x84 + 1)) + 1)) (wrap i64 (x80 + 1)) (w83)) ∧ (z77 (wrap i64 (wrap i64 (x79 + wrap i64 (x84 + 1)) + 1)) (wrap i64 (x80 + 1)) w83 < z77 x79 x80 w81))))))))))))))))))))
(((0 : Int) ≤ wrap i64 (x79 + 1)) ∧ (((wrap i64 (x79 + 1) : Int) < (↑(ByteArray.size s) : Int)) ∧ (ifK (byteAt s (Int.toNat (wrap i64 (x79 + 1))) == byteAt substr 1)
(((0 : Int) ≤ x79) ∧ (((x79 : Int) ≤ wrap i64 (x79 + (↑(ByteArray.size substr) : Int))) ∧ (((wrap i64 (x79 + (↑(ByteArray.size substr) : Int)) : Int) ≤ (↑(ByteArray.size s) : Int)) ∧ (ifK (ByteArray.toList (ByteArray.extract s (Int.toNat x79) (Int.toNat (wrap i64 (x79 + (↑(ByteArray.size substr) : Int))))) == ByteArray.toList substr)
(R (int i64 x79) (w81))
(∃ x115 : Int, ((cell? w81 (Addr.mk 2 0 none) = some (int i64 x115)) ∧ (ifK (decide ((↑(ByteArray.size substr) : Int) ≤ x115))
(Ca Tryz.prog (161) (Array.mk [int i64 (wrap i64 (x79 + 1))]) (w81) (fun v116 => (fun w117 =>
(∃ x118 : Int, ((v116 = int i64 x118) ∧ (ifK (decide (wrap i64 (x80 + 1) > x118))
(((0 : Int) ≤ wrap i64 (x79 + 1)) ∧ (((wrap i64 (x79 + 1) : Int) ≤ (↑(ByteArray.size s) : Int)) ∧ ((((↑(ByteArray.size s) : Int) : Int) ≤ (↑(ByteArray.size s) : Int)) ∧ (Ca Tryz.prog (160) (Array.mk [string (ByteArray.extract s (Int.toNat (wrap i64 (x79 + 1))) (Int.toNat (↑(ByteArray.size s) : Int))), string substr]) (w117) (fun v119 => (fun w120 =>
(∃ x121 : Int, ((v119 = int i64 x121) ∧ (ifK (decide (x121 ≥ 0))
(R (int i64 (wrap i64 (x121 + wrap i64 (x79 + 1)))) (w120))
(R (int i64 (-1)) (w120)))))))))))
(∃ x122 : Int, ((cell? w117 (Addr.mk 2 0 none) = some (int i64 x122)) ∧ (ifK (decide ((↑(ByteArray.size substr) : Int) > x122))
(((0 : Int) ≤ 4) ∧ (ifK (decide (wrap i64 (x80 + 1) ≥ wrap i64 (4 + Int.fdiv (wrap i64 (x79 + 1)) (2 ^ 4))))
(ifK (decide (wrap i64 (x79 + 1) < wrap i64 (wrap i64 ((↑(ByteArray.size s) : Int) - (↑(ByteArray.size substr) : Int)) + 1)))
(((0 : Int) ≤ wrap i64 (x79 + 1)) ∧ (((wrap i64 (x79 + 1) : Int) ≤ (↑(ByteArray.size s) : Int)) ∧ ((((↑(ByteArray.size s) : Int) : Int) ≤ (↑(ByteArray.size s) : Int)) ∧ (Ca Tryz.prog (162) (Array.mk [string (ByteArray.extract s (Int.toNat (wrap i64 (x79 + 1))) (Int.toNat (↑(ByteArray.size s) : Int))), string substr]) (w117) (fun v123 => (fun w124 =>
(∃ x125 : Int, ((v123 = int i64 x125) ∧ (ifK (decide (x125 < 0))
(R (int i64 (-1)) (w124))
(R (int i64 (wrap i64 (wrap i64 (x79 + 1) + x125))) (w124)))))))))))
((z76 (wrap i64 (x79 + 1)) (wrap i64 (x80 + 1)) (w117)) ∧ (z77 (wrap i64 (x79 + 1)) (wrap i64 (x80 + 1)) w117 < z77 x79 x80 w81)))
((z76 (wrap i64 (x79 + 1)) (wrap i64 (x80 + 1)) (w117)) ∧ (z77 (wrap i64 (x79 + 1)) (wrap i64 (x80 + 1)) w117 < z77 x79 x80 w81))))
((z76 (wrap i64 (x79 + 1)) (wrap i64 (x80 + 1)) (w117)) ∧ (z77 (wrap i64 (x79 + 1)) (wrap i64 (x80 + 1)) w117 < z77 x79 x80 w81)))))))))))
(∃ x126 : Int, ((cell? w81 (Addr.mk 2 0 none) = some (int i64 x126)) ∧ (ifK (decide ((↑(ByteArray.size substr) : Int) > x126))
(((0 : Int) ≤ 4) ∧ (ifK (decide (wrap i64 (x80 + 1) ≥ wrap i64 (4 + Int.fdiv (wrap i64 (x79 + 1)) (2 ^ 4))))
(ifK (decide (wrap i64 (x79 + 1) < wrap i64 (wrap i64 ((↑(ByteArray.size s) : Int) - (↑(ByteArray.size substr) : Int)) + 1)))
(((0 : Int) ≤ wrap i64 (x79 + 1)) ∧ (((wrap i64 (x79 + 1) : Int) ≤ (↑(ByteArray.size s) : Int)) ∧ ((((↑(ByteArray.size s) : Int) : Int) ≤ (↑(ByteArray.size s) : Int)) ∧ (Ca Tryz.prog (162) (Array.mk [string (ByteArray.extract s (Int.toNat (wrap i64 (x79 + 1))) (Int.toNat (↑(ByteArray.size s) : Int))), string substr]) (w81) (fun v127 => (fun w128 =>
(∃ x129 : Int, ((v127 = int i64 x129) ∧ (ifK (decide (x129 < 0))
(R (int i64 (-1)) (w128))
(R (int i64 (wrap i64 (wrap i64 (x79 + 1) + x129))) (w128)))))))))))
((z76 (wrap i64 (x79 + 1)) (wrap i64 (x80 + 1)) (w81)) ∧ (z77 (wrap i64 (x79 + 1)) (wrap i64 (x80 + 1)) w81 < z77 x79 x80 w81)))
((z76 (wrap i64 (x79 + 1)) (wrap i64 (x80 + 1)) (w81)) ∧ (z77 (wrap i64 (x79 + 1)) (wrap i64 (x80 + 1)) w81 < z77 x79 x80 w81))))
((z76 (wrap i64 (x79 + 1)) (wrap i64 (x80 + 1)) (w81)) ∧ (z77 (wrap i64 (x79 + 1)) (wrap i64 (x80 + 1)) w81 < z77 x79 x80 w81))))))))))))
(∃ x130 : Int, ((cell? w81 (Addr.mk 2 0 none) = some (int i64 x130)) ∧ (ifK (decide ((↑(ByteArray.size substr) : Int) ≤ x130))
(Ca Tryz.prog (161) (Array.mk [int i64 (wrap i64 (x79 + 1))]) (w81) (fun v131 => (fun w132 =>
(∃ x133 : Int, ((v131 = int i64 x133) ∧ (ifK (decide (wrap i64 (x80 + 1) > x133))
(((0 : Int) ≤ wrap i64 (x79 + 1)) ∧ (((wrap i64 (x79 + 1) : Int) ≤ (↑(ByteArray.size s) : Int)) ∧ ((((↑(ByteArray.size s) : Int) : Int) ≤ (↑(ByteArray.size s) : Int)) ∧ (Ca Tryz.prog (160) (Array.mk [string (ByteArray.extract s (Int.toNat (wrap i64 (x79 + 1))) (Int.toNat (↑(ByteArray.size s) : Int))), string substr]) (w132) (fun v134 => (fun w135 =>
(∃ x136 : Int, ((v134 = int i64 x136) ∧ (ifK (decide (x136 ≥ 0))
(R (int i64 (wrap i64 (x136 + wrap i64 (x79 + 1)))) (w135))
(R (int i64 (-1)) (w135)))))))))))
(∃ x137 : Int, ((cell? w132 (Addr.mk 2 0 none) = some (int i64 x137)) ∧ (ifK (decide ((↑(ByteArray.size substr) : Int) > x137))
(((0 : Int) ≤ 4) ∧ (ifK (decide (wrap i64 (x80 + 1) ≥ wrap i64 (4 + Int.fdiv (wrap i64 (x79 + 1)) (2 ^ 4))))
(ifK (decide (wrap i64 (x79 + 1) < wrap i64 (wrap i64 ((↑(ByteArray.size s) : Int) - (↑(ByteArray.size substr) : Int)) + 1)))
(((0 : Int) ≤ wrap i64 (x79 + 1)) ∧ (((wrap i64 (x79 + 1) : Int) ≤ (↑(ByteArray.size s) : Int)) ∧ ((((↑(ByteArray.size s) : Int) : Int) ≤ (↑(ByteArray.size s) : Int)) ∧ (Ca Tryz.prog (162) (Array.mk [string (ByteArray.extract s (Int.toNat (wrap i64 (x79 + 1))) (Int.toNat (↑(ByteArray.size s) : Int))), string substr]) (w132) (fun v138 => (fun w139 =>
(∃ x140 : Int, ((v138 = int i64 x140) ∧ (ifK (decide (x140 < 0))
(R (int i64 (-1)) (w139))
(R (int i64 (wrap i64 (wrap i64 (x79 + 1) + x140))) (w139)))))))))))
((z76 (wrap i64 (x79 + 1)) (wrap i64 (x80 + 1)) (w132)) ∧ (z77 (wrap i64 (x79 + 1)) (wrap i64 (x80 + 1)) w132 < z77 x79 x80 w81)))
((z76 (wrap i64 (x79 + 1)) (wrap i64 (x80 + 1)) (w132)) ∧ (z77 (wrap i64 (x79 + 1)) (wrap i64 (x80 + 1)) w132 < z77 x79 x80 w81))))
((z76 (wrap i64 (x79 + 1)) (wrap i64 (x80 + 1)) (w132)) ∧ (z77 (wrap i64 (x79 + 1)) (wrap i64 (x80 + 1)) w132 < z77 x79 x80 w81)))))))))))
(∃ x141 : Int, ((cell? w81 (Addr.mk 2 0 none) = some (int i64 x141)) ∧ (ifK (decide ((↑(ByteArray.size substr) : Int) > x141))
(((0 : Int) ≤ 4) ∧ (ifK (decide (wrap i64 (x80 + 1) ≥ wrap i64 (4 + Int.fdiv (wrap i64 (x79 + 1)) (2 ^ 4))))
(ifK (decide (wrap i64 (x79 + 1) < wrap i64 (wrap i64 ((↑(ByteArray.size s) : Int) - (↑(ByteArray.size substr) : Int)) + 1)))
(((0 : Int) ≤ wrap i64 (x79 + 1)) ∧ (((wrap i64 (x79 + 1) : Int) ≤ (↑(ByteArray.size s) : Int)) ∧ ((((↑(ByteArray.size s) : Int) : Int) ≤ (↑(ByteArray.size s) : Int)) ∧ (Ca Tryz.prog (162) (Array.mk [string (ByteArray.extract s (Int.toNat (wrap i64 (x79 + 1))) (Int.toNat (↑(ByteArray.size s) : Int))), string substr]) (w81) (fun v142 => (fun w143 =>
(∃ x144 : Int, ((v142 = int i64 x144) ∧ (ifK (decide (x144 < 0))
(R (int i64 (-1)) (w143))
(R (int i64 (wrap i64 (wrap i64 (x79 + 1) + x144))) (w143)))))))))))
((z76 (wrap i64 (x79 + 1)) (wrap i64 (x80 + 1)) (w81)) ∧ (z77 (wrap i64 (x79 + 1)) (wrap i64 (x80 + 1)) w81 < z77 x79 x80 w81)))
((z76 (wrap i64 (x79 + 1)) (wrap i64 (x80 + 1)) (w81)) ∧ (z77 (wrap i64 (x79 + 1)) (wrap i64 (x80 + 1)) w81 < z77 x79 x80 w81))))
((z76 (wrap i64 (x79 + 1)) (wrap i64 (x80 + 1)) (w81)) ∧ (z77 (wrap i64 (x79 + 1)) (wrap i64 (x80 + 1)) w81 < z77 x79 x80 w81))))))))))))))
(R (int i64 (-1)) (w81))))))))))))))))))))))
theorem ca158 (s : ByteArray) (substr : ByteArray) (w : World) (R : Value → World → Prop) (h : W158 s substr w R) : Ca Tryz.prog 158 ⟨[(.string s), (.string substr)]⟩ w R :=
  caB (fn := Tryz.f158) (pl := pl158) (ls := ls158) Tryz.func158 (by kernel_rfl) (by kernel_rfl) h

/-- internal/stringslite.IndexByte -/
noncomputable def C159 : Code := (Tryz.f159.body).getD .skip
def pl159 : Nat → Plan := fun _ => .done
def ls159 : Nat → List (Nat × LT) := fun _ => []
def W159 (s : ByteArray) (c : Int) (w : World) (R : Value → World → Prop) : Prop :=
  (Ca Tryz.prog (163) (Array.mk [string s, int u8 c]) (w) (fun v0 => (fun w1 =>
(∃ x2 : Int, ((v0 = int i64 x2) ∧ (R (int i64 x2) (w1)))))))
theorem ca159 (s : ByteArray) (c : Int) (w : World) (R : Value → World → Prop) (h : W159 s c w R) : Ca Tryz.prog 159 ⟨[(.string s), (.int .u8 c)]⟩ w R :=
  caB (fn := Tryz.f159) (pl := pl159) (ls := ls159) Tryz.func159 (by kernel_rfl) (by kernel_rfl) h
end Go.Proofs.YtehhhkcemmfjpaaGreatDoor

/- The library's stringslite.IndexByte, Index, at a separator of one byte. -/
namespace Go.Proofs.YtehhhkcemmfjpaaGreatDoor
open Go Go.RowKit Go.Proofs.YtehhhkcemmfjpaaGreatDoor.St

set_option maxRecDepth 100000 in
set_option maxHeartbeats 2000000 in
theorem indexByte_calls (s : ByteArray) (c : Int) (w : World) :
    Calls Tryz.prog 159 #[.string s, .int .u8 c] w fun e w' => e = .returned (.int .i64 (Lib.indexByte s.data.toList c.toNat.toUInt8)) ∧ w' = w := by
  have mixed : Tryz.prog.follows .mixedOrders = true := by kernel_rfl
  go_enter Tryz.func159, Tryz.ntmps159
  go_wp2
  rw [run_callFunc_extern Tryz.func163 (by kernel_rfl) (by kernel_rfl) (by kernel_rfl) (e := Extern.BytealgIndexByte.indexByte) (by kernel_rfl), Lib.run_indexByteString]
  simp only [Result.andThen]
  rw [Oper.upon_value]
  go_wp2
  go_ret
  exact ⟨rfl, rfl⟩
theorem indexByte_ok (s : ByteArray) (c : Int) (w : World) (R : Value → World → Prop) (h : R (.int .i64 (Lib.indexByte s.data.toList c.toNat.toUInt8)) w) : Ca Tryz.prog 159 #[.string s, .int .u8 c] w R :=
  ⟨fun w => callFunc_run (c := C159) Tryz.func159 (by kernel_rfl) (by kernel_rfl) _ w, (indexByte_calls s c w).mono fun e w' ⟨h1, h2⟩ => by subst h2; exact ⟨_, h1, h⟩⟩
def dot : ByteArray := ByteArray.mk #[46]
theorem index_ok (s : ByteArray) (w : World) (R : Value → World → Prop) (h : R (.int .i64 (Lib.indexByte s.data.toList 46)) w) : Ca Tryz.prog 156 #[.string s, .string dot] w R := by
  refine ca156 s dot w R ?_
  refine ca158 s dot w _ ?_
  refine ifK_of (fun h0 => by cases h0) fun _ => ifK_of (fun he => ?_) fun _ => ifK_of (fun _ => ⟨by decide, by decide, indexByte_ok _ _ _ _ ⟨_, rfl, _, rfl, h⟩⟩) fun h0 => by cases h0
  have : s = dot := (ba_toList _ _ (eq_of_beq he)).symm
  subst this
  exact ⟨_, rfl, h⟩
end Go.Proofs.YtehhhkcemmfjpaaGreatDoor

/- The program's Words: what lies between the dots. -/
namespace Go.Proofs.YtehhhkcemmfjpaaGreatDoor
open Go Go.Proofs.YtehhhkcemmfjpaaGreatDoor Go.Proofs.YtehhhkcemmfjpaaGreatDoor.St

def splitD : List UInt8 → List (List UInt8)
  | [] => [[]]
  | c :: r => if c = 46 then [] :: splitD r else match splitD r with | [] => [[c]] | x :: xs => (c :: x) :: xs
theorem splitD_ne : ∀ l, splitD l ≠ []
  | [] => by simp [splitD]
  | c :: r => by
    simp only [splitD]
    split
    · simp
    · split <;> simp
theorem splitD_len : ∀ l, (splitD l).length ≤ l.length + 1
  | [] => by simp [splitD]
  | c :: r => by
    have := splitD_len r
    simp only [splitD]
    split
    · simp; omega
    · split
      · simp
      · rename_i x xs h
        rw [h] at this
        simp at this ⊢
        omega
theorem index_cases : ∀ l : List UInt8, (Lib.indexByte l 46 = -1 ∧ splitD l = [l]) ∨ ∃ i : Nat, Lib.indexByte l 46 = i ∧ i < l.length ∧ splitD l = l.take i :: splitD (l.drop (i + 1))
  | [] => .inl ⟨rfl, rfl⟩
  | c :: r => by
    by_cases hc : c = 46
    · subst hc
      exact .inr ⟨0, rfl, by simp, by simp [splitD]⟩
    · have hb : (c == 46) = false := beq_false_of_ne hc
      rcases index_cases r with ⟨h1, h2⟩ | ⟨i, h1, h2, h3⟩
      · refine .inl ⟨by simp [Lib.indexByte, hb, h1], by simp [splitD, hc, h2]⟩
      · refine .inr ⟨i + 1, ?_, by simpa using h2, by simp [splitD, hc, h3]⟩
        have : ¬ ((i : Int) = -1) := by omega
        simp [Lib.indexByte, hb, h1, this]
def bs (l : List UInt8) : ByteArray := ⟨l.toArray⟩
theorem bs_data (s : ByteArray) : bs s.data.toList = s := rfl
theorem bs_size (l : List UInt8) : (bs l).size = l.length := rfl
theorem bs_list (l : List UInt8) : (bs l).data.toList = l := rfl
/-- The words of a text. -/
def wordsOf (s : ByteArray) : List ByteArray := if s.size = 0 then [] else (splitD s.data.toList).map bs
theorem bs_extract (l : List UInt8) (i j : Nat) : (bs l).extract i j = bs ((l.drop i).take (j - i)) := by
  apply ByteArray.ext
  rw [ByteArray.data_extract]
  apply Array.ext'
  simp [bs, List.extract_eq_take_drop]

set_option maxRecDepth 100000 in
theorem words_ok (s : ByteArray) (w : World) (hs : s.size < 1000000000) (R : Value → World → Prop)
    (h : ∀ w' a l c, Els Value.string 9 w' a l c (wordsOf s) → Mod no w w' → (∀ k, rowB a k → w.heap.size ≤ k) → R (.slice a l c) w') : Ca Tryz.prog 105 #[.string s] w R := by
  refine ca105 s w R (ifK_of (fun he => ?_) fun hne => ?_)
  · have : s.size = 0 := by
      have : s = ByteArray.mk #[] := ba_toList _ _ (eq_of_beq he)
      rw [this]; rfl
    exact h w none 0 0 (by rw [wordsOf, if_pos this]; exact Els.nil _ _) (Mod.refl _ _) fun k hk => by cases hk
  have hpos : s.size ≠ 0 := fun h0 => by
    have : s = ByteArray.mk #[] := ByteArray.ext (Array.eq_empty_of_size_eq_zero h0)
    rw [this] at hne
    simp at hne
  intro w0 e0
  have n0 : Mod no w w0 := by subst e0; exact Mod.alloc _ _
  have b0 : w0.heap[w.heap.size]? = some (.cells #[.slice none 0 0] 55 (0, 0)) := by subst e0; exact new_at _ _
  have s0 : w0.heap.size = w.heap.size + 1 := by subst e0; simp
  clear e0
  refine ca137 s dot w0 _ ?_
  refine ca150 s dot 0 w0 _ ?_
  intro u0 e0
  have p0 : Mod no w0 u0 := by subst e0; exact Mod.alloc _ _
  have c0 : u0.heap[w0.heap.size]? = some (.cells #[.string s] 9 (0, 0)) := by subst e0; exact new_at _ _
  have z0 : u0.heap.size = w0.heap.size + 1 := by subst e0; simp
  clear e0
  intro u1 e1
  have p1 : Mod no u0 u1 := by subst e1; exact Mod.alloc _ _
  have c1 : u1.heap[u0.heap.size]? = some (.cells #[.string dot] 9 (0, 0)) := by subst e1; exact new_at _ _
  have z1 : u1.heap.size = u0.heap.size + 1 := by subst e1; simp
  clear e1
  intro w2 e2
  have p2 : Mod no u1 w2 := by subst e2; exact Mod.alloc _ _
  have c2 : w2.heap[u1.heap.size]? = some (.cells #[.int .i64 0] 3 (0, 0)) := by subst e2; exact new_at _ _
  have z2 : w2.heap.size = u1.heap.size + 1 := by subst e2; simp
  clear e2
  have c1 := p2.at' c1
  have c0 := p2.at' (p1.at' c0)
  have n02 := (p0.trans p1).trans p2
  have b2 := n02.at' b0
  have n2 := n0.trans n02
  refine ⟨_, rfl, _, rfl, ⟨_, _, _, rfl⟩, ?_⟩
  intro Rdy Bsy hrs hbs hrb w3 m3 s3 hr3 hy
  -- what has been gathered, and what is left
  let Inv : List ByteArray → List UInt8 → World → Prop := fun pre rest w' => Rdy w' ∧ w'.heap[w0.heap.size]? = some (.cells #[.string (bs rest)] 9 (0, 0)) ∧ w'.heap[u0.heap.size]? = some (.cells #[.string dot] 9 (0, 0)) ∧
    w'.heap[u1.heap.size]? = some (.cells #[.int .i64 0] 3 (0, 0)) ∧ Mod no w w' ∧ w2.heap.size + 2 ≤ w'.heap.size ∧
    ∃ a l c, w'.heap[w.heap.size]? = some (.cells #[.slice a l c] 55 (0, 0)) ∧ Els Value.string 9 w' a l c pre ∧ ∀ k, rowB a k → w2.heap.size + 2 ≤ k
  have yield1 : ∀ (pre : List ByteArray) (rest : List UInt8) (x : ByteArray) (w5 : World) (K : World → Prop), Inv pre rest w5 → pre.length < 1000000001 → (∀ w6, Inv (pre ++ [x]) rest w6 → K w6) →
      CaV Tryz.prog (.func (.yield (w2.heap.size + 1)) #[] #[]) #[.string x] w5 fun v w6 => v = .bool true ∧ K w6 := by
    rintro pre rest x w5 K ⟨hr, i0, i1, i2, im, isz, a, l, c, ib, ie, ia⟩ hpl hK
    refine hy (.string x) w5 K hr ⟨hr, fun w6 hbz m6 s6 => ?_⟩
    have q : ∀ k, k < w2.heap.size → ¬ k = w2.heap.size + 1 := fun k hk => by omega
    have b6 := m6.at ib (q _ (by omega))
    have e6 : Els Value.string 9 w6 a l c pre := ie.mod m6 fun k hk hS => by have := ia k hk; omega
    have hl6 := e6.len.1
    refine ⟨a, l, c, by rw [cl b6]; rfl, ?_⟩
    intro w10 e10
    have m10 : Mod no w6 w10 := by subst e10; exact Mod.alloc _ _
    have b10 : w10.heap[w6.heap.size]? = some (.cells #[.string x] 9 (0, 0)) := by subst e10; exact new_at _ _
    clear e10
    obtain ⟨a', c', w12, hrun, e12, m12, hnew⟩ := Els.push1 (P := Tryz.prog) (t := 55) (ty := 55) (fun _ => rfl) (by kernel_rfl) (e6.no m10) b10 (by omega)
    have hbox : ¬ rowB a w.heap.size := fun hk => by have := ia _ hk; omega
    have b12 := m12.at (m10.at' b6) hbox
    refine ⟨_, w12, hrun, _, _, _, rfl, ⟨_, by rw [cl1 b12]; rfl⟩, fz1 b12 _, ?_⟩
    intro w17 e17
    have m17 : Mod (on w.heap.size) w12 w17 := by subst e17; exact Mod.set1 _ _ _ _
    have b17 : w17.heap[w.heap.size]? = some (.cells #[.slice a' (l + 1) c'] 55 (0, 0)) := by subst e17; rw [set1 b12]; rfl
    clear e17
    have hs6 : w2.heap.size + 2 ≤ w6.heap.size := by omega
    have hs10 := m10.size
    have hnew' : ∀ k, rowB a' k → w2.heap.size + 2 ≤ k := fun k hk => (hnew k hk).elim (ia k) (fun h => by omega)
    have e17 : Els Value.string 9 w17 a' (l + 1) c' (pre ++ [x]) := e12.mod m17 fun k hk e => by cases e; have := hnew' _ hk; omega
    have mA : Mod (fun k => rowB a k ∨ k = w.heap.size) w6 w17 := (m10.no_trans (m12.mono fun k _ hk => .inl hk)).trans' m17 fun k _ hk => .inr hk
    obtain ⟨h1, r, h2⟩ := hrb w6 (.inr hbz)
    have k1 : ¬ (rowB a w2.heap.size ∨ w2.heap.size = w.heap.size) := fun h => h.elim (fun h => by have := ia _ h; omega) (by omega)
    have k2 : ¬ (rowB a (w2.heap.size + 1) ∨ w2.heap.size + 1 = w.heap.size) := fun h => h.elim (fun h => by have := ia _ h; omega) (by omega)
    refine ⟨hbs w6 w17 hbz (by rw [mA.at h1 k1, h1]) (by rw [mA.at h2 k2, h2]), fun w7 hr7 m7 s7 => hK w7 ?_⟩
    have mB : Mod (fun k => k = w2.heap.size + 1 ∨ (rowB a k ∨ k = w.heap.size)) w5 w7 := ((m6.mono fun k _ hk => .inl hk).trans' mA fun k _ hk => .inr hk).trans' m7 fun k _ hk => .inl hk
    have keep : ∀ k o, w5.heap[k]? = some o → w.heap.size < k → k < w2.heap.size → w7.heap[k]? = some o := fun k o ho hk1 hk2 => mB.at ho fun hS => by
      rcases hS with h | h | h
      · omega
      · have := ia _ h; omega
      · omega
    refine ⟨hr7, keep _ _ i0 (by omega) (by omega), keep _ _ i1 (by omega) (by omega), keep _ _ i2 (by omega) (by omega), ?_, Nat.le_trans isz mB.size, a', l + 1, c', m7.at b17 (q _ (by omega)), e17.mod m7 fun k hk hS => by have := hnew' k hk; omega, hnew'⟩
    refine im.new mB fun k hS => ?_
    rcases hS with h | h | h
    · omega
    · have := ia _ h; omega
    · omega
  have done : ∀ (w5 : World), Inv (wordsOf s) [] w5 ∨ (∃ rest, Inv (wordsOf s) rest w5) → Rdy w5 ∧ ∀ w6, Mod (fun k => k = w2.heap.size ∨ k = w2.heap.size + 1) w5 w6 → w6.heap.size = w5.heap.size → w6.heap[w2.heap.size]? = some (.deferred (some [])) →
      ∃ p22 n23 n24, w6.cell? ⟨w.heap.size, 0, none⟩ = some (.slice p22 n23 n24) ∧ w6.heap[w2.heap.size]? = some (.deferred (some [])) ∧ atW (w6.putObj w2.heap.size (.deferred none)) fun w25 => R (.slice p22 n23 n24) w25 := by
    intro w5 hI
    obtain ⟨rest, hr, i0, i1, i2, im, isz, a, l, c, ib, ie, ia⟩ : ∃ rest, Inv (wordsOf s) rest w5 := hI.elim (fun h => ⟨[], h⟩) id
    refine ⟨hr, fun w6 m6 s6 hd => ?_⟩
    have b6 := m6.at ib (by omega)
    have e6 : Els Value.string 9 w6 a l c (wordsOf s) := ie.mod m6 fun k hk hS => by have := ia k hk; omega
    have im6 : Mod no w w6 := im.new m6 fun k hS => by omega
    refine ⟨a, l, c, by rw [cl b6]; rfl, hd, fun w25 e25 => ?_⟩
    have m25 : Mod (on w2.heap.size) w6 w25 := by subst e25; exact Mod.putObj _ _ _
    exact h w25 a l c (e6.mod m25 fun k hk hS => by cases hS; have := ia _ hk; omega) (im6.new m25 fun k hk => by cases hk; omega) fun k hk => by have := ia k hk; omega
  refine (ca154 (.func (.yield (w2.heap.size + 1)) #[] #[]) (some ⟨u0.heap.size, 0, none⟩) (some ⟨w0.heap.size, 0, none⟩) (some ⟨u1.heap.size, 0, none⟩) w3 _ ?_ : Ca _ _ _ _ _)
  have c0 := m3.at c0 id
  have c1 := m3.at c1 id
  have c2 := m3.at c2 id
  have b3 := m3.at b2 id
  refine ⟨dot, by rw [cl c1]; rfl, ifK_of (fun h0 => by cases h0) fun _ => ?_⟩
  refine ⟨fun w' => ∃ pre rest, Inv pre rest w' ∧ pre ++ (splitD rest).map bs = wordsOf s ∧ pre.length + rest.length ≤ s.size, fun w' => match w'.cell? ⟨w0.heap.size, 0, none⟩ with | some (.string t) => t.size | _ => 0,
    ⟨[], s.data.toList, ⟨hr3, c0, c1, c2, n2.trans (m3.mono fun _ _ h => h.elim), by omega, none, 0, 0, b3, Els.nil _ _, fun k hk => by cases hk⟩, by rw [wordsOf, if_neg hpos]; rfl, by simp⟩, ?_⟩
  rintro _ w5 ⟨pre, rest, hI, hsp, hlen⟩
  obtain ⟨hr, i0, i1, i2, im, isz, a, l, c, ib, ie, ia⟩ := hI
  have i05 := i0
  have hI : Inv pre rest w5 := ⟨hr, i0, i1, i2, im, isz, a, l, c, ib, ie, ia⟩
  refine ⟨bs rest, by rw [cl i0]; rfl, dot, by rw [cl i1]; rfl, index_ok _ _ _ ⟨_, rfl, ?_⟩⟩
  rw [bs_list]
  rcases index_cases rest with ⟨h1, h2⟩ | ⟨i, h1, h2, h3⟩
  · rw [h1]
    refine ifK_of (fun _ => ?_) fun h0 => by cases h0
    refine ⟨bs rest, by rw [cl i0]; rfl, (yield1 pre rest (bs rest) w5 _ hI (by omega) fun w6 h6 => ?_).mono fun v w6 hv => ⟨true, hv.1, hv.2⟩⟩
    refine done w6 (.inr ⟨rest, ?_⟩)
    rw [h2] at hsp
    rw [← hsp]
    exact h6
  · rw [h1]
    refine ifK_dec (fun h0 => by omega) fun _ => ?_
    have e1 : IntKind.i64.wrap ((i : Int) + 0) = (i : Int) := (by first | (simp only [IntKind.wrap_i64]; omega) | omega)
    have e2 : IntKind.i64.wrap ((i : Int) + (dot.size : Nat)) = ((i + 1 : Nat) : Int) := by rw [show dot.size = 1 from rfl]; exact (by first | (simp only [IntKind.wrap_i64]; omega) | omega)
    refine ⟨bs rest, by rw [cl i0]; rfl, 0, by rw [cl i2]; rfl, by decide, ?_⟩
    rw [e1]
    refine ⟨by omega, by rw [bs_size]; omega, ?_⟩
    rw [Int.toNat_natCast, bs_extract]
    refine (yield1 pre rest (bs (rest.take i)) w5 _ hI (by omega) fun w6 h6 => ?_).mono fun v w6 hv => ⟨true, hv.1, hv.2⟩
    obtain ⟨hr, i0, i1, i2, im, isz, a, l, c, ib, ie, ia⟩ := h6
    refine ifK_of (fun h0 => by cases h0) fun _ => ?_
    refine ⟨bs rest, by rw [cl i0]; rfl, dot, by rw [cl i1]; rfl, ?_⟩
    rw [e2]
    refine ⟨by omega, by rw [bs_size]; omega, by omega, ⟨_, by rw [cl1 i0]; rfl⟩, fz1 i0 _, ?_⟩
    rw [Int.toNat_natCast, Int.toNat_natCast, bs_extract, bs_size, List.take_of_length_le (by simp)]
    intro w7 e7
    have m7 : Mod (on w0.heap.size) w6 w7 := by subst e7; exact Mod.set1 _ _ _ _
    have j0 : w7.heap[w0.heap.size]? = some (.cells #[.string (bs (rest.drop (i + 1)))] 9 (0, 0)) := by subst e7; rw [set1 i0]; rfl
    clear e7
    obtain ⟨g1, r, g2⟩ := hrb w6 (.inl hr)
    refine ⟨⟨pre ++ [bs (rest.take i)], rest.drop (i + 1), ⟨hrs w6 w7 hr (by rw [m7.at g1 (show ¬ w2.heap.size = w0.heap.size by omega), g1]) (by rw [m7.at g2 (show ¬ w2.heap.size + 1 = w0.heap.size by omega), g2]), j0, m7.at i1 (show ¬ u0.heap.size = w0.heap.size by omega), m7.at i2 (show ¬ u1.heap.size = w0.heap.size by omega), im.new m7 (fun k hk => by cases hk; omega), Nat.le_trans isz m7.size,
      a, l, c, m7.at ib (show ¬ w.heap.size = w0.heap.size by omega), ie.mod m7 (fun k hk hS => by cases hS; have := ia _ hk; omega), ia⟩, ?_, ?_⟩, ?_⟩
    · rw [← hsp, h3]
      simp
    · simp
      omega
    · show (match w7.cell? ⟨w0.heap.size, 0, none⟩ with | some (.string t) => t.size | _ => 0) < (match w5.cell? ⟨w0.heap.size, 0, none⟩ with | some (.string t) => t.size | _ => 0)
      rw [cl j0, cl i05]
      show (bs (rest.drop (i + 1))).size < (bs rest).size
      rw [bs_size, bs_size, List.length_drop]
      omega
end Go.Proofs.YtehhhkcemmfjpaaGreatDoor

/- The program's Key and Pattern, may, and Bind. -/
namespace Go.Proofs.YtehhhkcemmfjpaaGreatDoor
open Go Go.Proofs.YtehhhkcemmfjpaaGreatDoor Go.Proofs.YtehhhkcemmfjpaaGreatDoor.St

/-- A test of words. -/
abbrev TestW (f : Value) (φ : ByteArray → Bool) (w : World) : Prop := ∀ x w', Mod no w w' → ∀ R : Value → World → Prop, (∀ w'', Mod no w' w'' → R (.bool (φ x)) w'') → CaV Tryz.prog f #[.string x] w' R
theorem contains_ok (f : Value) (φ : ByteArray → Bool) (w : World) (a : Option Addr) (l c : Nat) (xs : List ByteArray) (hx : Els Value.string 9 w a l c xs) (hl : l < 1000000000) (hf : TestW f φ w) (R : Value → World → Prop)
    (h : ∀ w', Mod no w w' → R (.bool (xs.any φ)) w') : Ca Tryz.prog 107 #[.slice a l c, f] w R := by
  refine ca107 a l c f w R ?_
  refine ca138 a l c f w _ ?_
  have hxl := hx.len.1
  refine ⟨fun x w' => ∃ i : Nat, x = i ∧ i ≤ l ∧ Mod no w w' ∧ (xs.any φ) = ((xs.drop i).any φ), fun x _ => ((l : Int) - x).toNat, ⟨0, rfl, by omega, Mod.refl _ _, rfl⟩, ?_⟩
  rintro _ _ w4 ⟨i, rfl, hi, m4, he⟩
  refine ifK_dec (fun hlt => ?_) (fun hge => ?_)
  · have hil : i < xs.length := by omega
    have hd : xs.drop i = at0 xs i :: xs.drop (i + 1) := by rw [List.drop_eq_getElem_cons hil, at0_eq hil]
    refine (hx.no m4).rd i rfl (by omega) (hf _ w4 m4 _ fun w8 m8 => ⟨_, rfl, ifK_of (fun ht => ?_) (fun hf => ?_)⟩)
    · refine ⟨_, rfl, ?_⟩
      have h' := h w8 (m4.trans m8)
      rw [he, hd, List.any_cons, ht] at h'
      rw [show decide ((i : Int) ≥ 0) = true from decide_eq_true (by omega)]
      exact h'
    · refine ⟨⟨i + 1, (by first | (simp only [IntKind.wrap_i64]; omega) | omega), by omega, m4.trans m8, ?_⟩, (by first | (simp only [IntKind.wrap_i64]; omega) | omega)⟩
      rw [he, hd, List.any_cons, hf, Bool.false_or]
  · refine ⟨_, rfl, ?_⟩
    have h' := h w4 m4
    rw [he, List.drop_eq_nil_of_le (by omega)] at h'
    exact h'
/-- Is a text of words that are so? -/
def madeB (φ : ByteArray → Bool) (s : ByteArray) : Bool := decide (s.size ≤ 60) && (decide ((wordsOf s).length ≤ 12) && (wordsOf s).all φ)
theorem madeS_ok (s : ByteArray) (f : Fn) (fa ca : Array Value) (φ : ByteArray → Bool) (w : World) (hs : s.size < 1000000000) (hf : TestW (.func f fa ca) φ w) (R : Value → World → Prop) (h : ∀ w', Mod no w w' → R (.bool (madeB φ s)) w') :
    Ca Tryz.prog 89 #[.string s, .func f fa ca] w R := by
  refine ca89 s (.func f fa ca) w R ?_
  intro w0 e0
  have m0 : Mod no w w0 := by subst e0; exact Mod.alloc _ _
  have b0 : ∃ t, w0.heap[w.heap.size]? = some (.cells #[.func f fa ca] t (0, 0)) := by subst e0; exact ⟨_, new_at _ _⟩
  clear e0
  obtain ⟨t, b0⟩ := b0
  refine words_ok s w0 hs _ fun w2 a l c hx m2 hn => ⟨a, l, c, rfl, ?_⟩
  have hxl := hx.len.1
  have m02 := m0.trans m2
  have hwl : (wordsOf s).length ≤ s.size + 1 := by
    unfold wordsOf
    split
    · simp
    · rw [List.length_map]; exact splitD_len _
  refine ifK_dec (fun h1 => ifK_dec (fun h2 => ?_) fun h2 => ?_) fun h1 => ?_
  · refine contains_ok _ (fun x => !φ x) w2 a l c _ hx (by omega) (fun x w' mw R' hR' => ?_) _ fun w7 m7 => ⟨_, rfl, ?_⟩
    · refine (ca106 x (some ⟨w.heap.size, 0, none⟩) w' R' ?_ : Ca _ _ _ _ _)
      have bb := mw.at' (m2.at' b0)
      exact ⟨_, by rw [cl bb]; rfl, hf x w' (m02.trans mw) _ fun w'' mm => ⟨_, rfl, hR' w'' mm⟩⟩
    · have h' := h w7 (m02.trans m7)
      rw [madeB, decide_eq_true (show s.size ≤ 60 by omega), decide_eq_true (show (wordsOf s).length ≤ 12 by omega), Bool.true_and, Bool.true_and] at h'
      have : (!(wordsOf s).any fun x => !φ x) = (wordsOf s).all φ := by
        rw [List.not_any_eq_all_not]
        congr 1
        funext x
        simp
      rw [this]
      exact h'
  · have h' := h w2 m02
    rw [madeB, decide_eq_false (show ¬ (wordsOf s).length ≤ 12 by omega), Bool.false_and, Bool.and_false] at h'
    exact h'
  · have h' := h w2 m02
    rw [madeB, decide_eq_false (show ¬ s.size ≤ 60 by omega), Bool.false_and] at h'
    exact h'
def wild (x : ByteArray) : Bool := decide (x = ByteArray.mk #[42]) || (decide (x = ByteArray.mk #[35]) || plainB x)
abbrev keyB : ByteArray → Bool := madeB plainB
abbrev patB : ByteArray → Bool := madeB wild
theorem key_ok (s : ByteArray) (w : World) (hs : s.size < 1000000000) (R : Value → World → Prop) (h : ∀ w', Mod no w w' → R (.bool (keyB s)) w') : Ca Tryz.prog 66 #[.string s] w R := by
  refine ca66 s w R ?_
  exact madeS_ok s (.func 82) #[] #[] plainB w hs (fun x w' _ R' hR' => plain_ok x w' R' hR') _ fun w' m => ⟨_, rfl, h w' m⟩
theorem pattern_ok (s : ByteArray) (w : World) (hs : s.size < 1000000000) (R : Value → World → Prop) (h : ∀ w', Mod no w w' → R (.bool (patB s)) w') : Ca Tryz.prog 84 #[.string s] w R := by
  refine ca84 s w R ?_
  refine madeS_ok s _ _ _ wild w hs (fun x w' _ R' hR' => ?_) _ fun w' m => ⟨_, rfl, h w' m⟩
  refine (ca103 x w' R' ?_ : Ca _ _ _ _ _)
  rw [W103, toList_beq, toList_beq]
  refine ifK_of (fun h1 => ?_) (fun h1 => ifK_of (fun h2 => ?_) (fun h2 => ?_))
  · have h' := hR' w' (Mod.refl _ _)
    rw [wild, h1, Bool.true_or] at h'
    exact h'
  · have h' := hR' w' (Mod.refl _ _)
    rw [wild, h1, h2, Bool.false_or, Bool.true_or] at h'
    exact h'
  · refine plain_ok x w' _ fun w'' mm => ⟨_, rfl, ?_⟩
    have h' := hR' w'' mm
    rw [wild, h1, h2, Bool.false_or, Bool.false_or] at h'
    exact h'
/-- May an exchange's binding have a pattern? -/
def mayB (x : Exc) (p : ByteArray) : Bool := if x.k = 1 then keyB p else if x.k = 3 then patB p else decide (p = ByteArray.mk #[])
theorem may_ok (x : Exc) (p : ByteArray) (w : World) (hs : p.size < 1000000000) (R : Value → World → Prop) (h : ∀ w', Mod no w w' → R (.bool (mayB x p)) w') : Ca Tryz.prog 56 #[.agg ⟨x.cs⟩, .string p] w R := by
  refine (ca56 x.n x.k x.f p w R ?_ : Ca _ _ _ _ _)
  intro w0 e0
  have m0 : Mod no w w0 := by subst e0; exact Mod.alloc _ _
  have b0 : Xc w0 w.heap.size x := by subst e0; exact new_at _ _
  clear e0
  refine ⟨x.k, by rw [cl1 b0]; rfl, ifK_eq (fun h1 => ?_) (fun h1 => ifK_eq (fun h2 => ?_) (fun h2 => ?_))⟩
  · refine key_ok p w0 hs _ fun w1 m1 => ⟨_, rfl, ?_⟩
    have h' := h w1 (m0.trans m1)
    rw [mayB, if_pos h1] at h'
    exact h'
  · refine pattern_ok p w0 hs _ fun w1 m1 => ⟨_, rfl, ?_⟩
    have h' := h w1 (m0.trans m1)
    rw [mayB, if_neg h1, if_pos h2] at h'
    exact h'
  · have h' := h w0 m0
    rw [mayB, if_neg h1, if_neg h2] at h'
    rw [toList_beq]
    exact h'
end Go.Proofs.YtehhhkcemmfjpaaGreatDoor

/- Rows that make makes. It names no program. -/
namespace Go.Proofs.YtehhhkcemmfjpaaGreatDoor.St
open Go

section
variable {α : Type} {L : Lay α}
theorem made_cells {z : Array Value} {x0 : α} (hz : z.toList = L.cs x0) (n : Nat) : (madeCells z (n * L.s)).toList = (List.replicate n x0).flatMap L.cs := by
  have hzs : z.size = L.s := by rw [← L.len x0, ← hz, Array.length_toList]
  apply List.ext_getElem
  · rw [Array.length_toList, size_madeCells, L.length, List.length_replicate]
  · intro k h1 h2
    rw [L.length, List.length_replicate] at h2
    have hd : k / L.s < n := (Nat.div_lt_iff_lt_mul L.pos).2 h2
    have hm : k % L.s < L.s := Nat.mod_lt _ L.pos
    have hk : k / L.s * L.s + k % L.s = k := Nat.div_add_mod' k L.s
    have hv : (L.cs x0)[k % L.s]? = some (z[k % L.s]'(by rw [hzs]; exact hm)) := by
      rw [← hz, Array.getElem?_toList, Array.getElem?_eq_getElem]
    have hr : (List.replicate n x0)[k / L.s]'(by simpa using hd) = x0 := List.getElem_replicate ..
    have := L.at (xs := List.replicate n x0) (i := k / L.s) (by simpa using hd) (j := k % L.s) (by rw [hr]; exact hv)
    rw [hk] at this
    have h3 := List.getElem?_eq_some_iff.1 this
    obtain ⟨_, h3⟩ := h3
    rw [h3]
    have h1' : k < (madeCells z (n * L.s)).size := by rwa [Array.length_toList] at h1
    rw [Array.getElem_toList]
    simp only [madeCells, Array.getElem_map, Array.getElem_range]
    have e : k % z.size = k % L.s := by rw [hzs]
    rw [e, getElem!_pos z (k % L.s) (by rw [hzs]; exact hm)]

/-- make([]T, n). -/
theorem row_make {P : Program} {w : World} {t e : TypeId} (ho : laidOk P t e L.s = true) {x0 : α} (h0 : ∀ z, (P.info? e).bind (·.zero) = some z → z.cells.toList = L.cs x0) (kl kc : IntKind) (n : Nat) (hn : n ≤ 1099511627776) :
    ∃ w', (Instr.makeSlice t (.int kl (n : Int)) (.int kc (n : Int))).run P w = .ok (.slice (some ⟨w.heap.size, 0, none⟩) n n) w' ∧ Row L e w' (some ⟨w.heap.size, 0, none⟩) n n (List.replicate n x0) ∧ Mod no w w' := by
  obtain ⟨ht, i, z, hi, hz, hsize, hby, hzs⟩ := laidOk_of ho
  have hb : (i.bytes : Int) * (n : Int) ≤ 281474976710656 := by
    have h1 : i.bytes * n ≤ 128 * 1099511627776 := Nat.mul_le_mul hby hn
    have h2 : ((i.bytes * n : Nat) : Int) ≤ ((128 * 1099511627776 : Nat) : Int) := by exact_mod_cast h1
    rw [Int.natCast_mul] at h2
    omega
  have hr := run_make (P := P) w t e i z ht hi hz kl kc n n (Int.natCast_nonneg n) (Int.le_refl _) hb (by omega)
  simp only [Int.toNat_natCast] at hr
  refine ⟨_, hr, ?_, Mod.alloc _ _⟩
  have hc := made_cells (L := L) (h0 z (by rw [hi]; exact hz)) n
  have := Row.lit L (new_at w (.cells (madeCells z.cells (n * i.size)) e)) (List.replicate n x0) (by rw [hsize]; exact hc) (by simp [maxLen]; omega)
  simpa using this

/-- A cell of an element is written, where its address stands. -/
theorem row_wr {w : World} {e : TypeId} {g l c : Nat} {xs : List α} (h : Row L e w (some ⟨g, 0, none⟩) l c xs) {x : Int} (i : Nat) (hx : x = i) (hi : i < xs.length) {j s : Nat} (hs : L.s = s) (hj : j < L.s) (v : Value) (y : α) (hy : L.cs y = (L.cs xs[i]).set j v) {K : World → Prop}
    (hk : ∀ w', Mod (on g) w w' → Row L e w' (some ⟨g, 0, none⟩) l c (xs.set i y) → K w') :
    (∃ u : Value, w.cell? (Addr.add (Addr.add ⟨g, 0, none⟩ (Int.toNat x * s)) j) = some u) ∧ w.frozen? (Addr.add (Addr.add ⟨g, 0, none⟩ (Int.toNat x * s)) j) = false ∧ atW (w.setCell (Addr.add (Addr.add ⟨g, 0, none⟩ (Int.toNat x * s)) j) v) K := by
  subst hx
  obtain ⟨g', hg', hu, hf, hm, hr⟩ := h.put hi hs hj v y hy
  injection hg' with hg'; injection hg' with hg'; subst hg'
  have e0 : Addr.add (Addr.add (Addr.add ⟨g, 0, none⟩ (i * s)) j) 0 = Addr.add (Addr.add ⟨g, 0, none⟩ (i * s)) j := by rw [add_lit, add_lit, add_lit]; rfl
  rw [e0] at hu hf hm hr
  refine ⟨hu, hf, fun w' e => ?_⟩
  subst e
  exact hk _ hm hr
end
end Go.Proofs.YtehhhkcemmfjpaaGreatDoor.St

/- The formulas of functions, printed by a program of mine (gen.py) out of the translation. -/
namespace Go.Proofs.YtehhhkcemmfjpaaGreatDoor
open Go Go.Proofs.YtehhhkcemmfjpaaGreatDoor.St
open _root_.Go.Value (string int bool slice pointer agg tuple map func nilFunc iface)
open _root_.Go.World (cell? frozen? setCell alloc drew)
open _root_.Go.Addr (add)
open _root_.Go.Obj (cells)
open _root_.Go.IntKind (wrap i64 u64 i32 u32 u8)
set_option maxRecDepth 100000

/-- staith/topic.stands -/
noncomputable def C109 : Code := (Tryz.f109.body).getD .skip
def pl109 : Nat → Plan := fun _ => .done
def ls109 : Nat → List (Nat × LT)
  | 5 => [(7, (.one .slice)), (21, (.one (.int .i64)))]
  | 13 => [(31, (.one (.int .i64)))]
  | _ => []
def W109 (patterna : Option Addr) (patternl : Nat) (_patternc : Nat) (wordsa : Option Addr) (wordsl : Nat) (_wordsc : Nat) (one : Value) (w : World) (R : Value → World → Prop) : Prop :=
  (∃ v0 : Value, (∃ w1 : World, ((Sem.run Tryz.prog (Instr.makeSlice 150 (int i64 (wrap i64 ((↑wordsl : Int) + 1))) (int i64 (wrap i64 ((↑wordsl : Int) + 1)))) w = Result.ok v0 w1) ∧ (∃ p2 : Option Addr, (∃ n3 : Nat, (∃ n4 : Nat, ((v0 = slice p2 n3 n4) ∧ (∃ a5 : Addr, ((p2 = some a5) ∧ (((0 : Int) ≤ 0) ∧ (((0 : Int) < (↑n3 : Int)) ∧ (st1 (add (add a5 0) 0) (bool true) w1 (fun w7 =>
(∃ z8 : Option Addr → Nat → Nat → Int → World → Prop, (∃ z9 : Option Addr → Nat → Nat → Int → World → Nat, ((z8 (p2) (n3) (n4) (0) (w7)) ∧ (∀ (_ : Nat → Value), (∀ (p11 : Option Addr), (∀ (n12 : Nat), (∀ (n13 : Nat), (∀ (x14 : Int), (∀ (w15 : World), ((z8 (p11) (n12) (n13) (x14) (w15)) → (ifK (decide (x14 < (↑patternl : Int)))
(∃ a16 : Addr, ((patterna = some a16) ∧ (((0 : Int) ≤ x14) ∧ (((x14 : Int) < (↑patternl : Int)) ∧ (∃ s17 : ByteArray, ((cell? w15 (add a16 (Int.toNat x14 * 1)) = some (string s17)) ∧ (∃ v18 : Value, (∃ w19 : World, ((Sem.run Tryz.prog (Instr.makeSlice 150 (int i64 (wrap i64 ((↑wordsl : Int) + 1))) (int i64 (wrap i64 ((↑wordsl : Int) + 1)))) w15 = Result.ok v18 w19) ∧ (∃ p20 : Option Addr, (∃ n21 : Nat, (∃ n22 : Nat, ((v18 = slice p20 n21 n22) ∧ (∃ z23 : Int → World → Prop, (∃ z24 : Int → World → Nat, ((z23 (0) (w19)) ∧ (∀ (_ : Nat → Value), (∀ (x26 : Int), (∀ (w27 : World), ((z23 (x26) (w27)) → (ifK (decide (x26 < (↑n12 : Int)))
(∃ a28 : Addr, ((p11 = some a28) ∧ (((0 : Int) ≤ x26) ∧ (((x26 : Int) < (↑n12 : Int)) ∧ (∃ b29 : Bool, ((cell? w27 (add a28 (Int.toNat x26 * 1)) = some (bool b29)) ∧ (ifK (ByteArray.toList s17 == ByteArray.toList (ByteArray.mk #[35]))
(ifK (b29)
(∃ a30 : Addr, ((p20 = some a30) ∧ (((0 : Int) ≤ x26) ∧ (((x26 : Int) < (↑n21 : Int)) ∧ (st1 (add (add a30 (Int.toNat x26 * 1)) 0) (bool true) w27 (fun w32 =>
((z23 (wrap i64 (x26 + 1)) (w32)) ∧ (z24 (wrap i64 (x26 + 1)) w32 < z24 x26 w27))))))))
(ifK (decide (x26 > 0))
(∃ a33 : Addr, ((p20 = some a33) ∧ (((0 : Int) ≤ wrap i64 (x26 - 1)) ∧ (((wrap i64 (x26 - 1) : Int) < (↑n21 : Int)) ∧ (∃ b34 : Bool, ((cell? w27 (add a33 (Int.toNat (wrap i64 (x26 - 1)) * 1)) = some (bool b34)) ∧ (∃ a35 : Addr, ((p20 = some a35) ∧ (((0 : Int) ≤ x26) ∧ (((x26 : Int) < (↑n21 : Int)) ∧ (st1 (add (add a35 (Int.toNat x26 * 1)) 0) (bool b34) w27 (fun w37 =>
((z23 (wrap i64 (x26 + 1)) (w37)) ∧ (z24 (wrap i64 (x26 + 1)) w37 < z24 x26 w27))))))))))))))
(∃ a38 : Addr, ((p20 = some a38) ∧ (((0 : Int) ≤ x26) ∧ (((x26 : Int) < (↑n21 : Int)) ∧ (st1 (add (add a38 (Int.toNat x26 * 1)) 0) (bool false) w27 (fun w40 =>
((z23 (wrap i64 (x26 + 1)) (w40)) ∧ (z24 (wrap i64 (x26 + 1)) w40 < z24 x26 w27))))))))))
(ifK (b29)
(ifK (decide (x26 < (↑wordsl : Int)))
(∃ a41 : Addr, ((wordsa = some a41) ∧ (((0 : Int) ≤ x26) ∧ (((x26 : Int) < (↑wordsl : Int)) ∧ (∃ s42 : ByteArray, ((cell? w27 (add a41 (Int.toNat x26 * 1)) = some (string s42)) ∧ (CaV Tryz.prog (one) (Array.mk [string s17, string s42]) (w27) (fun v43 => (fun w44 =>
(∃ b45 : Bool, ((v43 = bool b45) ∧ (ifK (b45)
(∃ a46 : Addr, ((p20 = some a46) ∧ (((0 : Int) ≤ wrap i64 (x26 + 1)) ∧ (((wrap i64 (x26 + 1) : Int) < (↑n21 : Int)) ∧ (st1 (add (add a46 (Int.toNat (wrap i64 (x26 + 1)) * 1)) 0) (bool true) w44 (fun w48 =>
((z23 (wrap i64 (x26 + 1)) (w48)) ∧ (z24 (wrap i64 (x26 + 1)) w48 < z24 x26 w27))))))))
((z23 (wrap i64 (x26 + 1)) (w44)) ∧ (z24 (wrap i64 (x26 + 1)) w44 < z24 x26 w27))))))))))))))
((z23 (wrap i64 (x26 + 1)) (w27)) ∧ (z24 (wrap i64 (x26 + 1)) w27 < z24 x26 w27)))
((z23 (wrap i64 (x26 + 1)) (w27)) ∧ (z24 (wrap i64 (x26 + 1)) w27 < z24 x26 w27))))))))))
((z8 (p20) (n21) (n22) (wrap i64 (x14 + 1)) (w27)) ∧ (z9 p20 n21 n22 (wrap i64 (x14 + 1)) w27 < z9 p11 n12 n13 x14 w15)))))))))))))))))))))))
(∃ a49 : Addr, ((p11 = some a49) ∧ (((0 : Int) ≤ (↑wordsl : Int)) ∧ ((((↑wordsl : Int) : Int) < (↑n12 : Int)) ∧ (∃ b50 : Bool, ((cell? w15 (add a49 (Int.toNat (↑wordsl : Int) * 1)) = some (bool b50)) ∧ (R (bool b50) (w15))))))))))))))))))))))))))))))))
theorem ca109 (patterna : Option Addr) (patternl : Nat) (patternc : Nat) (wordsa : Option Addr) (wordsl : Nat) (wordsc : Nat) (one : Value) (w : World) (R : Value → World → Prop) (h : W109 patterna patternl patternc wordsa wordsl wordsc one w R) : Ca Tryz.prog 109 ⟨[(.slice patterna patternl patternc), (.slice wordsa wordsl wordsc), one]⟩ w R :=
  caB (fn := Tryz.f109) (pl := pl109) (ls := ls109) Tryz.func109 (by kernel_rfl) (by kernel_rfl) h

/-- staith/topic.Match -/
noncomputable def C92 : Code := (Tryz.f92.body).getD .skip
def pl92 : Nat → Plan := fun _ => .done
def ls92 : Nat → List (Nat × LT) := fun _ => []
def W92 (pattern : ByteArray) (key : ByteArray) (w : World) (R : Value → World → Prop) : Prop :=
  (Ca Tryz.prog (84) (Array.mk [string pattern]) (w) (fun v0 => (fun w1 =>
(∃ b2 : Bool, ((v0 = bool b2) ∧ (ifK (b2)
(Ca Tryz.prog (66) (Array.mk [string key]) (w1) (fun v3 => (fun w4 =>
(∃ b5 : Bool, ((v3 = bool b5) ∧ (ifK (b5)
(Ca Tryz.prog (105) (Array.mk [string pattern]) (w4) (fun v6 => (fun w7 =>
(∃ p8 : Option Addr, (∃ n9 : Nat, (∃ n10 : Nat, ((v6 = slice p8 n9 n10) ∧ (Ca Tryz.prog (105) (Array.mk [string key]) (w7) (fun v11 => (fun w12 =>
(∃ p13 : Option Addr, (∃ n14 : Nat, (∃ n15 : Nat, ((v11 = slice p13 n14 n15) ∧ (Ca Tryz.prog (109) (Array.mk [slice p8 n9 n10, slice p13 n14 n15, func (Fn.func 108) #[] #[]]) (w12) (fun v16 => (fun w17 =>
(∃ b18 : Bool, ((v16 = bool b18) ∧ (R (bool b18) (w17)))))))))))))))))))))
(R (bool false) (w4))))))))
(R (bool false) (w1))))))))
theorem ca92 (pattern : ByteArray) (key : ByteArray) (w : World) (R : Value → World → Prop) (h : W92 pattern key w R) : Ca Tryz.prog 92 ⟨[(.string pattern), (.string key)]⟩ w R :=
  caB (fn := Tryz.f92) (pl := pl92) (ls := ls92) Tryz.func92 (by kernel_rfl) (by kernel_rfl) h

/-- staith/topic.Match$1 -/
noncomputable def C108 : Code := (Tryz.f108.body).getD .skip
def pl108 : Nat → Plan := fun _ => .done
def ls108 : Nat → List (Nat × LT) := fun _ => []
def W108 (p : ByteArray) (w_ : ByteArray) (w : World) (R : Value → World → Prop) : Prop :=
  (ifK (ByteArray.toList p == ByteArray.toList (ByteArray.mk #[42]))
(R (bool true) (w))
(R (bool (ByteArray.toList p == ByteArray.toList w_)) (w)))
theorem ca108 (p : ByteArray) (w_ : ByteArray) (w : World) (R : Value → World → Prop) (h : W108 p w_ w R) : Ca Tryz.prog 108 ⟨[(.string p), (.string w_)]⟩ w R :=
  caB (fn := Tryz.f108) (pl := pl108) (ls := ls108) Tryz.func108 (by kernel_rfl) (by kernel_rfl) h

/-- staith/route.rule -/
noncomputable def C67 : Code := (Tryz.f67.body).getD .skip
def pl67 : Nat → Plan := fun _ => .done
def ls67 : Nat → List (Nat × LT) := fun _ => []
def W67 (kind : Int) (w : World) (R : Value → World → Prop) : Prop :=
  (ifK (kind == 1)
(R (func (Fn.func 90) #[] #[]) (w))
(ifK (kind == 2)
(R (func (Fn.func 91) #[] #[]) (w))
(R (func (Fn.func 92) #[] #[]) (w))))
theorem ca67 (kind : Int) (w : World) (R : Value → World → Prop) (h : W67 kind w R) : Ca Tryz.prog 67 ⟨[(.int .i64 kind)]⟩ w R :=
  caB (fn := Tryz.f67) (pl := pl67) (ls := ls67) Tryz.func67 (by kernel_rfl) (by kernel_rfl) h

/-- staith/route.rule$1 -/
noncomputable def C90 : Code := (Tryz.f90.body).getD .skip
def pl90 : Nat → Plan := fun _ => .done
def ls90 : Nat → List (Nat × LT) := fun _ => []
def W90 (pattern : ByteArray) (key : ByteArray) (w : World) (R : Value → World → Prop) : Prop :=
  (R (bool (ByteArray.toList pattern == ByteArray.toList key)) (w))
theorem ca90 (pattern : ByteArray) (key : ByteArray) (w : World) (R : Value → World → Prop) (h : W90 pattern key w R) : Ca Tryz.prog 90 ⟨[(.string pattern), (.string key)]⟩ w R :=
  caB (fn := Tryz.f90) (pl := pl90) (ls := ls90) Tryz.func90 (by kernel_rfl) (by kernel_rfl) h

/-- staith/route.rule$2 -/
noncomputable def C91 : Code := (Tryz.f91.body).getD .skip
def pl91 : Nat → Plan := fun _ => .done
def ls91 : Nat → List (Nat × LT) := fun _ => []
def W91 (pattern : ByteArray) (_u : ByteArray) (w : World) (R : Value → World → Prop) : Prop :=
  (R (bool (ByteArray.toList pattern == ByteArray.toList (ByteArray.mk #[]))) (w))
theorem ca91 (pattern : ByteArray) (u : ByteArray) (w : World) (R : Value → World → Prop) (h : W91 pattern u w R) : Ca Tryz.prog 91 ⟨[(.string pattern), (.string u)]⟩ w R :=
  caB (fn := Tryz.f91) (pl := pl91) (ls := ls91) Tryz.func91 (by kernel_rfl) (by kernel_rfl) h

/-- staith/route.Fits -/
noncomputable def C32 : Code := (Tryz.f32.body).getD .skip
def pl32 : Nat → Plan := fun _ => .done
def ls32 : Nat → List (Nat × LT) := fun _ => []
def W32 (x0_ : ByteArray) (x1_ : Int) (x2_ : Bool) (pattern : ByteArray) (key : ByteArray) (w : World) (R : Value → World → Prop) : Prop :=
  (atW (alloc w (cells (Array.mk [string x0_, int i64 x1_, bool x2_]) 33 (0, 0))) (fun w0 =>
(∃ s1 : ByteArray, ((cell? w0 (add (nw w) 0) = some (string s1)) ∧ (∃ x2 : Int, ((cell? w0 (add (nw w) 1) = some (int i64 x2)) ∧ (∃ b3 : Bool, ((cell? w0 (add (nw w) 2) = some (bool b3)) ∧ (Ca Tryz.prog (18) (Array.mk [agg (Array.mk (List.reverse [bool b3, int i64 x2, string s1]))]) (w0) (fun v4 => (fun w5 =>
(∃ b6 : Bool, ((v4 = bool b6) ∧ (ifK (b6)
(Ca Tryz.prog (66) (Array.mk [string key]) (w5) (fun v7 => (fun w8 =>
(∃ b9 : Bool, ((v7 = bool b9) ∧ (ifK (b9)
(∃ x10 : Int, ((cell? w8 (add (nw w) 1) = some (int i64 x10)) ∧ (Ca Tryz.prog (67) (Array.mk [int i64 x10]) (w8) (fun v11 => (fun w12 =>
(∃ v13 : Value, ((v11 = v13) ∧ (CaV Tryz.prog (v13) (Array.mk [string pattern, string key]) (w12) (fun v14 => (fun w15 =>
(∃ b16 : Bool, ((v14 = bool b16) ∧ (R (bool b16) (w15))))))))))))))
(R (bool false) (w8))))))))
(R (bool false) (w5))))))))))))))))
theorem ca32 (x0_ : ByteArray) (x1_ : Int) (x2_ : Bool) (pattern : ByteArray) (key : ByteArray) (w : World) (R : Value → World → Prop) (h : W32 x0_ x1_ x2_ pattern key w R) : Ca Tryz.prog 32 ⟨[(.agg ⟨[(.string x0_), (.int .i64 x1_), (.bool x2_)]⟩), (.string pattern), (.string key)]⟩ w R :=
  caB (fn := Tryz.f32) (pl := pl32) (ls := ls32) Tryz.func32 (by kernel_rfl) (by kernel_rfl) h

/-- staith/route.names -/
noncomputable def C61 : Code := (Tryz.f61.body).getD .skip
def pl61 : Nat → Plan := fun _ => .done
def ls61 : Nat → List (Nat × LT)
  | 4 => [(7, (.one .slice)), (13, (.one (.int .i64)))]
  | _ => []
def W61 (t : Option Addr) (so : Value) (name : Value) (w : World) (R : Value → World → Prop) : Prop :=
  (Ca Tryz.prog (16) (Array.mk [pointer t]) (w) (fun v0 => (fun w1 =>
(∃ p2 : Option Addr, (∃ n3 : Nat, (∃ n4 : Nat, ((v0 = slice p2 n3 n4) ∧ (∃ z5 : Option Addr → Nat → Nat → Int → World → Prop, (∃ z6 : Option Addr → Nat → Nat → Int → World → Nat, ((z5 (none) (0) (0) (0) (w1)) ∧ (∀ (_ : Nat → Value), (∀ (p8 : Option Addr), (∀ (n9 : Nat), (∀ (n10 : Nat), (∀ (x11 : Int), (∀ (w12 : World), ((z5 (p8) (n9) (n10) (x11) (w12)) → (ifK (decide (x11 < (↑n3 : Int)))
(∃ a13 : Addr, ((p2 = some a13) ∧ (((0 : Int) ≤ x11) ∧ (((x11 : Int) < (↑n3 : Int)) ∧ (∃ s14 : ByteArray, ((cell? w12 (add (add a13 (Int.toNat x11 * 3)) 0) = some (string s14)) ∧ (∃ s15 : ByteArray, ((cell? w12 (add (add a13 (Int.toNat x11 * 3)) 1) = some (string s15)) ∧ (∃ s16 : ByteArray, ((cell? w12 (add (add a13 (Int.toNat x11 * 3)) 2) = some (string s16)) ∧ (atW (alloc w12 (cells (Array.mk [string (ByteArray.mk #[]), string (ByteArray.mk #[]), string (ByteArray.mk #[])]) 35 (0, 0))) (fun w17 =>
(st1 (add (nw w12) 0) (string s14) w17 (fun w19 =>
(st1 (add (nw w12) 1) (string s15) w19 (fun w21 =>
(st1 (add (nw w12) 2) (string s16) w21 (fun w23 =>
(∃ s24 : ByteArray, ((cell? w23 (add (nw w12) 0) = some (string s24)) ∧ (∃ s25 : ByteArray, ((cell? w23 (add (nw w12) 1) = some (string s25)) ∧ (∃ s26 : ByteArray, ((cell? w23 (add (nw w12) 2) = some (string s26)) ∧ (CaV Tryz.prog (so) (Array.mk [agg (Array.mk (List.reverse [string s26, string s25, string s24]))]) (w23) (fun v27 => (fun w28 =>
(∃ b29 : Bool, ((v27 = bool b29) ∧ (ifK (b29)
(∃ s30 : ByteArray, ((cell? w28 (add (nw w12) 0) = some (string s30)) ∧ (∃ s31 : ByteArray, ((cell? w28 (add (nw w12) 1) = some (string s31)) ∧ (∃ s32 : ByteArray, ((cell? w28 (add (nw w12) 2) = some (string s32)) ∧ (CaV Tryz.prog (name) (Array.mk [agg (Array.mk (List.reverse [string s32, string s31, string s30]))]) (w28) (fun v33 => (fun w34 =>
(∃ s35 : ByteArray, ((v33 = string s35) ∧ (atW (alloc w34 (cells (Array.mk [string s35]) 9 (0, 0))) (fun w36 =>
(∃ v37 : Value, (∃ w38 : World, ((Sem.run Tryz.prog (Builtin.append_ (Array.mk [55, 55]) 55 (Array.mk [slice p8 n9 n10, slice (some (nw w34)) 1 1])) w36 = Result.ok v37 w38) ∧ (∃ p39 : Option Addr, (∃ n40 : Nat, (∃ n41 : Nat, ((v37 = slice p39 n40 n41) ∧ ((z5 (p39) (n40) (n41) (wrap i64 (x11 + 1)) (w38)) ∧ (z6 p39 n40 n41 (wrap i64 (x11 + 1)) w38 < z6 p8 n9 n10 x11 w12))))))))))))))))))))))
((z5 (p8) (n9) (n10) (wrap i64 (x11 + 1)) (w28)) ∧ (z6 p8 n9 n10 (wrap i64 (x11 + 1)) w28 < z6 p8 n9 n10 x11 w12))))))))))))))))))))))))))))))))
(Ca Tryz.prog (87) (Array.mk [slice p8 n9 n10]) (w12) (fun v42 => (fun w43 =>
((v42 = tuple (Array.mk (List.reverse []))) ∧ (Ca Tryz.prog (88) (Array.mk [slice p8 n9 n10]) (w43) (fun v44 => (fun w45 =>
(∃ p46 : Option Addr, (∃ n47 : Nat, (∃ n48 : Nat, ((v44 = slice p46 n47 n48) ∧ (R (slice p46 n47 n48) (w45)))))))))))))))))))))))))))))))
theorem ca61 (t : Option Addr) (so : Value) (name : Value) (w : World) (R : Value → World → Prop) (h : W61 t so name w R) : Ca Tryz.prog 61 ⟨[(.pointer t), so, name]⟩ w R :=
  caB (fn := Tryz.f61) (pl := pl61) (ls := ls61) Tryz.func61 (by kernel_rfl) (by kernel_rfl) h

/-- staith/route.Queues -/
noncomputable def C28 : Code := (Tryz.f28.body).getD .skip
def pl28 : Nat → Plan := fun _ => .done
def ls28 : Nat → List (Nat × LT) := fun _ => []
def W28 (t : Option Addr) (exchange : ByteArray) (key : ByteArray) (w : World) (R : Value → World → Prop) : Prop :=
  (atW (alloc w (cells (Array.mk [string exchange]) 9 (0, 0))) (fun w0 =>
(atW (alloc w0 (cells (Array.mk [string key]) 9 (0, 0))) (fun w1 =>
(∃ s2 : ByteArray, ((cell? w1 (nw w) = some (string s2)) ∧ (Ca Tryz.prog (17) (Array.mk [pointer t, string s2]) (w1) (fun v3 => (fun w4 =>
(∃ s5 : ByteArray, (∃ x6 : Int, (∃ b7 : Bool, (∃ b8 : Bool, ((v3 = tuple (Array.mk (List.reverse [bool b8, agg (Array.mk (List.reverse [bool b7, int i64 x6, string s5]))]))) ∧ (atW (alloc w4 (cells (Array.mk [string (ByteArray.mk #[]), int i64 0, bool false]) 33 (0, 0))) (fun w9 =>
(st1 (add (nw w4) 0) (string s5) w9 (fun w11 =>
(st1 (add (nw w4) 1) (int i64 x6) w11 (fun w13 =>
(st1 (add (nw w4) 2) (bool b7) w13 (fun w15 =>
(ifK (!b8)
(R (slice none 0 0) (w15))
(Ca Tryz.prog (61) (Array.mk [pointer t, func (Fn.func 60) (Array.mk []) (Array.mk [pointer (some (nw w)), pointer (some (nw w4)), pointer (some (nw w0))]), func (Fn.func 62) #[] #[]]) (w15) (fun v16 => (fun w17 =>
(∃ p18 : Option Addr, (∃ n19 : Nat, (∃ n20 : Nat, ((v16 = slice p18 n19 n20) ∧ (R (slice p18 n19 n20) (w17))))))))))))))))))))))))))))))))
theorem ca28 (t : Option Addr) (exchange : ByteArray) (key : ByteArray) (w : World) (R : Value → World → Prop) (h : W28 t exchange key w R) : Ca Tryz.prog 28 ⟨[(.pointer t), (.string exchange), (.string key)]⟩ w R :=
  caB (fn := Tryz.f28) (pl := pl28) (ls := ls28) Tryz.func28 (by kernel_rfl) (by kernel_rfl) h

/-- staith/route.Queues$1 -/
noncomputable def C60 : Code := (Tryz.f60.body).getD .skip
def pl60 : Nat → Plan := fun _ => .done
def ls60 : Nat → List (Nat × LT) := fun _ => []
def W60 (b0_ : ByteArray) (b1_ : ByteArray) (b2_ : ByteArray) (c0 : Option Addr) (c1 : Option Addr) (c2 : Option Addr) (w : World) (R : Value → World → Prop) : Prop :=
  (atW (alloc w (cells (Array.mk [string b0_, string b1_, string b2_]) 35 (0, 0))) (fun w0 =>
(∃ s1 : ByteArray, ((cell? w0 (add (nw w) 0) = some (string s1)) ∧ (onP (c0) (fun a2 =>
(∃ s3 : ByteArray, ((cell? w0 a2 = some (string s3)) ∧ (ifK (ByteArray.toList s1 == ByteArray.toList s3)
(onP (c1) (fun a4 =>
(∃ s5 : ByteArray, ((cell? w0 (add a4 0) = some (string s5)) ∧ (∃ x6 : Int, ((cell? w0 (add a4 1) = some (int i64 x6)) ∧ (∃ b7 : Bool, ((cell? w0 (add a4 2) = some (bool b7)) ∧ (∃ s8 : ByteArray, ((cell? w0 (add (nw w) 2) = some (string s8)) ∧ (onP (c2) (fun a9 =>
(∃ s10 : ByteArray, ((cell? w0 a9 = some (string s10)) ∧ (Ca Tryz.prog (32) (Array.mk [agg (Array.mk (List.reverse [bool b7, int i64 x6, string s5])), string s8, string s10]) (w0) (fun v11 => (fun w12 =>
(∃ b13 : Bool, ((v11 = bool b13) ∧ (R (bool b13) (w12)))))))))))))))))))))
(R (bool false) (w0)))))))))))
theorem ca60 (b0_ : ByteArray) (b1_ : ByteArray) (b2_ : ByteArray) (c0 : Option Addr) (c1 : Option Addr) (c2 : Option Addr) (w : World) (R : Value → World → Prop) (h : W60 b0_ b1_ b2_ c0 c1 c2 w R) : Ca Tryz.prog 60 ⟨[(.agg ⟨[(.string b0_), (.string b1_), (.string b2_)]⟩), (.pointer c0), (.pointer c1), (.pointer c2)]⟩ w R :=
  caB (fn := Tryz.f60) (pl := pl60) (ls := ls60) Tryz.func60 (by kernel_rfl) (by kernel_rfl) h

/-- staith/route.Queues$2 -/
noncomputable def C62 : Code := (Tryz.f62.body).getD .skip
def pl62 : Nat → Plan := fun _ => .done
def ls62 : Nat → List (Nat × LT) := fun _ => []
def W62 (b0_ : ByteArray) (b1_ : ByteArray) (b2_ : ByteArray) (w : World) (R : Value → World → Prop) : Prop :=
  (atW (alloc w (cells (Array.mk [string b0_, string b1_, string b2_]) 35 (0, 0))) (fun w0 =>
(∃ s1 : ByteArray, ((cell? w0 (add (nw w) 1) = some (string s1)) ∧ (R (string s1) (w0))))))
theorem ca62 (b0_ : ByteArray) (b1_ : ByteArray) (b2_ : ByteArray) (w : World) (R : Value → World → Prop) (h : W62 b0_ b1_ b2_ w R) : Ca Tryz.prog 62 ⟨[(.agg ⟨[(.string b0_), (.string b1_), (.string b2_)]⟩)]⟩ w R :=
  caB (fn := Tryz.f62) (pl := pl62) (ls := ls62) Tryz.func62 (by kernel_rfl) (by kernel_rfl) h

/-- staith/route.Who -/
noncomputable def C30 : Code := (Tryz.f30.body).getD .skip
def pl30 : Nat → Plan := fun _ => .done
def ls30 : Nat → List (Nat × LT) := fun _ => []
def W30 (t : Option Addr) (queue : ByteArray) (w : World) (R : Value → World → Prop) : Prop :=
  (atW (alloc w (cells (Array.mk [string queue]) 9 (0, 0))) (fun w0 =>
(Ca Tryz.prog (61) (Array.mk [pointer t, func (Fn.func 64) (Array.mk []) (Array.mk [pointer (some (nw w))]), func (Fn.func 65) #[] #[]]) (w0) (fun v1 => (fun w2 =>
(∃ p3 : Option Addr, (∃ n4 : Nat, (∃ n5 : Nat, ((v1 = slice p3 n4 n5) ∧ (R (slice p3 n4 n5) (w2)))))))))))
theorem ca30 (t : Option Addr) (queue : ByteArray) (w : World) (R : Value → World → Prop) (h : W30 t queue w R) : Ca Tryz.prog 30 ⟨[(.pointer t), (.string queue)]⟩ w R :=
  caB (fn := Tryz.f30) (pl := pl30) (ls := ls30) Tryz.func30 (by kernel_rfl) (by kernel_rfl) h

/-- staith/route.Who$1 -/
noncomputable def C64 : Code := (Tryz.f64.body).getD .skip
def pl64 : Nat → Plan := fun _ => .done
def ls64 : Nat → List (Nat × LT) := fun _ => []
def W64 (b0_ : ByteArray) (b1_ : ByteArray) (b2_ : ByteArray) (c0 : Option Addr) (w : World) (R : Value → World → Prop) : Prop :=
  (atW (alloc w (cells (Array.mk [string b0_, string b1_, string b2_]) 35 (0, 0))) (fun w0 =>
(∃ s1 : ByteArray, ((cell? w0 (add (nw w) 1) = some (string s1)) ∧ (onP (c0) (fun a2 =>
(∃ s3 : ByteArray, ((cell? w0 a2 = some (string s3)) ∧ (R (bool (ByteArray.toList s1 == ByteArray.toList s3)) (w0))))))))))
theorem ca64 (b0_ : ByteArray) (b1_ : ByteArray) (b2_ : ByteArray) (c0 : Option Addr) (w : World) (R : Value → World → Prop) (h : W64 b0_ b1_ b2_ c0 w R) : Ca Tryz.prog 64 ⟨[(.agg ⟨[(.string b0_), (.string b1_), (.string b2_)]⟩), (.pointer c0)]⟩ w R :=
  caB (fn := Tryz.f64) (pl := pl64) (ls := ls64) Tryz.func64 (by kernel_rfl) (by kernel_rfl) h

/-- staith/route.Who$2 -/
noncomputable def C65 : Code := (Tryz.f65.body).getD .skip
def pl65 : Nat → Plan := fun _ => .done
def ls65 : Nat → List (Nat × LT) := fun _ => []
def W65 (b0_ : ByteArray) (b1_ : ByteArray) (b2_ : ByteArray) (w : World) (R : Value → World → Prop) : Prop :=
  (atW (alloc w (cells (Array.mk [string b0_, string b1_, string b2_]) 35 (0, 0))) (fun w0 =>
(∃ s1 : ByteArray, ((cell? w0 (add (nw w) 0) = some (string s1)) ∧ (R (string s1) (w0))))))
theorem ca65 (b0_ : ByteArray) (b1_ : ByteArray) (b2_ : ByteArray) (w : World) (R : Value → World → Prop) (h : W65 b0_ b1_ b2_ w R) : Ca Tryz.prog 65 ⟨[(.agg ⟨[(.string b0_), (.string b1_), (.string b2_)]⟩)]⟩ w R :=
  caB (fn := Tryz.f65) (pl := pl65) (ls := ls65) Tryz.func65 (by kernel_rfl) (by kernel_rfl) h

/-- staith/route.Same -/
noncomputable def C34 : Code := (Tryz.f34.body).getD .skip
def pl34 : Nat → Plan := fun _ => .done
def ls34 : Nat → List (Nat × LT)
  | 3 => [(13, (.one (.int .i64)))]
  | _ => []
def W34 (a_ : Option Addr) (b : Option Addr) (exchange : ByteArray) (keysa : Option Addr) (keysl : Nat) (_keysc : Nat) (w : World) (R : Value → World → Prop) : Prop :=
  (∃ z0 : Int → World → Prop, (∃ z1 : Int → World → Nat, ((z0 (0) (w)) ∧ (∀ (_ : Nat → Value), (∀ (x3 : Int), (∀ (w4 : World), ((z0 (x3) (w4)) → (ifK (decide (x3 < (↑keysl : Int)))
(∃ a5 : Addr, ((keysa = some a5) ∧ (((0 : Int) ≤ x3) ∧ (((x3 : Int) < (↑keysl : Int)) ∧ (∃ s6 : ByteArray, ((cell? w4 (add a5 (Int.toNat x3 * 1)) = some (string s6)) ∧ (Ca Tryz.prog (28) (Array.mk [pointer a_, string exchange, string s6]) (w4) (fun v7 => (fun w8 =>
(∃ p9 : Option Addr, (∃ n10 : Nat, (∃ n11 : Nat, ((v7 = slice p9 n10 n11) ∧ (Ca Tryz.prog (28) (Array.mk [pointer b, string exchange, string s6]) (w8) (fun v12 => (fun w13 =>
(∃ p14 : Option Addr, (∃ n15 : Nat, (∃ n16 : Nat, ((v12 = slice p14 n15 n16) ∧ (Ca Tryz.prog (70) (Array.mk [slice p9 n10 n11, slice p14 n15 n16]) (w13) (fun v17 => (fun w18 =>
(∃ b19 : Bool, ((v17 = bool b19) ∧ (ifK (!b19)
(R (bool false) (w18))
((z0 (wrap i64 (x3 + 1)) (w18)) ∧ (z1 (wrap i64 (x3 + 1)) w18 < z1 x3 w4))))))))))))))))))))))))))))
(R (bool true) (w4))))))))))
theorem ca34 (a_ : Option Addr) (b : Option Addr) (exchange : ByteArray) (keysa : Option Addr) (keysl : Nat) (keysc : Nat) (w : World) (R : Value → World → Prop) (h : W34 a_ b exchange keysa keysl keysc w R) : Ca Tryz.prog 34 ⟨[(.pointer a_), (.pointer b), (.string exchange), (.slice keysa keysl keysc)]⟩ w R :=
  caB (fn := Tryz.f34) (pl := pl34) (ls := ls34) Tryz.func34 (by kernel_rfl) (by kernel_rfl) h

/-- slices.Compact[[]string,string] -/
noncomputable def C88 : Code := (Tryz.f88.body).getD .skip
def pl88 : Nat → Plan
  | 6 => (.quiet 0 (.quiet 1 (.quiet 2 (.quiet 3 (.quiet 4 (.quiet 5 (.quiet 6 (.quiet 7 (.quiet 8 (.quiet 9 .done))))))))))
  | 11 => (.quiet 0 (.quiet 1 (.quiet 2 (.quiet 3 (.quiet 4 (.quiet 5 (.quiet 6 (.quiet 7 (.quiet 8 (.quiet 9 .done))))))))))
  | _ => .done
def ls88 : Nat → List (Nat × LT)
  | 6 => [(3, (.one (.int .i64)))]
  | 14 => [(3, (.one (.int .i64))), (5, (.one (.int .i64)))]
  | _ => []
def W88 (sa : Option Addr) (sl : Nat) (sc : Nat) (w : World) (R : Value → World → Prop) : Prop :=
  (ifK (decide ((↑sl : Int) < 2))
(R (slice sa sl sc) (w))
(∃ z0 : Int → World → Prop, (∃ z1 : Int → World → Nat, ((z0 (1) (w)) ∧ (∀ (_ : Nat → Value), (∀ (x3 : Int), (∀ (w4 : World), ((z0 (x3) (w4)) → (ifK (decide (x3 < (↑sl : Int)))
(atW (drew w4) (fun w5 =>
(∃ a6 : Addr, ((sa = some a6) ∧ (((0 : Int) ≤ x3) ∧ (((x3 : Int) < (↑sl : Int)) ∧ (∃ s7 : ByteArray, ((cell? w5 (add a6 (Int.toNat x3 * 1)) = some (string s7)) ∧ (∃ a8 : Addr, ((sa = some a8) ∧ (((0 : Int) ≤ wrap i64 (x3 - 1)) ∧ (((wrap i64 (x3 - 1) : Int) < (↑sl : Int)) ∧ (∃ s9 : ByteArray, ((cell? w5 (add a8 (Int.toNat (wrap i64 (x3 - 1)) * 1)) = some (string s9)) ∧ (ifK (ByteArray.toList s7 == ByteArray.toList s9)
(((0 : Int) ≤ x3) ∧ (((x3 : Int) ≤ (↑sl : Int)) ∧ ((((↑sl : Int) : Int) ≤ (↑sc : Int)) ∧ (∃ z10 : Int → Int → World → Prop, (∃ z11 : Int → Int → World → Nat, ((z10 (x3) (1) (w5)) ∧ (∀ (_ : Nat → Value), (∀ (x13 : Int), (∀ (x14 : Int), (∀ (w15 : World), ((z10 (x13) (x14) (w15)) → (ifK (decide (x14 < (↑(Int.toNat (↑sl : Int) - Int.toNat x3) : Int)))
(atW (drew w15) (fun w16 =>
(∃ a17 : Addr, (((if sc = Int.toNat x3 then sa else Option.map (fun x => add x (Int.toNat x3 * 1)) sa) = some a17) ∧ (((0 : Int) ≤ x14) ∧ (((x14 : Int) < (↑(Int.toNat (↑sl : Int) - Int.toNat x3) : Int)) ∧ (∃ s18 : ByteArray, ((cell? w16 (add a17 (Int.toNat x14 * 1)) = some (string s18)) ∧ (∃ a19 : Addr, (((if sc = Int.toNat x3 then sa else Option.map (fun x => add x (Int.toNat x3 * 1)) sa) = some a19) ∧ (((0 : Int) ≤ wrap i64 (x14 - 1)) ∧ (((wrap i64 (x14 - 1) : Int) < (↑(Int.toNat (↑sl : Int) - Int.toNat x3) : Int)) ∧ (∃ s20 : ByteArray, ((cell? w16 (add a19 (Int.toNat (wrap i64 (x14 - 1)) * 1)) = some (string s20)) ∧ (ifK (!ByteArray.toList s18 == ByteArray.toList s20)
(∃ a21 : Addr, (((if sc = Int.toNat x3 then sa else Option.map (fun x => add x (Int.toNat x3 * 1)) sa) = some a21) ∧ (((0 : Int) ≤ x14) ∧ (((x14 : Int) < (↑(Int.toNat (↑sl : Int) - Int.toNat x3) : Int)) ∧ (∃ s22 : ByteArray, ((cell? w16 (add a21 (Int.toNat x14 * 1)) = some (string s22)) ∧ (∃ a23 : Addr, ((sa = some a23) ∧ (((0 : Int) ≤ x13) ∧ (((x13 : Int) < (↑sl : Int)) ∧ (st1 (add (add a23 (Int.toNat x13 * 1)) 0) (string s22) w16 (fun w25 =>
((z10 (wrap i64 (x13 + 1)) (wrap i64 (x14 + 1)) (w25)) ∧ (z11 (wrap i64 (x13 + 1)) (wrap i64 (x14 + 1)) w25 < z11 x13 x14 w15))))))))))))))
((z10 (x13) (wrap i64 (x14 + 1)) (w16)) ∧ (z11 x13 (wrap i64 (x14 + 1)) w16 < z11 x13 x14 w15)))))))))))))))))
(((0 : Int) ≤ x13) ∧ (((x13 : Int) ≤ (↑sl : Int)) ∧ ((((↑sl : Int) : Int) ≤ (↑sc : Int)) ∧ (∃ v26 : Value, (∃ w27 : World, ((Sem.run Tryz.prog (Builtin.clear_ (Array.mk [55]) 0 (Array.mk [slice (if sc = Int.toNat x13 then sa else Option.map (fun x => add x (Int.toNat x13 * 1)) sa) (Int.toNat (↑sl : Int) - Int.toNat x13) (sc - Int.toNat x13)])) w15 = Result.ok v26 w27) ∧ ((v26 = tuple (Array.mk (List.reverse []))) ∧ (((0 : Int) ≤ 0) ∧ (((0 : Int) ≤ x13) ∧ (((x13 : Int) ≤ (↑sc : Int)) ∧ (R (slice (if sc = 0 then sa else Option.map (fun x => add x 0) sa) (Int.toNat x13 - 0) (sc - 0)) (w27))))))))))))))))))))))))
((z0 (wrap i64 (x3 + 1)) (w5)) ∧ (z1 (wrap i64 (x3 + 1)) w5 < z1 x3 w4)))))))))))))))))
(R (slice sa sl sc) (w4)))))))))))
theorem ca88 (sa : Option Addr) (sl : Nat) (sc : Nat) (w : World) (R : Value → World → Prop) (h : W88 sa sl sc w R) : Ca Tryz.prog 88 ⟨[(.slice sa sl sc)]⟩ w R :=
  caB (fn := Tryz.f88) (pl := pl88) (ls := ls88) Tryz.func88 (by kernel_rfl) (by kernel_rfl) h

/-- slices.Equal[[]string,string] -/
noncomputable def C70 : Code := (Tryz.f70.body).getD .skip
def pl70 : Nat → Plan
  | 6 => (.quiet 0 (.quiet 1 (.quiet 2 (.quiet 3 (.quiet 4 (.quiet 5 (.quiet 6 (.quiet 7 (.quiet 8 .done)))))))))
  | _ => .done
def ls70 : Nat → List (Nat × LT)
  | 6 => [(13, (.one (.int .i64)))]
  | _ => []
def W70 (s1_a : Option Addr) (s1_l : Nat) (_s1_c : Nat) (s2_a : Option Addr) (s2_l : Nat) (_s2_c : Nat) (w : World) (R : Value → World → Prop) : Prop :=
  (ifK ((↑s1_l : Int) != (↑s2_l : Int))
(R (bool false) (w))
(∃ z0 : Int → World → Prop, (∃ z1 : Int → World → Nat, ((z0 (0) (w)) ∧ (∀ (_ : Nat → Value), (∀ (x3 : Int), (∀ (w4 : World), ((z0 (x3) (w4)) → (ifK (decide (x3 < (↑s1_l : Int)))
(atW (drew w4) (fun w5 =>
(∃ a6 : Addr, ((s1_a = some a6) ∧ (((0 : Int) ≤ x3) ∧ (((x3 : Int) < (↑s1_l : Int)) ∧ (∃ s7 : ByteArray, ((cell? w5 (add a6 (Int.toNat x3 * 1)) = some (string s7)) ∧ (∃ a8 : Addr, ((s2_a = some a8) ∧ (((0 : Int) ≤ x3) ∧ (((x3 : Int) < (↑s2_l : Int)) ∧ (∃ s9 : ByteArray, ((cell? w5 (add a8 (Int.toNat x3 * 1)) = some (string s9)) ∧ (ifK (!ByteArray.toList s7 == ByteArray.toList s9)
(R (bool false) (w5))
((z0 (wrap i64 (x3 + 1)) (w5)) ∧ (z1 (wrap i64 (x3 + 1)) w5 < z1 x3 w4)))))))))))))))))
(R (bool true) (w4)))))))))))
theorem ca70 (s1_a : Option Addr) (s1_l : Nat) (s1_c : Nat) (s2_a : Option Addr) (s2_l : Nat) (s2_c : Nat) (w : World) (R : Value → World → Prop) (h : W70 s1_a s1_l s1_c s2_a s2_l s2_c w R) : Ca Tryz.prog 70 ⟨[(.slice s1_a s1_l s1_c), (.slice s2_a s2_l s2_c)]⟩ w R :=
  caB (fn := Tryz.f70) (pl := pl70) (ls := ls70) Tryz.func70 (by kernel_rfl) (by kernel_rfl) h
end Go.Proofs.YtehhhkcemmfjpaaGreatDoor

/- The program's stands and Match. -/
namespace Go.Proofs.YtehhhkcemmfjpaaGreatDoor
open Go Go.Proofs.YtehhhkcemmfjpaaGreatDoor Go.Proofs.YtehhhkcemmfjpaaGreatDoor.St

theorem rowB_eq0 {g k : Nat} (h : rowB (some ⟨g, 0, none⟩) k) : g = k := by simpa [rowB] using h
/-- What a test of two words does. -/
abbrev OneW (f : Value) (φ : ByteArray → ByteArray → Bool) (w : World) : Prop := ∀ p x w', Mod St.no w w' → ∀ R : Value → World → Prop, (∀ w'', Mod St.no w' w'' → R (.bool (φ p x)) w'') → CaV Tryz.prog f #[.string p, .string x] w' R
noncomputable def reachB (φ : ByteArray → ByteArray → Bool) (ps ws : List ByteArray) (j i : Nat) : Bool := @decide (Rea φ ps ws j i) (Classical.propDecidable _)
noncomputable def fitsB (φ : ByteArray → ByteArray → Bool) (ps ws : List ByteArray) : Bool := @decide (Fits φ ps ws) (Classical.propDecidable _)
theorem reachB_iff {φ : ByteArray → ByteArray → Bool} {ps ws : List ByteArray} {j i : Nat} : reachB φ ps ws j i = true ↔ Rea φ ps ws j i := @decide_eq_true_iff _ (Classical.propDecidable _)
theorem fitsB_iff {φ : ByteArray → ByteArray → Bool} {ps ws : List ByteArray} : fitsB φ ps ws = true ↔ Fits φ ps ws := @decide_eq_true_iff _ (Classical.propDecidable _)
theorem reachB_eq {φ : ByteArray → ByteArray → Bool} {ps ws : List ByteArray} {j i : Nat} {b : Bool} (h : Rea φ ps ws j i ↔ b = true) : reachB φ ps ws j i = b := by
  rw [Bool.eq_iff_iff, reachB_iff, h]
theorem fitsB_eq {φ : ByteArray → ByteArray → Bool} {ps ws : List ByteArray} {b : Bool} (h : Fits φ ps ws ↔ b = true) : fitsB φ ps ws = b := by
  rw [Bool.eq_iff_iff, fitsB_iff, h]
theorem bool_row : laidOk Tryz.prog 150 4 (oneL Value.bool (fun _ => rfl)).s = true := by kernel_rfl
theorem bool_zero : ∀ z, (Tryz.prog.info? 4).bind (·.zero) = some z → z.cells.toList = (oneL Value.bool (fun _ => rfl)).cs false := by
  intro z hz
  have h : (Tryz.prog.info? 4).bind (·.zero) = some (.bool false) := by kernel_rfl
  rw [h] at hz
  cases hz
  rfl
/-- make([]bool, n). -/
theorem make_bools (w : World) (n : Nat) (hn : n ≤ 1099511627776) :
    ∃ w', (Instr.makeSlice 150 (.int .i64 (n : Int)) (.int .i64 (n : Int))).run Tryz.prog w = .ok (.slice (some ⟨w.heap.size, 0, none⟩) n n) w' ∧ Els Value.bool 4 w' (some ⟨w.heap.size, 0, none⟩) n n (List.replicate n false) ∧ Mod St.no w w' := by
  obtain ⟨w', h1, h2, h3⟩ := row_make (P := Tryz.prog) (w := w) (L := oneL Value.bool (fun _ => rfl)) bool_row bool_zero .i64 .i64 n hn
  exact ⟨w', h1, Els.of_row h2, h3⟩
theorem at0_rep {n i : Nat} : at0 (List.replicate n false) i = false := by
  by_cases h : i < n
  · rw [at0_eq (by simpa using h)]; simp
  · simp [at0, show (List.replicate n false)[i]? = none by simp; omega]
/-- The row of what is reached behind j of the pattern's words. -/
structure Rch (φ : ByteArray → ByteArray → Bool) (ps ws : List ByteArray) (j : Nat) (xs : List Bool) : Prop where
  len : xs.length = ws.length + 1
  get : ∀ i, i ≤ ws.length → at0 xs i = reachB φ ps ws j i
theorem byte_eq (a b : ByteArray) : (ByteArray.toList a == ByteArray.toList b) = decide (a = b) := toList_beq a b

theorem stands_ok (f : Fn) (fa ca : Array Value) (φ : ByteArray → ByteArray → Bool) (w : World) {pa : Option Addr} {pl pc : Nat} {ps : List ByteArray} (hp : Els Value.string 9 w pa pl pc ps) {wa : Option Addr} {wl wc : Nat} {ws : List ByteArray} (hw : Els Value.string 9 w wa wl wc ws)
    (hpl : pl < 1000000000) (hwl : wl < 1000000000) (hf : OneW (.func f fa ca) φ w) (R : Value → World → Prop) (h : ∀ w', Mod St.no w w' → R (.bool (fitsB φ ps ws)) w') :
    Ca Tryz.prog 109 #[.slice pa pl pc, .slice wa wl wc, .func f fa ca] w R := by
  refine ca109 pa pl pc wa wl wc (.func f fa ca) w R ?_
  have hpn := hp.len.1
  have hwn := hw.len.1
  unfold W109
  have en : IntKind.i64.wrap ((wl : Int) + 1) = ((wl + 1 : Nat) : Int) := (by first | (simp only [IntKind.wrap_i64]; omega) | omega)
  rw [en]
  clear en
  obtain ⟨w1, hrun, hx1, m1⟩ := make_bools w (wl + 1) (by omega)
  refine ⟨_, w1, hrun, _, _, _, rfl, ?_⟩
  refine hx1.wr 0 rfl (by omega) true fun w7 m7 hx7 => ?_
  have n7 : Mod St.no w w7 := m1.new m7 fun k hk => by have := rowB_eq0 hk; omega
  have hr0 : Rch φ ps ws 0 ((List.replicate (wl + 1) false).set 0 true) := by
    refine ⟨by rw [List.length_set, List.length_replicate]; omega, fun i hi => ?_⟩
    rw [at0_set (by simp), at0_rep]
    refine (reachB_eq ?_).symm
    rw [reach_zero _ _ hi]
    by_cases h0 : i = 0 <;> simp [h0]
  refine ⟨fun p l c x w' => ∃ (j : Nat) (xs : List Bool), x = j ∧ j ≤ pl ∧ l = wl + 1 ∧ Els Value.bool 4 w' p l c xs ∧ Rch φ ps ws j xs ∧ Mod St.no w w', fun _ _ _ x _ => ((pl : Int) - x).toNat, ⟨0, _, rfl, Nat.zero_le _, rfl, hx7, hr0, n7⟩, ?_⟩
  rintro _ p _ c _ w15 ⟨j, xs, rfl, hj, rfl, hx, hr, n15⟩
  refine ifK_dec (fun hlt => ?_) (fun hge => ?_)
  · have hjl : j < ps.length := by omega
    refine (hp.no n15).rd j rfl (by omega) ?_
    rw [at0_eq hjl]
    obtain ⟨w19, hrun, hy, m19⟩ := make_bools w15 (wl + 1) (by omega)
    refine ⟨_, w19, hrun, _, _, _, rfl, ?_⟩
    have hx19 := hx.no m19
    have n19 := n15.trans m19
    have g15 := n15.size
    have hxlt : ∀ k, rowB p k → k < w15.heap.size := hx.blk
    -- behind i of the words
    refine ⟨fun x w' => ∃ (i : Nat) (ys : List Bool), x = i ∧ i ≤ wl + 1 ∧ Els Value.bool 4 w' (some ⟨w15.heap.size, 0, none⟩) (wl + 1) (wl + 1) ys ∧ Els Value.bool 4 w' p (wl + 1) c xs ∧ Mod St.no w w' ∧ ys.length = wl + 1 ∧
        ∀ m, m ≤ wl → at0 ys m = if m < i ∨ (ps[j] ≠ hashW ∧ m = i) then reachB φ ps ws (j + 1) m else false, fun x _ => ((wl : Int) + 1 - x).toNat, ⟨0, _, rfl, Nat.zero_le _, hy, hx19, n19, by simp, fun m hm => ?_⟩, ?_⟩
    · rw [at0_rep]
      split
      · rename_i hc
        rcases hc with hc | ⟨h1, rfl⟩
        · omega
        · refine (reachB_eq ?_).symm
          simp [reach_word0 hjl h1]
      · rfl
    rintro _ _ w27 ⟨i, ys, rfl, hi, hy27, hx27, n27, hyl, hys⟩
    refine ifK_dec (fun hilt => ?_) (fun hige => ?_)
    · have hiw : i ≤ wl := by omega
      have e1 : IntKind.i64.wrap ((i : Int) + 1) = ((i + 1 : Nat) : Int) := (by first | (simp only [IntKind.wrap_i64]; omega) | omega)
      rw [e1]
      clear e1
      have hget := hr.get i (by omega)
      -- a row that has one more
      have next : ∀ (w' : World) (zs : List Bool), Mod (fun k => k = w15.heap.size) w27 w' → Els Value.bool 4 w' (some ⟨w15.heap.size, 0, none⟩) (wl + 1) (wl + 1) zs → (zs.length = wl + 1) → (∀ m, m ≤ wl → at0 zs m = if m < i + 1 ∨ (ps[j] ≠ hashW ∧ m = i + 1) then reachB φ ps ws (j + 1) m else false) →
          (∃ (i' : Nat) (ys : List Bool), ((i + 1 : Nat) : Int) = i' ∧ i' ≤ wl + 1 ∧ Els Value.bool 4 w' (some ⟨w15.heap.size, 0, none⟩) (wl + 1) (wl + 1) ys ∧ Els Value.bool 4 w' p (wl + 1) c xs ∧ Mod St.no w w' ∧ ys.length = wl + 1 ∧
            ∀ m, m ≤ wl → at0 ys m = if m < i' ∨ (ps[j] ≠ hashW ∧ m = i') then reachB φ ps ws (j + 1) m else false) ∧ ((wl : Int) + 1 - ((i + 1 : Nat) : Int)).toNat < ((wl : Int) + 1 - (i : Int)).toNat := by
        intro w' zs m hz hzl hzs
        exact ⟨⟨i + 1, zs, rfl, by omega, hz, hx27.mod m (fun k hk hS => by have := hxlt k hk; omega), n27.new m (fun k hk => by omega), hzl, hzs⟩, by omega⟩
      refine hx27.rd i rfl (by omega) ?_
      rw [hget, byte_eq]
      refine ifK_dec (fun hh => ?_) (fun hh => ?_)
      · -- a word that stands for any
        have hh : ps[j] = hashW := hh
        have hstep : reachB φ ps ws (j + 1) i = (reachB φ ps ws j i || (decide (0 < i) && reachB φ ps ws (j + 1) (i - 1))) := by
          refine reachB_eq ?_
          rw [reach_hash hjl hh (by omega), Bool.or_eq_true, Bool.and_eq_true, decide_eq_true_iff, reachB_iff, reachB_iff]
          constructor
          · rintro ⟨m, hm, h1⟩
            by_cases e : m = i
            · subst e; exact .inl h1
            · exact .inr ⟨by omega, (reach_hash hjl hh (by omega)).2 ⟨m, by omega, h1⟩⟩
          · rintro (h1 | ⟨h0, h1⟩)
            · exact ⟨i, Nat.le_refl _, h1⟩
            · obtain ⟨m, hm, h2⟩ := (reach_hash hjl hh (by omega)).1 h1
              exact ⟨m, by omega, h2⟩
        have put : ∀ b, b = reachB φ ps ws (j + 1) i → ∀ m, m ≤ wl → at0 (ys.set i b) m = if m < i + 1 ∨ (ps[j] ≠ hashW ∧ m = i + 1) then reachB φ ps ws (j + 1) m else false := by
          rintro b rfl m hm
          rw [at0_set (by omega), hys m hm]
          by_cases e : m = i
          · subst e
            rw [if_pos rfl, if_pos (.inl (by omega))]
          · rw [if_neg e]
            by_cases e' : m < i
            · rw [if_pos (.inl e'), if_pos (.inl (by omega))]
            · rw [if_neg (fun hc => hc.elim e' fun hc => hc.1 hh), if_neg (fun hc => hc.elim (fun h => by omega) fun hc => hc.1 hh)]
        refine ifK_of (fun hb => ?_) (fun hb => ?_)
        · rw [hb, Bool.true_or] at hstep
          exact hy27.wr i rfl (by omega) true fun w32 m32 hy32 => next w32 _ (m32.mono fun k _ hk => (rowB_eq0 hk).symm) hy32 (by rw [List.length_set]; exact hyl) (put _ hstep.symm)
        · rw [hb, Bool.false_or] at hstep
          refine ifK_dec (fun hpos => ?_) (fun hz => ?_)
          · obtain ⟨i', rfl⟩ : ∃ i', i = i' + 1 := ⟨i - 1, by omega⟩
            have ej : IntKind.i64.wrap (((i' + 1 : Nat) : Int) - 1) = (i' : Int) := by rw [wrap64 (by omega) (by omega)]; omega
            rw [ej]
            clear ej
            refine hy27.rd i' rfl (by omega) ?_
            have hb' : at0 ys i' = reachB φ ps ws (j + 1) (i' + 1) := by
              rw [hys i' (by omega), if_pos (.inl (by omega)), hstep, decide_eq_true (by omega), Bool.true_and]; rfl
            exact hy27.wr (i' + 1) rfl (by omega) _ fun w37 m37 hy37 => next w37 _ (m37.mono fun k _ hk => (rowB_eq0 hk).symm) hy37 (by rw [List.length_set]; exact hyl) (put _ hb')
          · obtain rfl : i = 0 := by omega
            exact hy27.wr 0 rfl (by omega) false fun w40 m40 hy40 => next w40 _ (m40.mono fun k _ hk => (rowB_eq0 hk).symm) hy40 (by rw [List.length_set]; exact hyl) (put _ hstep.symm)
      · -- a word that stands for one
        have hh : ps[j] ≠ hashW := hh
        have stay : reachB φ ps ws (j + 1) (i + 1) = false ∨ i = wl → ∀ m, m ≤ wl → at0 ys m = if m < i + 1 ∨ (ps[j] ≠ hashW ∧ m = i + 1) then reachB φ ps ws (j + 1) m else false := by
          intro hor m hm
          rw [hys m hm]
          by_cases e : m ≤ i
          · rw [if_pos (by by_cases e' : m = i; exact .inr ⟨hh, e'⟩; exact .inl (by omega)), if_pos (.inl (by omega))]
          · rw [if_neg (fun hc => hc.elim (fun h => by omega) fun hc => by omega)]
            by_cases e' : m = i + 1
            · subst e'
              rw [if_pos (.inr ⟨hh, rfl⟩)]
              exact (hor.resolve_right (by omega)).symm
            · rw [if_neg (fun hc => hc.elim (fun h => by omega) fun hc => e' hc.2)]
        have step : ∀ hi' : i < ws.length, reachB φ ps ws (j + 1) (i + 1) = (reachB φ ps ws j i && φ ps[j] ws[i]) := by
          intro hi'
          refine reachB_eq ?_
          rw [reach_word hjl hh hi', Bool.and_eq_true, reachB_iff]
        refine ifK_of (fun hb => ?_) (fun hb => ?_)
        · refine ifK_dec (fun hiw' => ?_) (fun hiw' => ?_)
          · have hi' : i < ws.length := by omega
            refine (hw.no n27).rd i rfl (by omega) ?_
            rw [at0_eq hi']
            have hs := step hi'
            rw [hb, Bool.true_and] at hs
            refine hf _ _ w27 n27 _ fun w44 n44 => ⟨_, rfl, ?_⟩
            refine ifK_of (fun ho => ?_) (fun ho => ?_)
            · rw [ho] at hs
              refine (hy27.no n44).wr (i + 1) rfl (by omega) true fun w48 m48 hy48 => ?_
              refine next w48 _ ((n44.mono fun _ _ h => h.elim).trans (m48.mono fun k _ hk => (rowB_eq0 hk).symm)) hy48 (by rw [List.length_set]; exact hyl) fun m hm => ?_
              rw [at0_set (by omega), hys m hm]
              by_cases e : m = i + 1
              · subst e
                rw [if_pos rfl, if_pos (.inr ⟨hh, rfl⟩)]; exact hs.symm
              · rw [if_neg e]
                by_cases e' : m ≤ i
                · rw [if_pos (by by_cases e' : m = i; exact .inr ⟨hh, e'⟩; exact .inl (by omega)), if_pos (.inl (by omega))]
                · rw [if_neg (fun hc => hc.elim (fun h => by omega) fun hc => by omega), if_neg (fun hc => hc.elim (fun h => by omega) fun hc => e hc.2)]
            · rw [ho] at hs
              exact next w44 ys (n44.mono fun _ _ h => h.elim) (hy27.no n44) hyl (stay (.inl hs))
          · exact next w27 ys (Mod.refl _ _) hy27 hyl (stay (.inr (by omega)))
        · by_cases hiw' : i < ws.length
          · have hs := step hiw'
            rw [hb, Bool.false_and] at hs
            exact next w27 ys (Mod.refl _ _) hy27 hyl (stay (.inl hs))
          · exact next w27 ys (Mod.refl _ _) hy27 hyl (stay (.inr (by omega)))
    · have e1 : IntKind.i64.wrap ((j : Int) + 1) = ((j + 1 : Nat) : Int) := (by first | (simp only [IntKind.wrap_i64]; omega) | omega)
      rw [e1]
      clear e1
      refine ⟨⟨j + 1, ys, rfl, by omega, rfl, hy27, ⟨by rw [hyl]; omega, fun i hi => ?_⟩, n27⟩, by simp only; omega⟩
      rw [hys i (by omega), if_pos (.inl (by omega))]
  · have hjp : j = ps.length := by omega
    refine hx.rd wl rfl (by omega) ?_
    have hg := hr.get wl (by omega)
    rw [hg, hjp, ← hwn]
    have : reachB φ ps ws ps.length ws.length = fitsB φ ps ws := by
      refine reachB_eq ?_
      rw [reach_all, fitsB_iff]
    rw [this]
    exact h w15 n15
/-- A pattern's word stands for a word. -/
def oneB (p w : ByteArray) : Bool := decide (p = starW) || decide (p = w)
theorem one_ok (w : World) : OneW (.func (.func 108) #[] #[]) oneB w := by
  intro p x w' _ R hR
  refine (ca108 p x w' R ?_ : Ca _ _ _ _ _)
  have h := hR w' (Mod.refl _ _)
  refine ifK_of (fun he => ?_) (fun he => ?_)
  · rw [byte_eq, decide_eq_true_iff] at he
    rw [oneB, show starW = ByteArray.mk #[42] from rfl, he] at h
    simpa using h
  · rw [byte_eq, decide_eq_false_iff_not] at he
    rw [oneB, show decide (p = starW) = false from decide_eq_false he, Bool.false_or] at h
    rw [byte_eq]
    exact h
noncomputable def matchB (p k : ByteArray) : Bool := patB p && (keyB k && fitsB oneB (wordsOf p) (wordsOf k))
theorem made_small {φ : ByteArray → Bool} {s : ByteArray} (h : madeB φ s = true) : s.size ≤ 60 := by
  rw [madeB, Bool.and_eq_true] at h
  exact of_decide_eq_true h.1
theorem madeB_len {φ : ByteArray → Bool} {s : ByteArray} (h : madeB φ s = true) : (wordsOf s).length ≤ 12 := by
  rw [madeB, Bool.and_eq_true, Bool.and_eq_true] at h
  exact of_decide_eq_true h.2.1
theorem match_ok (p k : ByteArray) (w : World) (hp : p.size < 1000000000) (hk : k.size < 1000000000) (R : Value → World → Prop) (h : ∀ w', Mod St.no w w' → R (.bool (matchB p k)) w') : Ca Tryz.prog 92 #[.string p, .string k] w R := by
  refine ca92 p k w R ?_
  refine pattern_ok p w hp _ fun w1 m1 => ⟨_, rfl, ifK_of (fun hb => ?_) (fun hb => ?_)⟩
  · refine key_ok k w1 hk _ fun w4 m4 => ⟨_, rfl, ifK_of (fun hc => ?_) (fun hc => ?_)⟩
    · refine words_ok p w4 hp _ fun w7 pa pl pc hx m7 _ => ⟨_, _, _, rfl, ?_⟩
      refine words_ok k w7 hk _ fun w12 ka kl kc hy m12 _ => ⟨_, _, _, rfl, ?_⟩
      have l1 := (hx.len).1
      have l2 := (hy.len).1
      have q1 := madeB_len hb
      have q2 := madeB_len hc
      refine stands_ok _ _ _ oneB w12 (hx.no m12) hy (by omega) (by omega) (one_ok w12) _ fun w17 m17 => ⟨_, rfl, ?_⟩
      have h' := h w17 ((((m1.trans m4).trans m7).trans m12).trans m17)
      rw [matchB, hb, hc, Bool.true_and, Bool.true_and] at h'
      exact h'
    · have h' := h w4 (m1.trans m4)
      rw [matchB, hc, Bool.false_and, Bool.and_false] at h'
      exact h'
  · have h' := h w1 m1
    rw [matchB, hb, Bool.false_and] at h'
    exact h'
end Go.Proofs.YtehhhkcemmfjpaaGreatDoor

/- Runs of equal elements are cut to one of them; the end of a row is cleared. It names no program. -/
namespace Go.Proofs.YtehhhkcemmfjpaaGreatDoor.St
open Go

section
variable {α : Type} [Inhabited α] [DecidableEq α]
/-- Element j stays: it is the first, or unlike the one ahead of it. -/
def stays (xs : List α) (j : Nat) : Bool := decide (j = 0 ∨ at0 xs j ≠ at0 xs (j - 1))
/-- What stays of the first m. -/
def cmpL (xs : List α) (m : Nat) : List α := ((List.range m).filter (stays xs)).map (at0 xs)
theorem cmpL_succ (xs : List α) (m : Nat) : cmpL xs (m + 1) = cmpL xs m ++ (if stays xs m then [at0 xs m] else []) := by
  unfold cmpL
  rw [List.range_succ, List.filter_append, List.map_append]
  congr 1
  by_cases h : stays xs m <;> simp [h]
theorem cmpL_all {xs : List α} {m : Nat} (hm : m ≤ xs.length) (h : ∀ j, j < m → stays xs j = true) : cmpL xs m = xs.take m := by
  unfold cmpL
  rw [List.filter_eq_self.2 (fun j hj => h j (List.mem_range.1 hj))]
  apply List.ext_getElem
  · simp [hm]
  · intro i h1 h2
    have hi : i < m := by simpa using h1
    simp [at0_eq (show i < xs.length by omega)]
theorem cmpL_len (xs : List α) (m : Nat) : (cmpL xs m).length ≤ m := by
  unfold cmpL
  rw [List.length_map]
  exact Nat.le_trans (List.length_filter_le _ _) (by simp)
/-- m places have been looked at; what stays of them, k elements, lies ahead; from k on all is as it was. -/
structure CI (xs : List α) (m k : Nat) (ys : List α) : Prop where
  size : ys.length = xs.length
  len : (cmpL xs m).length = k
  lt : k < m
  low : ∀ j, j < k → (cmpL xs m)[j]? = some (at0 ys j)
  high : ∀ j, k ≤ j → at0 ys j = at0 xs j
theorem CI.start {xs : List α} {k : Nat} (hk : k < xs.length) (hall : ∀ j, j < k → stays xs j = true) (hno : stays xs k = false) : CI xs (k + 1) k xs := by
  have hc : cmpL xs (k + 1) = xs.take k := by rw [cmpL_succ, hno, cmpL_all (by omega) hall]; simp
  refine ⟨rfl, by rw [hc, List.length_take]; omega, by omega, fun j hj => ?_, fun j _ => rfl⟩
  rw [hc, List.getElem?_take_of_lt hj, List.getElem?_eq_getElem (by omega), at0_eq (by omega)]
theorem CI.keep {xs ys : List α} {m k : Nat} (h : CI xs m k ys) (hm : m < xs.length) (hs : stays xs m = true) : CI xs (m + 1) (k + 1) (ys.set k (at0 xs m)) := by
  have hlt := h.lt
  have hsz := h.size
  have hc : cmpL xs (m + 1) = cmpL xs m ++ [at0 xs m] := by rw [cmpL_succ, hs]; rfl
  refine ⟨by rw [List.length_set]; exact hsz, by rw [hc, List.length_append, h.len]; rfl, by omega, fun j hj => ?_, fun j hj => ?_⟩
  · rw [hc, at0_set (by omega)]
    by_cases e : j = k
    · subst e
      rw [if_pos rfl, List.getElem?_append_right (by rw [h.len]; exact Nat.le_refl _), h.len, Nat.sub_self]; rfl
    · rw [if_neg e, List.getElem?_append_left (by rw [h.len]; omega)]
      exact h.low j (by omega)
  · rw [at0_set (by omega), if_neg (by omega)]
    exact h.high j (by omega)
theorem CI.skip {xs ys : List α} {m k : Nat} (h : CI xs m k ys) (hs : stays xs m = false) : CI xs (m + 1) k ys := by
  have hc : cmpL xs (m + 1) = cmpL xs m := by rw [cmpL_succ, hs]; simp
  exact ⟨h.size, by rw [hc]; exact h.len, by have := h.lt; omega, fun j hj => by rw [hc]; exact h.low j hj, h.high⟩
theorem CI.done {xs ys : List α} {m k : Nat} (h : CI xs m k ys) (hm : m ≤ xs.length) : ys.take k = cmpL xs m := by
  have hlt := h.lt
  have hsz := h.size
  apply List.ext_getElem?
  intro j
  by_cases hj : j < k
  · rw [List.getElem?_take_of_lt hj, h.low j hj, List.getElem?_eq_getElem (by omega), at0_eq (by omega)]
  · rw [List.getElem?_eq_none (by rw [List.length_take]; omega), List.getElem?_eq_none (by rw [h.len]; omega)]
omit [DecidableEq α] in
theorem at0_take {xs : List α} {i k : Nat} (h : i < k) : at0 (xs.take k) i = at0 xs i := by
  simp [at0, List.getElem?_take_of_lt h]
end

/-- The cells from o on are set. -/
theorem setCells_at {b : Nat} {e : TypeId} : ∀ (vs : List Value) (o : Nat) (w : World) (cur : Array Value), w.heap[b]? = some (.cells cur e (0, 0)) →
    ∃ cur' : Array Value, (w.setCells b o vs).heap[b]? = some (.cells cur' e (0, 0)) ∧ cur'.size = cur.size ∧ (∀ k, k ≤ o → cur'.toList.take k = cur.toList.take k) ∧ Mod (on b) w (w.setCells b o vs)
  | [], _, w, cur, h => ⟨cur, h, rfl, fun _ _ => rfl, Mod.refl _ _⟩
  | v :: vs, o, w, cur, h => by
    obtain ⟨cur', h1, h2, h3, h4⟩ := setCells_at vs (o + 1) (w.setCell ⟨b, o, none⟩ v) _ (set0 h o v)
    refine ⟨cur', h1, by rw [h2, Array.size_setIfInBounds], fun k hk => ?_, (Mod.setCell w ⟨b, o, none⟩ v).trans h4⟩
    rw [h3 k (by omega), Array.toList_setIfInBounds, List.take_set_of_le hk]
/-- t is a row of texts. -/
def strRow (P : Program) (t e : TypeId) : Bool :=
  (match P.underlying t with | some (.slice e') => Nat.beq e' e | _ => false) && (match (P.info? e).bind (·.zero) with | some (.string s) => s.data.isEmpty | _ => false)
theorem strRow_of {P : Program} {t e : TypeId} (h : strRow P t e = true) : P.underlying t = some (.slice e) ∧ ∀ w, (zeroValue e).run P w = .ok (.string ⟨#[]⟩) w := by
  unfold strRow at h
  rw [Bool.and_eq_true] at h
  obtain ⟨h1, h2⟩ := h
  constructor
  · split at h1
    · rename_i e' hu; rw [hu, Nat.eq_of_beq_eq_true h1]
    · cases h1
  · intro w
    split at h2
    · rename_i s hz
      have : s = ⟨#[]⟩ := ByteArray.ext (by simpa using h2)
      subst this
      cases hi : P.info? e with
      | none => rw [hi] at hz; cases hz
      | some i => rw [hi] at hz; exact run_zeroValue' hi hz
    · cases h2
theorem add0_eq (a : Option Addr) (c : Nat) : (if c = 0 then a else a.map fun x => Addr.add x 0) = a := by
  split
  · rfl
  · cases a with
    | none => rfl
    | some ad => simp [Addr.add]
/-- clear(s[k:]), and then s[:k]. -/
theorem row_clear {P : Program} {t e : TypeId} (ho : strRow P t e = true) {ty : TypeId} {w : World} {a : Option Addr} {l c : Nat} {xs : List ByteArray} (h : Els Value.string e w a l c xs) {k : Nat} (hk : k ≤ l) :
    ∃ w', (Builtin.clear_ #[t] ty #[.slice (if c = k then a else a.map fun x => Addr.add x (k * 1)) (l - k) (c - k)]).run P w = .ok (.tuple #[]) w' ∧ Mod (rowB a) w w' ∧
      Els Value.string e w' a k c (xs.take k) := by
  obtain ⟨hu, hz⟩ := strRow_of ho
  have hl := h.len
  rcases h.2 with ⟨hv, hl0⟩ | ⟨g, cap, cur, hv, _, hg, h1, h2, h3, h4⟩
  · injection hv with e1 e2 e3
    subst e1; subst e2; subst e3
    have : k = 0 := by omega
    subst this
    refine ⟨w, by simp [Builtin.clear_, run_underlying' hu], Mod.refl _ _, ?_⟩
    rw [List.take_zero]; exact Els.nil _ _
  · injection hv with e1 e2 e3
    subst e1; subst e3
    have hcs : cur.size = c := by simpa using h3
    have htk : cur.toList.take l = xs.map Value.string := by simpa using h4
    -- what is ahead of k
    have row : ∀ (w' : World) (cur' : Array Value), w'.heap[g]? = some (.cells cur' e (0, 0)) → cur'.size = cur.size → cur'.toList.take k = cur.toList.take k → Els Value.string e w' (some ⟨g, 0, none⟩) k c (xs.take k) := by
      intro w' cur' q1 q2 q3
      refine ⟨by simp; omega, .inr ⟨g, c, cur', rfl, Nat.zero_le _, q1, by omega, h2, by rw [q2]; simpa using h3, ?_⟩⟩
      rw [Nat.mul_one, q3, List.map_take, ← htk, List.take_take, Nat.min_eq_left hk]
    by_cases hkl : k = l
    · subst hkl
      refine ⟨w, ?_, Mod.refl _ _, row w cur hg rfl rfl⟩
      rw [Nat.sub_self]
      cases (if c = k then (some (⟨g, 0, none⟩ : Addr)) else (some (⟨g, 0, none⟩ : Addr)).map fun x => Addr.add x (k * 1)) <;> simp [Builtin.clear_, run_underlying' hu]
    · rw [if_neg (by omega), Option.map_some, add_lit, Nat.zero_add, Nat.mul_one]
      have hr := Go.Lib.run_clear_slice (P := P) w t e ty (.string ⟨#[]⟩) hu hz rfl rfl g k (l - k) (c - k) (by omega)
        (fun j hj => by rw [cl hg, Array.getElem?_eq_getElem (by omega)]; rfl) (fun j _ => fz0 hg _)
      obtain ⟨cur', q1, q2, q3, q4⟩ := setCells_at (List.replicate (l - k) (Value.string ⟨#[]⟩)) k w cur hg
      exact ⟨_, hr, q4.mono fun j _ hj => (by cases hj; rfl), row _ cur' q1 q2 (q3 k (Nat.le_refl _))⟩

/-! ### Names that rise -/
/-- These are the names that S tells, rising. -/
structure NamesOf (S : ByteArray → Prop) (ys : List ByteArray) : Prop where
  rise : ys.Pairwise (· < ·)
  mem : ∀ n, n ∈ ys ↔ S n
theorem NamesOf.unique {S : ByteArray → Prop} {ys zs : List ByteArray} (h : NamesOf S ys) (h' : NamesOf S zs) : ys = zs := by
  have nd : ∀ {l : List ByteArray}, l.Pairwise (· < ·) → l.Nodup := fun hl => (List.Pairwise.imp (S := fun a b => a ≠ b) (fun {a b} hab e => str_irr a (by rw [← e] at hab; exact hab)) hl : List.Pairwise (fun a b => a ≠ b) _)
  have hp : ys.Perm zs := (List.perm_ext_iff_of_nodup (nd h.rise) (nd h'.rise)).2 fun n => by rw [h.mem, h'.mem]
  refine List.Perm.eq_of_pairwise (le := fun a b => a < b) (fun a b _ _ hab hba => absurd hba (strLin.lle hab)) h.rise h'.rise hp
theorem le_lt8 {a b c : ByteArray} (h1 : a ≤ b) (h2 : b < c) : a < c := Classical.byContradiction fun h => (strLin.tr (a := c) (b := a) (c := b) h h1) h2
theorem cmpL_mem (xs : List ByteArray) (n : ByteArray) : n ∈ cmpL xs xs.length ↔ n ∈ xs := by
  unfold cmpL
  rw [List.mem_map]
  constructor
  · rintro ⟨j, hj, rfl⟩
    have := List.mem_range.1 (List.mem_filter.1 hj).1
    rw [at0_eq this]; exact List.getElem_mem _
  · intro h
    obtain ⟨j, hj, rfl⟩ := List.mem_iff_getElem.1 h
    have go : ∀ j, j < xs.length → ∃ i ∈ (List.range xs.length).filter (stays xs), at0 xs i = at0 xs j := by
      intro j
      induction j with
      | zero => exact fun hj => ⟨0, List.mem_filter.2 ⟨List.mem_range.2 hj, by simp [stays]⟩, rfl⟩
      | succ j ih =>
        intro hj
        cases hs : stays xs (j + 1) with
        | true => exact ⟨j + 1, List.mem_filter.2 ⟨List.mem_range.2 hj, hs⟩, rfl⟩
        | false =>
          obtain ⟨i, hi, he⟩ := ih (by omega)
          refine ⟨i, hi, he.trans ?_⟩
          simp [stays] at hs
          exact hs.symm
    obtain ⟨i, hi, he⟩ := go j hj
    exact ⟨i, hi, by rw [he, at0_eq hj]⟩
theorem cmpL_rise {xs : List ByteArray} (h : Srt xs 0 xs.length) : (cmpL xs xs.length).Pairwise (· < ·) := by
  unfold cmpL
  rw [List.pairwise_map]
  have hr : ((List.range xs.length).filter (stays xs)).Pairwise (· < ·) := List.pairwise_lt_range.sublist List.filter_sublist
  refine List.Pairwise.imp_of_mem ?_ hr
  intro i j hi hj hij
  have hj' := List.mem_filter.1 hj
  have hjl := List.mem_range.1 hj'.1
  have hs := hj'.2
  simp only [stays, decide_eq_true_iff] at hs
  have hne := hs.resolve_left (by omega)
  have h1 : at0 xs (j - 1) ≤ at0 xs j := h (j - 1) j (Nat.zero_le _) (by omega) hjl
  have h2 : at0 xs (j - 1) < at0 xs j := Classical.byContradiction fun hn => hne (str_total h1 hn)
  by_cases e : i = j - 1
  · rw [e]; exact h2
  · exact le_lt8 (h i (j - 1) (Nat.zero_le _) (by omega) (by omega)) h2
theorem names_of_sorted {S : ByteArray → Prop} {xs zs : List ByteArray} (hp : xs.Perm zs) (h : Srt xs 0 xs.length) (hS : ∀ n, n ∈ zs ↔ S n) : NamesOf S (cmpL xs xs.length) :=
  ⟨cmpL_rise h, fun n => by rw [cmpL_mem, hp.mem_iff, hS]⟩
end Go.Proofs.YtehhhkcemmfjpaaGreatDoor.St

/- The formulas of functions, printed by a program of mine (gen.py) out of the translation. -/
namespace Go.Proofs.YtehhhkcemmfjpaaGreatDoor
open Go Go.Proofs.YtehhhkcemmfjpaaGreatDoor.St
open _root_.Go.Value (string int bool slice pointer agg tuple map func nilFunc iface)
open _root_.Go.World (cell? frozen? setCell alloc drew)
open _root_.Go.Addr (add)
open _root_.Go.Obj (cells)
open _root_.Go.IntKind (wrap i64 u64 i32 u32 u8)
set_option maxRecDepth 100000

/-- cmp.Less[string] -/
noncomputable def C134 : Code := (Tryz.f134.body).getD .skip
def pl134 : Nat → Plan := fun _ => .done
def ls134 : Nat → List (Nat × LT) := fun _ => []
def W134 (x : ByteArray) (y : ByteArray) (w : World) (R : Value → World → Prop) : Prop :=
  (Ca Tryz.prog (78) (Array.mk [string x]) (w) (fun v0 => (fun w1 =>
(∃ b2 : Bool, ((v0 = bool b2) ∧ (ifK (b2)
(Ca Tryz.prog (78) (Array.mk [string y]) (w1) (fun v3 => (fun w4 =>
(∃ b5 : Bool, ((v3 = bool b5) ∧ (ifK (!b5)
(R (bool true) (w4))
(R (bool (Op.bytesLess (ByteArray.toList x) (ByteArray.toList y))) (w4))))))))
(R (bool (Op.bytesLess (ByteArray.toList x) (ByteArray.toList y))) (w1))))))))
theorem ca134 (x : ByteArray) (y : ByteArray) (w : World) (R : Value → World → Prop) (h : W134 x y w R) : Ca Tryz.prog 134 ⟨[(.string x), (.string y)]⟩ w R :=
  caB (fn := Tryz.f134) (pl := pl134) (ls := ls134) Tryz.func134 (by kernel_rfl) (by kernel_rfl) h

/-- slices.insertionSortOrdered[string] -/
noncomputable def C128 : Code := (Tryz.f128.body).getD .skip
def pl128 : Nat → Plan
  | 4 => (.quiet 0 (.quiet 1 (.quiet 2 (.quiet 3 (.quiet 4 (.quiet 5 (.quiet 6 (.quiet 7 (.quiet 8 (.quiet 9 (.quiet 10 (.quiet 11 (.quiet 12 (.eff 13 [] (.quiet 14 .done)))))))))))))))
  | 6 => (.quiet 0 (.quiet 1 (.quiet 2 (.quiet 3 (.quiet 4 (.quiet 5 (.quiet 6 (.quiet 7 (.quiet 8 (.quiet 9 (.quiet 10 (.quiet 11 (.quiet 12 (.quiet 13 (.quiet 14 (.eff 15 [] (.quiet 16 (.eff 17 [] .done))))))))))))))))))
  | _ => .done
def ls128 : Nat → List (Nat × LT)
  | 1 => [(6, (.one (.int .i64)))]
  | 6 => [(7, (.one (.int .i64)))]
  | _ => []
def W128 (dataa : Option Addr) (datal : Nat) (_datac : Nat) (a_ : Int) (b : Int) (w : World) (R : Value → World → Prop) : Prop :=
  (∃ z0 : Int → World → Prop, (∃ z1 : Int → World → Nat, ((z0 (wrap i64 (a_ + 1)) (w)) ∧ (∀ (_ : Nat → Value), (∀ (x3 : Int), (∀ (w4 : World), ((z0 (x3) (w4)) → (ifK (decide (x3 < b))
(∃ z5 : Int → World → Prop, (∃ z6 : Int → World → Nat, ((z5 (x3) (w4)) ∧ (∀ (_ : Nat → Value), (∀ (x8 : Int), (∀ (w9 : World), ((z5 (x8) (w9)) → (atW (drew w9) (fun w10 =>
(ifK (decide (x8 > a_))
(∃ a11 : Addr, ((dataa = some a11) ∧ (((0 : Int) ≤ x8) ∧ (((x8 : Int) < (↑datal : Int)) ∧ (∃ s12 : ByteArray, ((cell? w10 (add a11 (Int.toNat x8 * 1)) = some (string s12)) ∧ (∃ a13 : Addr, ((dataa = some a13) ∧ (((0 : Int) ≤ wrap i64 (x8 - 1)) ∧ (((wrap i64 (x8 - 1) : Int) < (↑datal : Int)) ∧ (∃ s14 : ByteArray, ((cell? w10 (add a13 (Int.toNat (wrap i64 (x8 - 1)) * 1)) = some (string s14)) ∧ (Ca Tryz.prog (134) (Array.mk [string s12, string s14]) (w10) (fun v15 => (fun w16 =>
(∃ b17 : Bool, ((v15 = bool b17) ∧ (ifK (b17)
(atW (drew w16) (fun w18 =>
(∃ a19 : Addr, ((dataa = some a19) ∧ (((0 : Int) ≤ wrap i64 (x8 - 1)) ∧ (((wrap i64 (x8 - 1) : Int) < (↑datal : Int)) ∧ (∃ s20 : ByteArray, ((cell? w18 (add a19 (Int.toNat (wrap i64 (x8 - 1)) * 1)) = some (string s20)) ∧ (∃ a21 : Addr, ((dataa = some a21) ∧ (((0 : Int) ≤ x8) ∧ (((x8 : Int) < (↑datal : Int)) ∧ (∃ s22 : ByteArray, ((cell? w18 (add a21 (Int.toNat x8 * 1)) = some (string s22)) ∧ (∃ a23 : Addr, ((dataa = some a23) ∧ (((0 : Int) ≤ x8) ∧ (((x8 : Int) < (↑datal : Int)) ∧ (st1 (add (add a23 (Int.toNat x8 * 1)) 0) (string s20) w18 (fun w25 =>
(∃ a26 : Addr, ((dataa = some a26) ∧ (((0 : Int) ≤ wrap i64 (x8 - 1)) ∧ (((wrap i64 (x8 - 1) : Int) < (↑datal : Int)) ∧ (st1 (add (add a26 (Int.toNat (wrap i64 (x8 - 1)) * 1)) 0) (string s22) w25 (fun w28 =>
((z5 (wrap i64 (x8 - 1)) (w28)) ∧ (z6 (wrap i64 (x8 - 1)) w28 < z6 x8 w9))))))))))))))))))))))))))))
((z0 (wrap i64 (x3 + 1)) (w16)) ∧ (z1 (wrap i64 (x3 + 1)) w16 < z1 x3 w4))))))))))))))))))))
((z0 (wrap i64 (x3 + 1)) (w10)) ∧ (z1 (wrap i64 (x3 + 1)) w10 < z1 x3 w4))))))))))))
(R (tuple (Array.mk (List.reverse []))) (w4))))))))))
theorem ca128 (dataa : Option Addr) (datal : Nat) (datac : Nat) (a_ : Int) (b : Int) (w : World) (R : Value → World → Prop) (h : W128 dataa datal datac a_ b w R) : Ca Tryz.prog 128 ⟨[(.slice dataa datal datac), (.int .i64 a_), (.int .i64 b)]⟩ w R :=
  caB (fn := Tryz.f128) (pl := pl128) (ls := ls128) Tryz.func128 (by kernel_rfl) (by kernel_rfl) h
end Go.Proofs.YtehhhkcemmfjpaaGreatDoor

/- The library's sort of one-cell elements (numbers, strings), at one type of them: Less, insertion sort. -/
namespace Go.Proofs.YtehhhkcemmfjpaaGreatDoor.Sortstring
open Go Go.Proofs.YtehhhkcemmfjpaaGreatDoor Go.Proofs.YtehhhkcemmfjpaaGreatDoor.St

theorem isNaN_ok (x : ByteArray) (w : World) (R : Value → World → Prop) (h : R (.bool false) w) : Ca Tryz.prog 78 #[Value.string x] w R := by
  refine ca78 x w R ?_
  exact (by simpa [W78] using h)
theorem less_ok (x y : ByteArray) (w : World) (R : Value → World → Prop) (h : R (.bool (decide (x < y))) w) : Ca Tryz.prog 134 #[Value.string x, Value.string y] w R := by
  refine ca134 x y w R ?_
  exact isNaN_ok x w _ ⟨false, rfl, (strLess h)⟩

section
variable {e : TypeId} {d : Option Addr} {l c : Nat} {xs : List ByteArray} {w : World}
/-- Is the one less than the other? -/
theorem lss (hd : Els Value.string e w d l c xs) {i j : Int} (m n : Nat) (hi : i = m) (hj : j = n) (hm : m < l) (hn : n < l) {A B : World → Prop} (hA : at0 xs m < at0 xs n → A w) (hB : ¬ at0 xs m < at0 xs n → B w) :
    ∃ ad : Addr, d = some ad ∧ (0 : Int) ≤ i ∧ i < (↑l : Int) ∧ ∃ x : ByteArray, w.cell? (Addr.add ad (Int.toNat i * 1)) = some (Value.string x) ∧
    ∃ ad : Addr, d = some ad ∧ (0 : Int) ≤ j ∧ j < (↑l : Int) ∧ ∃ y : ByteArray, w.cell? (Addr.add ad (Int.toNat j * 1)) = some (Value.string y) ∧
    Ca Tryz.prog 134 (Array.mk [Value.string x, Value.string y]) w (fun v w' => ∃ b : Bool, v = Value.bool b ∧ ifK b (A w') (B w')) :=
  hd.rd m hi hm (hd.rd n hj hn (less_ok _ _ _ _ ⟨_, rfl, ifK_dec hA hB⟩))
/-- Is the one not less than the other? -/
theorem nls (hd : Els Value.string e w d l c xs) {i j : Int} (m n : Nat) (hi : i = m) (hj : j = n) (hm : m < l) (hn : n < l) {A B : World → Prop} (hA : ¬ at0 xs m < at0 xs n → A w) (hB : at0 xs m < at0 xs n → B w) :
    ∃ ad : Addr, d = some ad ∧ (0 : Int) ≤ i ∧ i < (↑l : Int) ∧ ∃ x : ByteArray, w.cell? (Addr.add ad (Int.toNat i * 1)) = some (Value.string x) ∧
    ∃ ad : Addr, d = some ad ∧ (0 : Int) ≤ j ∧ j < (↑l : Int) ∧ ∃ y : ByteArray, w.cell? (Addr.add ad (Int.toNat j * 1)) = some (Value.string y) ∧
    Ca Tryz.prog 134 (Array.mk [Value.string x, Value.string y]) w (fun v w' => ∃ b : Bool, v = Value.bool b ∧ ifK (!b) (A w') (B w')) :=
  hd.rd m hi hm (hd.rd n hj hn (less_ok _ _ _ _ ⟨_, rfl, ifK_not (fun h => hA (of_decide_eq_false h)) (fun h => hB (of_decide_eq_true h))⟩))
end

theorem insertion_ok (e : TypeId) (d : Option Addr) (l c : Nat) (a b : Nat) (xs : List ByteArray) (w : World) (hd : Els Value.string e w d l c xs) (hab : a ≤ b) (hb : b ≤ l) (hl : l < 4611686018427387904) (R : Value → World → Prop)
    (h : ∀ w' ys, Els Value.string e w' d l c ys → Seg a b xs ys → Srt ys a b → Mod (rowB d) w w' → R (.tuple #[]) w') :
    Ca Tryz.prog 128 #[.slice d l c, .int .i64 a, .int .i64 b] w R := by
  obtain ⟨hxl, hlc, hcm⟩ := hd.len
  refine ca128 d l c a b w R ?_
  refine ⟨fun x w' => ∃ (i : Nat) (ys : List ByteArray), x = i ∧ a < i ∧ (i ≤ b ∨ i = a + 1) ∧ Els Value.string e w' d l c ys ∧ Seg a b xs ys ∧ Srt ys a (min i b) ∧ Mod (rowB d) w w',
    fun x _ => ((b : Int) - x).toNat, ⟨a + 1, xs, (by first | (simp only [IntKind.wrap_i64]; omega) | omega), by omega, .inr rfl, hd, Seg.refl _ _ _, Srt.nil _ _ _ (by omega), Mod.refl _ _⟩, ?_⟩
  rintro _ x w4 ⟨i, ys, rfl, hai, hib, hys, hseg, hsrt, hm⟩
  refine ifK_dec (fun hlt => ?_) (fun hge => ?_)
  · have hsrt : Srt ys a i := by rwa [Nat.min_eq_left (by omega)] at hsrt
    refine ⟨fun x w' => ∃ (j : Nat) (zs : List ByteArray), x = j ∧ a ≤ j ∧ j ≤ i ∧ Els Value.string e w' d l c zs ∧ Seg a b xs zs ∧ Ins zs a i j ∧ Mod (rowB d) w w', fun x _ => (x - a).toNat,
      ⟨i, ys, rfl, by omega, Nat.le_refl _, hys, hseg, Ins.start hsrt, hm⟩, ?_⟩
    rintro _ x w9 ⟨j, zs, rfl, haj, hji, hzs, hsg, hins, hm9⟩
    have hzl := hzs.len.1
    intro w10 e10
    have m10 : Mod no w9 w10 := by subst e10; exact Mod.drew _
    clear e10
    have hz10 := hzs.no m10
    have hm10 := hm9.trans_no m10
    have next : (j ≤ a ∨ at0 zs (j - 1) ≤ at0 zs j) → (∃ (i' : Nat) (ys : List ByteArray), IntKind.i64.wrap ((i : Int) + 1) = i' ∧ a < i' ∧ (i' ≤ b ∨ i' = a + 1) ∧ Els Value.string e w10 d l c ys ∧ Seg a b xs ys ∧ Srt ys a (min i' b) ∧ Mod (rowB d) w w10) ∧
        ((b : Int) - IntKind.i64.wrap ((i : Int) + 1)).toNat < ((b : Int) - i).toNat := by
      intro hj
      refine ⟨⟨i + 1, zs, (by first | (simp only [IntKind.wrap_i64]; omega) | omega), by omega, .inl (by omega), hz10, hsg, ?_, hm10⟩, (by first | (simp only [IntKind.wrap_i64]; omega) | omega)⟩
      rw [Nat.min_eq_left (by omega)]
      exact hins.done hj
    refine ifK_dec (fun hgt => ?_) (fun hle => next (.inl (by omega)))
    refine lss hz10 j (j - 1) rfl (by first | (simp only [IntKind.wrap_i64]; omega) | omega) (by omega) (by omega) (fun hls => ?_) (fun hls => next (.inr (Lin.nlt hls)))
    intro w18 e18
    have m18 : Mod no w10 w18 := by subst e18; exact Mod.drew _
    clear e18
    refine (hz10.no m18).swp j (j - 1) rfl (by first | (simp only [IntKind.wrap_i64]; omega) | omega) (by omega) (by omega) fun w28 hz28 m28 => ?_
    exact ⟨⟨j - 1, swapL zs j (j - 1), (by first | (simp only [IntKind.wrap_i64]; omega) | omega), by omega, by omega, hz28, hsg.trans (Seg.swap (by omega) (by omega) (by omega) (by omega) (by omega) (by omega)),
      hins.step (by omega) (by omega) hji hls, (hm10.trans_no m18).trans m28⟩, (by first | (simp only [IntKind.wrap_i64]; omega) | omega)⟩
  · rw [Nat.min_eq_right (by omega)] at hsrt
    exact h w4 ys hys hseg hsrt hm
end Go.Proofs.YtehhhkcemmfjpaaGreatDoor.Sortstring

/- The formulas of functions, printed by a program of mine (gen.py) out of the translation. -/
namespace Go.Proofs.YtehhhkcemmfjpaaGreatDoor
open Go Go.Proofs.YtehhhkcemmfjpaaGreatDoor.St
open _root_.Go.Value (string int bool slice pointer agg tuple map func nilFunc iface)
open _root_.Go.World (cell? frozen? setCell alloc drew)
open _root_.Go.Addr (add)
open _root_.Go.Obj (cells)
open _root_.Go.IntKind (wrap i64 u64 i32 u32 u8)
set_option maxRecDepth 100000

/-- slices.order2Ordered[string] -/
noncomputable def C153 : Code := (Tryz.f153.body).getD .skip
def pl153 : Nat → Plan
  | 1 => (.quiet 0 (.quiet 1 (.quiet 2 (.quiet 3 (.quiet 4 (.quiet 5 (.quiet 6 (.quiet 7 (.eff 8 [] .done)))))))))
  | _ => .done
def ls153 : Nat → List (Nat × LT) := fun _ => []
def W153 (dataa : Option Addr) (datal : Nat) (_datac : Nat) (a_ : Int) (b : Int) (swaps : Option Addr) (w : World) (R : Value → World → Prop) : Prop :=
  (atW (drew w) (fun w0 =>
(∃ a1 : Addr, ((dataa = some a1) ∧ (((0 : Int) ≤ b) ∧ (((b : Int) < (↑datal : Int)) ∧ (∃ s2 : ByteArray, ((cell? w0 (add a1 (Int.toNat b * 1)) = some (string s2)) ∧ (∃ a3 : Addr, ((dataa = some a3) ∧ (((0 : Int) ≤ a_) ∧ (((a_ : Int) < (↑datal : Int)) ∧ (∃ s4 : ByteArray, ((cell? w0 (add a3 (Int.toNat a_ * 1)) = some (string s4)) ∧ (Ca Tryz.prog (134) (Array.mk [string s2, string s4]) (w0) (fun v5 => (fun w6 =>
(∃ b7 : Bool, ((v5 = bool b7) ∧ (ifK (b7)
(onP (swaps) (fun a8 =>
(∃ x9 : Int, ((cell? w6 a8 = some (int i64 x9)) ∧ (onP (swaps) (fun a10 =>
(st1 (add a10 0) (int i64 (wrap i64 (x9 + 1))) w6 (fun w12 =>
(R (tuple (Array.mk [int i64 b, int i64 a_])) (w12))))))))))
(R (tuple (Array.mk [int i64 a_, int i64 b])) (w6))))))))))))))))))))))
theorem ca153 (dataa : Option Addr) (datal : Nat) (datac : Nat) (a_ : Int) (b : Int) (swaps : Option Addr) (w : World) (R : Value → World → Prop) (h : W153 dataa datal datac a_ b swaps w R) : Ca Tryz.prog 153 ⟨[(.slice dataa datal datac), (.int .i64 a_), (.int .i64 b), (.pointer swaps)]⟩ w R :=
  caB (fn := Tryz.f153) (pl := pl153) (ls := ls153) Tryz.func153 (by kernel_rfl) (by kernel_rfl) h

/-- slices.medianOrdered[string] -/
noncomputable def C149 : Code := (Tryz.f149.body).getD .skip
def pl149 : Nat → Plan := fun _ => .done
def ls149 : Nat → List (Nat × LT) := fun _ => []
def W149 (dataa : Option Addr) (datal : Nat) (datac : Nat) (a_ : Int) (b : Int) (c : Int) (swaps : Option Addr) (w : World) (R : Value → World → Prop) : Prop :=
  (Ca Tryz.prog (153) (Array.mk [slice dataa datal datac, int i64 a_, int i64 b, pointer swaps]) (w) (fun v0 => (fun w1 =>
(∃ x2 : Int, (∃ x3 : Int, ((v0 = tuple (Array.mk (List.reverse [int i64 x3, int i64 x2]))) ∧ (Ca Tryz.prog (153) (Array.mk [slice dataa datal datac, int i64 x3, int i64 c, pointer swaps]) (w1) (fun v4 => (fun w5 =>
(∃ x6 : Int, (∃ x7 : Int, ((v4 = tuple (Array.mk (List.reverse [int i64 x7, int i64 x6]))) ∧ (Ca Tryz.prog (153) (Array.mk [slice dataa datal datac, int i64 x2, int i64 x6, pointer swaps]) (w5) (fun v8 => (fun w9 =>
(∃ x10 : Int, (∃ x11 : Int, ((v8 = tuple (Array.mk (List.reverse [int i64 x11, int i64 x10]))) ∧ (R (int i64 x11) (w9))))))))))))))))))))
theorem ca149 (dataa : Option Addr) (datal : Nat) (datac : Nat) (a_ : Int) (b : Int) (c : Int) (swaps : Option Addr) (w : World) (R : Value → World → Prop) (h : W149 dataa datal datac a_ b c swaps w R) : Ca Tryz.prog 149 ⟨[(.slice dataa datal datac), (.int .i64 a_), (.int .i64 b), (.int .i64 c), (.pointer swaps)]⟩ w R :=
  caB (fn := Tryz.f149) (pl := pl149) (ls := ls149) Tryz.func149 (by kernel_rfl) (by kernel_rfl) h

/-- slices.medianAdjacentOrdered[string] -/
noncomputable def C148 : Code := (Tryz.f148.body).getD .skip
def pl148 : Nat → Plan := fun _ => .done
def ls148 : Nat → List (Nat × LT) := fun _ => []
def W148 (dataa : Option Addr) (datal : Nat) (datac : Nat) (a_ : Int) (swaps : Option Addr) (w : World) (R : Value → World → Prop) : Prop :=
  (Ca Tryz.prog (149) (Array.mk [slice dataa datal datac, int i64 (wrap i64 (a_ - 1)), int i64 a_, int i64 (wrap i64 (a_ + 1)), pointer swaps]) (w) (fun v0 => (fun w1 =>
(∃ x2 : Int, ((v0 = int i64 x2) ∧ (R (int i64 x2) (w1)))))))
theorem ca148 (dataa : Option Addr) (datal : Nat) (datac : Nat) (a_ : Int) (swaps : Option Addr) (w : World) (R : Value → World → Prop) (h : W148 dataa datal datac a_ swaps w R) : Ca Tryz.prog 148 ⟨[(.slice dataa datal datac), (.int .i64 a_), (.pointer swaps)]⟩ w R :=
  caB (fn := Tryz.f148) (pl := pl148) (ls := ls148) Tryz.func148 (by kernel_rfl) (by kernel_rfl) h

/-- slices.choosePivotOrdered[string] -/
noncomputable def C131 : Code := (Tryz.f131.body).getD .skip
def pl131 : Nat → Plan := fun _ => .done
def ls131 : Nat → List (Nat × LT)
  | 6 => [(0, .agg []), (11, (.one (.int .i64)))]
  | _ => []
def W131 (dataa : Option Addr) (datal : Nat) (datac : Nat) (a_ : Int) (b : Int) (w : World) (R : Value → World → Prop) : Prop :=
  (atW (alloc w (cells (Array.mk [int i64 0]) 3 (0, 0))) (fun w0 =>
(((4 : Int) ≠ 0) ∧ (((4 : Int) ≠ 0) ∧ (((4 : Int) ≠ 0) ∧ (∃ z1 : Int → World → Prop, ((ifK (decide (wrap i64 (b - a_) ≥ 8))
(ifK (decide (wrap i64 (b - a_) ≥ 50))
(Ca Tryz.prog (148) (Array.mk [slice dataa datal datac, int i64 (wrap i64 (a_ + wrap i64 (wrap i64 (Int.tdiv (wrap i64 (b - a_)) 4) * 1))), pointer (some (nw w))]) (w0) (fun v2 => (fun w3 =>
(∃ x4 : Int, ((v2 = int i64 x4) ∧ (Ca Tryz.prog (148) (Array.mk [slice dataa datal datac, int i64 (wrap i64 (a_ + wrap i64 (wrap i64 (Int.tdiv (wrap i64 (b - a_)) 4) * 2))), pointer (some (nw w))]) (w3) (fun v5 => (fun w6 =>
(∃ x7 : Int, ((v5 = int i64 x7) ∧ (Ca Tryz.prog (148) (Array.mk [slice dataa datal datac, int i64 (wrap i64 (a_ + wrap i64 (wrap i64 (Int.tdiv (wrap i64 (b - a_)) 4) * 3))), pointer (some (nw w))]) (w6) (fun v8 => (fun w9 =>
(∃ x10 : Int, ((v8 = int i64 x10) ∧ (Ca Tryz.prog (149) (Array.mk [slice dataa datal datac, int i64 x4, int i64 x7, int i64 x10, pointer (some (nw w))]) (w9) (fun v11 => (fun w12 =>
(∃ x13 : Int, ((v11 = int i64 x13) ∧ (z1 (x13) (w12))))))))))))))))))))))
(Ca Tryz.prog (149) (Array.mk [slice dataa datal datac, int i64 (wrap i64 (a_ + wrap i64 (wrap i64 (Int.tdiv (wrap i64 (b - a_)) 4) * 1))), int i64 (wrap i64 (a_ + wrap i64 (wrap i64 (Int.tdiv (wrap i64 (b - a_)) 4) * 2))), int i64 (wrap i64 (a_ + wrap i64 (wrap i64 (Int.tdiv (wrap i64 (b - a_)) 4) * 3))), pointer (some (nw w))]) (w0) (fun v14 => (fun w15 =>
(∃ x16 : Int, ((v14 = int i64 x16) ∧ (z1 (x16) (w15))))))))
(z1 (wrap i64 (a_ + wrap i64 (wrap i64 (Int.tdiv (wrap i64 (b - a_)) 4) * 2))) (w0))) ∧ (∀ (_ : Nat → Value), (∀ (x18 : Int), (∀ (w19 : World), ((z1 (x18) (w19)) → (∃ x20 : Int, ((cell? w19 (nw w) = some (int i64 x20)) ∧ (ifK (x20 == 0)
(R (tuple (Array.mk [int i64 x18, int i64 1])) (w19))
(ifK (x20 == 12)
(R (tuple (Array.mk [int i64 x18, int i64 2])) (w19))
(R (tuple (Array.mk [int i64 x18, int i64 0])) (w19)))))))))))))))))
theorem ca131 (dataa : Option Addr) (datal : Nat) (datac : Nat) (a_ : Int) (b : Int) (w : World) (R : Value → World → Prop) (h : W131 dataa datal datac a_ b w R) : Ca Tryz.prog 131 ⟨[(.slice dataa datal datac), (.int .i64 a_), (.int .i64 b)]⟩ w R :=
  caB (fn := Tryz.f131) (pl := pl131) (ls := ls131) Tryz.func131 (by kernel_rfl) (by kernel_rfl) h

/-- slices.reverseRangeOrdered[string] -/
noncomputable def C132 : Code := (Tryz.f132.body).getD .skip
def pl132 : Nat → Plan
  | 3 => (.quiet 0 (.quiet 1 (.quiet 2 (.quiet 3 (.quiet 4 (.quiet 5 (.quiet 6 (.quiet 7 (.quiet 8 (.quiet 9 (.quiet 10 (.quiet 11 (.quiet 12 (.eff 13 [] (.quiet 14 (.eff 15 [] .done))))))))))))))))
  | _ => .done
def ls132 : Nat → List (Nat × LT)
  | 2 => [(6, (.one (.int .i64))), (7, (.one (.int .i64)))]
  | _ => []
def W132 (dataa : Option Addr) (datal : Nat) (_datac : Nat) (a_ : Int) (b : Int) (w : World) (R : Value → World → Prop) : Prop :=
  (∃ z0 : Int → Int → World → Prop, (∃ z1 : Int → Int → World → Nat, ((z0 (a_) (wrap i64 (b - 1)) (w)) ∧ (∀ (_ : Nat → Value), (∀ (x3 : Int), (∀ (x4 : Int), (∀ (w5 : World), ((z0 (x3) (x4) (w5)) → (ifK (decide (x3 < x4))
(atW (drew w5) (fun w6 =>
(∃ a7 : Addr, ((dataa = some a7) ∧ (((0 : Int) ≤ x4) ∧ (((x4 : Int) < (↑datal : Int)) ∧ (∃ s8 : ByteArray, ((cell? w6 (add a7 (Int.toNat x4 * 1)) = some (string s8)) ∧ (∃ a9 : Addr, ((dataa = some a9) ∧ (((0 : Int) ≤ x3) ∧ (((x3 : Int) < (↑datal : Int)) ∧ (∃ s10 : ByteArray, ((cell? w6 (add a9 (Int.toNat x3 * 1)) = some (string s10)) ∧ (∃ a11 : Addr, ((dataa = some a11) ∧ (((0 : Int) ≤ x3) ∧ (((x3 : Int) < (↑datal : Int)) ∧ (st1 (add (add a11 (Int.toNat x3 * 1)) 0) (string s8) w6 (fun w13 =>
(∃ a14 : Addr, ((dataa = some a14) ∧ (((0 : Int) ≤ x4) ∧ (((x4 : Int) < (↑datal : Int)) ∧ (st1 (add (add a14 (Int.toNat x4 * 1)) 0) (string s10) w13 (fun w16 =>
((z0 (wrap i64 (x3 + 1)) (wrap i64 (x4 - 1)) (w16)) ∧ (z1 (wrap i64 (x3 + 1)) (wrap i64 (x4 - 1)) w16 < z1 x3 x4 w5))))))))))))))))))))))))))))
(R (tuple (Array.mk (List.reverse []))) (w5)))))))))))
theorem ca132 (dataa : Option Addr) (datal : Nat) (datac : Nat) (a_ : Int) (b : Int) (w : World) (R : Value → World → Prop) (h : W132 dataa datal datac a_ b w R) : Ca Tryz.prog 132 ⟨[(.slice dataa datal datac), (.int .i64 a_), (.int .i64 b)]⟩ w R :=
  caB (fn := Tryz.f132) (pl := pl132) (ls := ls132) Tryz.func132 (by kernel_rfl) (by kernel_rfl) h

/-- slices.partitionOrdered[string] -/
noncomputable def C136 : Code := (Tryz.f136.body).getD .skip
def pl136 : Nat → Plan
  | 1 => (.quiet 0 (.quiet 1 (.quiet 2 (.quiet 3 (.quiet 4 (.quiet 5 (.quiet 6 (.quiet 7 (.quiet 8 (.quiet 9 (.quiet 10 (.quiet 11 (.quiet 12 (.eff 13 [] (.quiet 14 (.eff 15 [] .done))))))))))))))))
  | 3 => (.quiet 0 (.quiet 1 (.quiet 2 (.quiet 3 (.quiet 4 (.quiet 5 (.quiet 6 (.quiet 7 (.quiet 8 (.quiet 9 (.quiet 10 (.quiet 11 (.eff 12 [] (.quiet 13 .done))))))))))))))
  | 5 => (.quiet 0 (.quiet 1 (.quiet 2 (.quiet 3 (.quiet 4 (.quiet 5 (.quiet 6 (.quiet 7 (.quiet 8 (.quiet 9 (.quiet 10 (.quiet 11 (.eff 12 [] (.quiet 13 (.quiet 14 .done)))))))))))))))
  | 8 => (.quiet 0 (.quiet 1 (.quiet 2 (.quiet 3 (.quiet 4 (.quiet 5 (.quiet 6 (.quiet 7 (.quiet 8 (.quiet 9 (.quiet 10 (.quiet 11 (.quiet 12 (.eff 13 [] (.quiet 14 (.eff 15 [] .done))))))))))))))))
  | 10 => (.quiet 0 (.quiet 1 (.quiet 2 (.quiet 3 (.quiet 4 (.quiet 5 (.quiet 6 (.quiet 7 (.quiet 8 (.quiet 9 (.quiet 10 (.quiet 11 (.quiet 12 (.eff 13 [] (.quiet 14 (.eff 15 [] .done))))))))))))))))
  | 13 => (.quiet 0 (.quiet 1 (.quiet 2 (.quiet 3 (.quiet 4 (.quiet 5 (.quiet 6 (.quiet 7 (.quiet 8 (.quiet 9 (.quiet 10 (.quiet 11 (.eff 12 [] (.quiet 13 .done))))))))))))))
  | 15 => (.quiet 0 (.quiet 1 (.quiet 2 (.quiet 3 (.quiet 4 (.quiet 5 (.quiet 6 (.quiet 7 (.quiet 8 (.quiet 9 (.quiet 10 (.quiet 11 (.eff 12 [] (.quiet 13 (.quiet 14 .done)))))))))))))))
  | 18 => (.quiet 0 (.quiet 1 (.quiet 2 (.quiet 3 (.quiet 4 (.quiet 5 (.quiet 6 (.quiet 7 (.quiet 8 (.quiet 9 (.quiet 10 (.quiet 11 (.quiet 12 (.eff 13 [] (.quiet 14 (.eff 15 [] .done))))))))))))))))
  | 21 => (.quiet 0 (.quiet 1 (.quiet 2 (.quiet 3 (.quiet 4 (.quiet 5 (.quiet 6 (.quiet 7 (.quiet 8 (.quiet 9 (.quiet 10 (.quiet 11 (.quiet 12 (.eff 13 [] (.quiet 14 (.eff 15 [] .done))))))))))))))))
  | _ => .done
def ls136 : Nat → List (Nat × LT)
  | 3 => [(0, .agg []), (10, (.one (.int .i64)))]
  | 4 => [(10, (.one (.int .i64)))]
  | 7 => [(0, .agg []), (11, (.one (.int .i64)))]
  | 8 => [(11, (.one (.int .i64)))]
  | 19 => [(10, (.one (.int .i64))), (11, (.one (.int .i64)))]
  | 20 => [(0, .agg []), (10, (.one (.int .i64)))]
  | 21 => [(10, (.one (.int .i64)))]
  | 24 => [(0, .agg []), (11, (.one (.int .i64)))]
  | 25 => [(11, (.one (.int .i64)))]
  | _ => []
def W136 (dataa : Option Addr) (datal : Nat) (_datac : Nat) (a_ : Int) (b : Int) (pivot : Int) (w : World) (R : Value → World → Prop) : Prop :=
  (atW (drew w) (fun w0 =>
(∃ a1 : Addr, ((dataa = some a1) ∧ (((0 : Int) ≤ pivot) ∧ (((pivot : Int) < (↑datal : Int)) ∧ (∃ s2 : ByteArray, ((cell? w0 (add a1 (Int.toNat pivot * 1)) = some (string s2)) ∧ (∃ a3 : Addr, ((dataa = some a3) ∧ (((0 : Int) ≤ a_) ∧ (((a_ : Int) < (↑datal : Int)) ∧ (∃ s4 : ByteArray, ((cell? w0 (add a3 (Int.toNat a_ * 1)) = some (string s4)) ∧ (∃ a5 : Addr, ((dataa = some a5) ∧ (((0 : Int) ≤ a_) ∧ (((a_ : Int) < (↑datal : Int)) ∧ (st1 (add (add a5 (Int.toNat a_ * 1)) 0) (string s2) w0 (fun w7 =>
(∃ a8 : Addr, ((dataa = some a8) ∧ (((0 : Int) ≤ pivot) ∧ (((pivot : Int) < (↑datal : Int)) ∧ (st1 (add (add a8 (Int.toNat pivot * 1)) 0) (string s4) w7 (fun w10 =>
(∃ z11 : Int → World → Prop, ((∃ z12 : Int → World → Prop, (∃ z13 : Int → World → Nat, ((z12 (wrap i64 (a_ + 1)) (w10)) ∧ (∀ (_ : Nat → Value), (∀ (x15 : Int), (∀ (w16 : World), ((z12 (x15) (w16)) → (atW (drew w16) (fun w17 =>
(ifK (decide (x15 ≤ wrap i64 (b - 1)))
(∃ a18 : Addr, ((dataa = some a18) ∧ (((0 : Int) ≤ x15) ∧ (((x15 : Int) < (↑datal : Int)) ∧ (∃ s19 : ByteArray, ((cell? w17 (add a18 (Int.toNat x15 * 1)) = some (string s19)) ∧ (∃ a20 : Addr, ((dataa = some a20) ∧ (((0 : Int) ≤ a_) ∧ (((a_ : Int) < (↑datal : Int)) ∧ (∃ s21 : ByteArray, ((cell? w17 (add a20 (Int.toNat a_ * 1)) = some (string s21)) ∧ (Ca Tryz.prog (134) (Array.mk [string s19, string s21]) (w17) (fun v22 => (fun w23 =>
(∃ b24 : Bool, ((v22 = bool b24) ∧ (ifK (b24)
((z12 (wrap i64 (x15 + 1)) (w23)) ∧ (z13 (wrap i64 (x15 + 1)) w23 < z13 x15 w16))
(z11 (x15) (w23))))))))))))))))))))
(z11 (x15) (w17)))))))))))) ∧ (∀ (_ : Nat → Value), (∀ (x26 : Int), (∀ (w27 : World), ((z11 (x26) (w27)) → (∃ z28 : Int → World → Prop, ((∃ z29 : Int → World → Prop, (∃ z30 : Int → World → Nat, ((z29 (wrap i64 (b - 1)) (w27)) ∧ (∀ (_ : Nat → Value), (∀ (x32 : Int), (∀ (w33 : World), ((z29 (x32) (w33)) → (atW (drew w33) (fun w34 =>
(ifK (decide (x26 ≤ x32))
(∃ a35 : Addr, ((dataa = some a35) ∧ (((0 : Int) ≤ x32) ∧ (((x32 : Int) < (↑datal : Int)) ∧ (∃ s36 : ByteArray, ((cell? w34 (add a35 (Int.toNat x32 * 1)) = some (string s36)) ∧ (∃ a37 : Addr, ((dataa = some a37) ∧ (((0 : Int) ≤ a_) ∧ (((a_ : Int) < (↑datal : Int)) ∧ (∃ s38 : ByteArray, ((cell? w34 (add a37 (Int.toNat a_ * 1)) = some (string s38)) ∧ (Ca Tryz.prog (134) (Array.mk [string s36, string s38]) (w34) (fun v39 => (fun w40 =>
(∃ b41 : Bool, ((v39 = bool b41) ∧ (ifK (!b41)
((z29 (wrap i64 (x32 - 1)) (w40)) ∧ (z30 (wrap i64 (x32 - 1)) w40 < z30 x32 w33))
(z28 (x32) (w40))))))))))))))))))))
(z28 (x32) (w34)))))))))))) ∧ (∀ (_ : Nat → Value), (∀ (x43 : Int), (∀ (w44 : World), ((z28 (x43) (w44)) → (ifK (decide (x26 > x43))
(atW (drew w44) (fun w45 =>
(∃ a46 : Addr, ((dataa = some a46) ∧ (((0 : Int) ≤ a_) ∧ (((a_ : Int) < (↑datal : Int)) ∧ (∃ s47 : ByteArray, ((cell? w45 (add a46 (Int.toNat a_ * 1)) = some (string s47)) ∧ (∃ a48 : Addr, ((dataa = some a48) ∧ (((0 : Int) ≤ x43) ∧ (((x43 : Int) < (↑datal : Int)) ∧ (∃ s49 : ByteArray, ((cell? w45 (add a48 (Int.toNat x43 * 1)) = some (string s49)) ∧ (∃ a50 : Addr, ((dataa = some a50) ∧ (((0 : Int) ≤ x43) ∧ (((x43 : Int) < (↑datal : Int)) ∧ (st1 (add (add a50 (Int.toNat x43 * 1)) 0) (string s47) w45 (fun w52 =>
(∃ a53 : Addr, ((dataa = some a53) ∧ (((0 : Int) ≤ a_) ∧ (((a_ : Int) < (↑datal : Int)) ∧ (st1 (add (add a53 (Int.toNat a_ * 1)) 0) (string s49) w52 (fun w55 =>
(R (tuple (Array.mk [int i64 x43, bool true])) (w55))))))))))))))))))))))))))))
(atW (drew w44) (fun w56 =>
(∃ a57 : Addr, ((dataa = some a57) ∧ (((0 : Int) ≤ x43) ∧ (((x43 : Int) < (↑datal : Int)) ∧ (∃ s58 : ByteArray, ((cell? w56 (add a57 (Int.toNat x43 * 1)) = some (string s58)) ∧ (∃ a59 : Addr, ((dataa = some a59) ∧ (((0 : Int) ≤ x26) ∧ (((x26 : Int) < (↑datal : Int)) ∧ (∃ s60 : ByteArray, ((cell? w56 (add a59 (Int.toNat x26 * 1)) = some (string s60)) ∧ (∃ a61 : Addr, ((dataa = some a61) ∧ (((0 : Int) ≤ x26) ∧ (((x26 : Int) < (↑datal : Int)) ∧ (st1 (add (add a61 (Int.toNat x26 * 1)) 0) (string s58) w56 (fun w63 =>
(∃ a64 : Addr, ((dataa = some a64) ∧ (((0 : Int) ≤ x43) ∧ (((x43 : Int) < (↑datal : Int)) ∧ (st1 (add (add a64 (Int.toNat x43 * 1)) 0) (string s60) w63 (fun w66 =>
(∃ z67 : Int → Int → World → Prop, (∃ z68 : Int → Int → World → Nat, ((z67 (wrap i64 (x26 + 1)) (wrap i64 (x43 - 1)) (w66)) ∧ (∀ (_ : Nat → Value), (∀ (x70 : Int), (∀ (x71 : Int), (∀ (w72 : World), ((z67 (x70) (x71) (w72)) → (∃ z73 : Int → World → Prop, ((∃ z74 : Int → World → Prop, (∃ z75 : Int → World → Nat, ((z74 (x70) (w72)) ∧ (∀ (_ : Nat → Value), (∀ (x77 : Int), (∀ (w78 : World), ((z74 (x77) (w78)) → (atW (drew w78) (fun w79 =>
(ifK (decide (x77 ≤ x71))
(∃ a80 : Addr, ((dataa = some a80) ∧ (((0 : Int) ≤ x77) ∧ (((x77 : Int) < (↑datal : Int)) ∧ (∃ s81 : ByteArray, ((cell? w79 (add a80 (Int.toNat x77 * 1)) = some (string s81)) ∧ (∃ a82 : Addr, ((dataa = some a82) ∧ (((0 : Int) ≤ a_) ∧ (((a_ : Int) < (↑datal : Int)) ∧ (∃ s83 : ByteArray, ((cell? w79 (add a82 (Int.toNat a_ * 1)) = some (string s83)) ∧ (Ca Tryz.prog (134) (Array.mk [string s81, string s83]) (w79) (fun v84 => (fun w85 =>
(∃ b86 : Bool, ((v84 = bool b86) ∧ (ifK (b86)
((z74 (wrap i64 (x77 + 1)) (w85)) ∧ (z75 (wrap i64 (x77 + 1)) w85 < z75 x77 w78))
(z73 (x77) (w85))))))))))))))))))))
(z73 (x77) (w79)))))))))))) ∧ (∀ (_ : Nat → Value), (∀ (x88 : Int), (∀ (w89 : World), ((z73 (x88) (w89)) → (∃ z90 : Int → World → Prop, ((∃ z91 : Int → World → Prop, (∃ z92 : Int → World → Nat, ((z91 (x71) (w89)) ∧ (∀ (_ : Nat → Value), (∀ (x94 : Int), (∀ (w95 : World), ((z91 (x94) (w95)) → (atW (drew w95) (fun w96 =>
(ifK (decide (x88 ≤ x94))
(∃ a97 : Addr, ((dataa = some a97) ∧ (((0 : Int) ≤ x94) ∧ (((x94 : Int) < (↑datal : Int)) ∧ (∃ s98 : ByteArray, ((cell? w96 (add a97 (Int.toNat x94 * 1)) = some (string s98)) ∧ (∃ a99 : Addr, ((dataa = some a99) ∧ (((0 : Int) ≤ a_) ∧ (((a_ : Int) < (↑datal : Int)) ∧ (∃ s100 : ByteArray, ((cell? w96 (add a99 (Int.toNat a_ * 1)) = some (string s100)) ∧ (Ca Tryz.prog (134) (Array.mk [string s98, string s100]) (w96) (fun v101 => (fun w102 =>
(∃ b103 : Bool, ((v101 = bool b103) ∧ (ifK (!b103)
((z91 (wrap i64 (x94 - 1)) (w102)) ∧ (z92 (wrap i64 (x94 - 1)) w102 < z92 x94 w95))
(z90 (x94) (w102))))))))))))))))))))
(z90 (x94) (w96)))))))))))) ∧ (∀ (_ : Nat → Value), (∀ (x105 : Int), (∀ (w106 : World), ((z90 (x105) (w106)) → (ifK (decide (x88 > x105))
(atW (drew w106) (fun w107 =>
(∃ a108 : Addr, ((dataa = some a108) ∧ (((0 : Int) ≤ a_) ∧ (((a_ : Int) < (↑datal : Int)) ∧ (∃ s109 : ByteArray, ((cell? w107 (add a108 (Int.toNat a_ * 1)) = some (string s109)) ∧ (∃ a110 : Addr, ((dataa = some a110) ∧ (((0 : Int) ≤ x105) ∧ (((x105 : Int) < (↑datal : Int)) ∧ (∃ s111 : ByteArray, ((cell? w107 (add a110 (Int.toNat x105 * 1)) = some (string s111)) ∧ (∃ a112 : Addr, ((dataa = some a112) ∧ (((0 : Int) ≤ x105) ∧ (((x105 : Int) < (↑datal : Int)) ∧ (st1 (add (add a112 (Int.toNat x105 * 1)) 0) (string s109) w107 (fun w114 =>
(∃ a115 : Addr, ((dataa = some a115) ∧ (((0 : Int) ≤ a_) ∧ (((a_ : Int) < (↑datal : Int)) ∧ (st1 (add (add a115 (Int.toNat a_ * 1)) 0) (string s111) w114 (fun w117 =>
(R (tuple (Array.mk [int i64 x105, bool false])) (w117))))))))))))))))))))))))))))
(atW (drew w106) (fun w118 =>
(∃ a119 : Addr, ((dataa = some a119) ∧ (((0 : Int) ≤ x105) ∧ (((x105 : Int) < (↑datal : Int)) ∧ (∃ s120 : ByteArray, ((cell? w118 (add a119 (Int.toNat x105 * 1)) = some (string s120)) ∧ (∃ a121 : Addr, ((dataa = some a121) ∧ (((0 : Int) ≤ x88) ∧ (((x88 : Int) < (↑datal : Int)) ∧ (∃ s122 : ByteArray, ((cell? w118 (add a121 (Int.toNat x88 * 1)) = some (string s122)) ∧ (∃ a123 : Addr, ((dataa = some a123) ∧ (((0 : Int) ≤ x88) ∧ (((x88 : Int) < (↑datal : Int)) ∧ (st1 (add (add a123 (Int.toNat x88 * 1)) 0) (string s120) w118 (fun w125 =>
(∃ a126 : Addr, ((dataa = some a126) ∧ (((0 : Int) ≤ x105) ∧ (((x105 : Int) < (↑datal : Int)) ∧ (st1 (add (add a126 (Int.toNat x105 * 1)) 0) (string s122) w125 (fun w128 =>
((z67 (wrap i64 (x88 + 1)) (wrap i64 (x105 - 1)) (w128)) ∧ (z68 (wrap i64 (x88 + 1)) (wrap i64 (x105 - 1)) w128 < z68 x70 x71 w72))))))))))))))))))))))))))))))))))))))))))))))))))))))))))))))))))))))))))))))))))))))))))))))))))))))))))))))))))
theorem ca136 (dataa : Option Addr) (datal : Nat) (datac : Nat) (a_ : Int) (b : Int) (pivot : Int) (w : World) (R : Value → World → Prop) (h : W136 dataa datal datac a_ b pivot w R) : Ca Tryz.prog 136 ⟨[(.slice dataa datal datac), (.int .i64 a_), (.int .i64 b), (.int .i64 pivot)]⟩ w R :=
  caB (fn := Tryz.f136) (pl := pl136) (ls := ls136) Tryz.func136 (by kernel_rfl) (by kernel_rfl) h

/-- slices.partitionEqualOrdered[string] -/
noncomputable def C135 : Code := (Tryz.f135.body).getD .skip
def pl135 : Nat → Plan
  | 1 => (.quiet 0 (.quiet 1 (.quiet 2 (.quiet 3 (.quiet 4 (.quiet 5 (.quiet 6 (.quiet 7 (.quiet 8 (.quiet 9 (.quiet 10 (.quiet 11 (.quiet 12 (.eff 13 [] (.quiet 14 (.eff 15 [] .done))))))))))))))))
  | 3 => (.quiet 0 (.quiet 1 (.quiet 2 (.quiet 3 (.quiet 4 (.quiet 5 (.quiet 6 (.quiet 7 (.quiet 8 (.quiet 9 (.quiet 10 (.quiet 11 (.eff 12 [] (.quiet 13 (.quiet 14 .done)))))))))))))))
  | 5 => (.quiet 0 (.quiet 1 (.quiet 2 (.quiet 3 (.quiet 4 (.quiet 5 (.quiet 6 (.quiet 7 (.quiet 8 (.quiet 9 (.quiet 10 (.quiet 11 (.eff 12 [] (.quiet 13 .done))))))))))))))
  | 8 => (.quiet 0 (.quiet 1 (.quiet 2 (.quiet 3 (.quiet 4 (.quiet 5 (.quiet 6 (.quiet 7 (.quiet 8 (.quiet 9 (.quiet 10 (.quiet 11 (.quiet 12 (.eff 13 [] (.quiet 14 (.eff 15 [] .done))))))))))))))))
  | _ => .done
def ls135 : Nat → List (Nat × LT)
  | 4 => [(9, (.one (.int .i64))), (10, (.one (.int .i64)))]
  | 5 => [(0, .agg []), (9, (.one (.int .i64)))]
  | 6 => [(9, (.one (.int .i64)))]
  | 9 => [(0, .agg []), (10, (.one (.int .i64)))]
  | 10 => [(10, (.one (.int .i64)))]
  | _ => []
def W135 (dataa : Option Addr) (datal : Nat) (_datac : Nat) (a_ : Int) (b : Int) (pivot : Int) (w : World) (R : Value → World → Prop) : Prop :=
  (atW (drew w) (fun w0 =>
(∃ a1 : Addr, ((dataa = some a1) ∧ (((0 : Int) ≤ pivot) ∧ (((pivot : Int) < (↑datal : Int)) ∧ (∃ s2 : ByteArray, ((cell? w0 (add a1 (Int.toNat pivot * 1)) = some (string s2)) ∧ (∃ a3 : Addr, ((dataa = some a3) ∧ (((0 : Int) ≤ a_) ∧ (((a_ : Int) < (↑datal : Int)) ∧ (∃ s4 : ByteArray, ((cell? w0 (add a3 (Int.toNat a_ * 1)) = some (string s4)) ∧ (∃ a5 : Addr, ((dataa = some a5) ∧ (((0 : Int) ≤ a_) ∧ (((a_ : Int) < (↑datal : Int)) ∧ (st1 (add (add a5 (Int.toNat a_ * 1)) 0) (string s2) w0 (fun w7 =>
(∃ a8 : Addr, ((dataa = some a8) ∧ (((0 : Int) ≤ pivot) ∧ (((pivot : Int) < (↑datal : Int)) ∧ (st1 (add (add a8 (Int.toNat pivot * 1)) 0) (string s4) w7 (fun w10 =>
(∃ z11 : Int → Int → World → Prop, (∃ z12 : Int → Int → World → Nat, ((z11 (wrap i64 (a_ + 1)) (wrap i64 (b - 1)) (w10)) ∧ (∀ (_ : Nat → Value), (∀ (x14 : Int), (∀ (x15 : Int), (∀ (w16 : World), ((z11 (x14) (x15) (w16)) → (∃ z17 : Int → World → Prop, ((∃ z18 : Int → World → Prop, (∃ z19 : Int → World → Nat, ((z18 (x14) (w16)) ∧ (∀ (_ : Nat → Value), (∀ (x21 : Int), (∀ (w22 : World), ((z18 (x21) (w22)) → (atW (drew w22) (fun w23 =>
(ifK (decide (x21 ≤ x15))
(∃ a24 : Addr, ((dataa = some a24) ∧ (((0 : Int) ≤ a_) ∧ (((a_ : Int) < (↑datal : Int)) ∧ (∃ s25 : ByteArray, ((cell? w23 (add a24 (Int.toNat a_ * 1)) = some (string s25)) ∧ (∃ a26 : Addr, ((dataa = some a26) ∧ (((0 : Int) ≤ x21) ∧ (((x21 : Int) < (↑datal : Int)) ∧ (∃ s27 : ByteArray, ((cell? w23 (add a26 (Int.toNat x21 * 1)) = some (string s27)) ∧ (Ca Tryz.prog (134) (Array.mk [string s25, string s27]) (w23) (fun v28 => (fun w29 =>
(∃ b30 : Bool, ((v28 = bool b30) ∧ (ifK (!b30)
((z18 (wrap i64 (x21 + 1)) (w29)) ∧ (z19 (wrap i64 (x21 + 1)) w29 < z19 x21 w22))
(z17 (x21) (w29))))))))))))))))))))
(z17 (x21) (w23)))))))))))) ∧ (∀ (_ : Nat → Value), (∀ (x32 : Int), (∀ (w33 : World), ((z17 (x32) (w33)) → (∃ z34 : Int → World → Prop, ((∃ z35 : Int → World → Prop, (∃ z36 : Int → World → Nat, ((z35 (x15) (w33)) ∧ (∀ (_ : Nat → Value), (∀ (x38 : Int), (∀ (w39 : World), ((z35 (x38) (w39)) → (atW (drew w39) (fun w40 =>
(ifK (decide (x32 ≤ x38))
(∃ a41 : Addr, ((dataa = some a41) ∧ (((0 : Int) ≤ a_) ∧ (((a_ : Int) < (↑datal : Int)) ∧ (∃ s42 : ByteArray, ((cell? w40 (add a41 (Int.toNat a_ * 1)) = some (string s42)) ∧ (∃ a43 : Addr, ((dataa = some a43) ∧ (((0 : Int) ≤ x38) ∧ (((x38 : Int) < (↑datal : Int)) ∧ (∃ s44 : ByteArray, ((cell? w40 (add a43 (Int.toNat x38 * 1)) = some (string s44)) ∧ (Ca Tryz.prog (134) (Array.mk [string s42, string s44]) (w40) (fun v45 => (fun w46 =>
(∃ b47 : Bool, ((v45 = bool b47) ∧ (ifK (b47)
((z35 (wrap i64 (x38 - 1)) (w46)) ∧ (z36 (wrap i64 (x38 - 1)) w46 < z36 x38 w39))
(z34 (x38) (w46))))))))))))))))))))
(z34 (x38) (w40)))))))))))) ∧ (∀ (_ : Nat → Value), (∀ (x49 : Int), (∀ (w50 : World), ((z34 (x49) (w50)) → (ifK (decide (x32 > x49))
(R (int i64 x32) (w50))
(atW (drew w50) (fun w51 =>
(∃ a52 : Addr, ((dataa = some a52) ∧ (((0 : Int) ≤ x49) ∧ (((x49 : Int) < (↑datal : Int)) ∧ (∃ s53 : ByteArray, ((cell? w51 (add a52 (Int.toNat x49 * 1)) = some (string s53)) ∧ (∃ a54 : Addr, ((dataa = some a54) ∧ (((0 : Int) ≤ x32) ∧ (((x32 : Int) < (↑datal : Int)) ∧ (∃ s55 : ByteArray, ((cell? w51 (add a54 (Int.toNat x32 * 1)) = some (string s55)) ∧ (∃ a56 : Addr, ((dataa = some a56) ∧ (((0 : Int) ≤ x32) ∧ (((x32 : Int) < (↑datal : Int)) ∧ (st1 (add (add a56 (Int.toNat x32 * 1)) 0) (string s53) w51 (fun w58 =>
(∃ a59 : Addr, ((dataa = some a59) ∧ (((0 : Int) ≤ x49) ∧ (((x49 : Int) < (↑datal : Int)) ∧ (st1 (add (add a59 (Int.toNat x49 * 1)) 0) (string s55) w58 (fun w61 =>
((z11 (wrap i64 (x32 + 1)) (wrap i64 (x49 - 1)) (w61)) ∧ (z12 (wrap i64 (x32 + 1)) (wrap i64 (x49 - 1)) w61 < z12 x14 x15 w16)))))))))))))))))))))))))))))))))))))))))))))))))))))))))))))))))))))))))))
theorem ca135 (dataa : Option Addr) (datal : Nat) (datac : Nat) (a_ : Int) (b : Int) (pivot : Int) (w : World) (R : Value → World → Prop) (h : W135 dataa datal datac a_ b pivot w R) : Ca Tryz.prog 135 ⟨[(.slice dataa datal datac), (.int .i64 a_), (.int .i64 b), (.int .i64 pivot)]⟩ w R :=
  caB (fn := Tryz.f135) (pl := pl135) (ls := ls135) Tryz.func135 (by kernel_rfl) (by kernel_rfl) h

/-- slices.siftDownOrdered[string] -/
noncomputable def C147 : Code := (Tryz.f147.body).getD .skip
def pl147 : Nat → Plan
  | 3 => (.quiet 0 (.quiet 1 (.quiet 2 (.quiet 3 (.quiet 4 (.quiet 5 (.quiet 6 (.quiet 7 (.quiet 8 (.quiet 9 (.quiet 10 (.quiet 11 (.quiet 12 (.quiet 13 (.quiet 14 (.quiet 15 (.quiet 16 (.quiet 17 (.eff 18 [] (.quiet 19 .done))))))))))))))))))))
  | 5 => (.quiet 0 (.quiet 1 (.quiet 2 (.quiet 3 (.quiet 4 (.quiet 5 (.quiet 6 (.quiet 7 (.quiet 8 (.quiet 9 (.quiet 10 (.quiet 11 (.eff 12 [] (.quiet 13 .done))))))))))))))
  | 6 => (.quiet 0 (.quiet 1 (.quiet 2 (.quiet 3 (.quiet 4 (.quiet 5 (.quiet 6 (.quiet 7 (.quiet 8 (.quiet 9 (.quiet 10 (.quiet 11 (.quiet 12 (.quiet 13 (.quiet 14 (.quiet 15 (.quiet 16 (.quiet 17 (.quiet 18 (.quiet 19 (.quiet 20 (.eff 21 [] (.quiet 22 (.eff 23 [] .done))))))))))))))))))))))))
  | _ => .done
def ls147 : Nat → List (Nat × LT)
  | 1 => [(8, (.one (.int .i64)))]
  | 5 => [(0, .agg []), (9, (.one (.int .i64)))]
  | _ => []
def W147 (dataa : Option Addr) (datal : Nat) (_datac : Nat) (lo : Int) (hi : Int) (first : Int) (w : World) (R : Value → World → Prop) : Prop :=
  (∃ z0 : Int → World → Prop, (∃ z1 : Int → World → Nat, ((z0 (lo) (w)) ∧ (∀ (_ : Nat → Value), (∀ (x3 : Int), (∀ (w4 : World), ((z0 (x3) (w4)) → (ifK (decide (wrap i64 (wrap i64 (2 * x3) + 1) ≥ hi))
(R (tuple (Array.mk (List.reverse []))) (w4))
(∃ z5 : Int → World → Prop, ((atW (drew w4) (fun w6 =>
(ifK (decide (wrap i64 (wrap i64 (wrap i64 (2 * x3) + 1) + 1) < hi))
(∃ a7 : Addr, ((dataa = some a7) ∧ (((0 : Int) ≤ wrap i64 (first + wrap i64 (wrap i64 (2 * x3) + 1))) ∧ (((wrap i64 (first + wrap i64 (wrap i64 (2 * x3) + 1)) : Int) < (↑datal : Int)) ∧ (∃ s8 : ByteArray, ((cell? w6 (add a7 (Int.toNat (wrap i64 (first + wrap i64 (wrap i64 (2 * x3) + 1))) * 1)) = some (string s8)) ∧ (∃ a9 : Addr, ((dataa = some a9) ∧ (((0 : Int) ≤ wrap i64 (wrap i64 (first + wrap i64 (wrap i64 (2 * x3) + 1)) + 1)) ∧ (((wrap i64 (wrap i64 (first + wrap i64 (wrap i64 (2 * x3) + 1)) + 1) : Int) < (↑datal : Int)) ∧ (∃ s10 : ByteArray, ((cell? w6 (add a9 (Int.toNat (wrap i64 (wrap i64 (first + wrap i64 (wrap i64 (2 * x3) + 1)) + 1)) * 1)) = some (string s10)) ∧ (Ca Tryz.prog (134) (Array.mk [string s8, string s10]) (w6) (fun v11 => (fun w12 =>
(∃ b13 : Bool, ((v11 = bool b13) ∧ (ifK (b13)
(z5 (wrap i64 (wrap i64 (wrap i64 (2 * x3) + 1) + 1)) (w12))
(z5 (wrap i64 (wrap i64 (2 * x3) + 1)) (w12))))))))))))))))))))
(z5 (wrap i64 (wrap i64 (2 * x3) + 1)) (w6))))) ∧ (∀ (_ : Nat → Value), (∀ (x15 : Int), (∀ (w16 : World), ((z5 (x15) (w16)) → (atW (drew w16) (fun w17 =>
(∃ a18 : Addr, ((dataa = some a18) ∧ (((0 : Int) ≤ wrap i64 (first + x3)) ∧ (((wrap i64 (first + x3) : Int) < (↑datal : Int)) ∧ (∃ s19 : ByteArray, ((cell? w17 (add a18 (Int.toNat (wrap i64 (first + x3)) * 1)) = some (string s19)) ∧ (∃ a20 : Addr, ((dataa = some a20) ∧ (((0 : Int) ≤ wrap i64 (first + x15)) ∧ (((wrap i64 (first + x15) : Int) < (↑datal : Int)) ∧ (∃ s21 : ByteArray, ((cell? w17 (add a20 (Int.toNat (wrap i64 (first + x15)) * 1)) = some (string s21)) ∧ (Ca Tryz.prog (134) (Array.mk [string s19, string s21]) (w17) (fun v22 => (fun w23 =>
(∃ b24 : Bool, ((v22 = bool b24) ∧ (ifK (!b24)
(R (tuple (Array.mk (List.reverse []))) (w23))
(atW (drew w23) (fun w25 =>
(∃ a26 : Addr, ((dataa = some a26) ∧ (((0 : Int) ≤ wrap i64 (first + x15)) ∧ (((wrap i64 (first + x15) : Int) < (↑datal : Int)) ∧ (∃ s27 : ByteArray, ((cell? w25 (add a26 (Int.toNat (wrap i64 (first + x15)) * 1)) = some (string s27)) ∧ (∃ a28 : Addr, ((dataa = some a28) ∧ (((0 : Int) ≤ wrap i64 (first + x3)) ∧ (((wrap i64 (first + x3) : Int) < (↑datal : Int)) ∧ (∃ s29 : ByteArray, ((cell? w25 (add a28 (Int.toNat (wrap i64 (first + x3)) * 1)) = some (string s29)) ∧ (∃ a30 : Addr, ((dataa = some a30) ∧ (((0 : Int) ≤ wrap i64 (first + x3)) ∧ (((wrap i64 (first + x3) : Int) < (↑datal : Int)) ∧ (st1 (add (add a30 (Int.toNat (wrap i64 (first + x3)) * 1)) 0) (string s27) w25 (fun w32 =>
(∃ a33 : Addr, ((dataa = some a33) ∧ (((0 : Int) ≤ wrap i64 (first + x15)) ∧ (((wrap i64 (first + x15) : Int) < (↑datal : Int)) ∧ (st1 (add (add a33 (Int.toNat (wrap i64 (first + x15)) * 1)) 0) (string s29) w32 (fun w35 =>
((z0 (x15) (w35)) ∧ (z1 x15 w35 < z1 x3 w4))))))))))))))))))))))))))))))))))))))))))))))))))))))))))))))
theorem ca147 (dataa : Option Addr) (datal : Nat) (datac : Nat) (lo : Int) (hi : Int) (first : Int) (w : World) (R : Value → World → Prop) (h : W147 dataa datal datac lo hi first w R) : Ca Tryz.prog 147 ⟨[(.slice dataa datal datac), (.int .i64 lo), (.int .i64 hi), (.int .i64 first)]⟩ w R :=
  caB (fn := Tryz.f147) (pl := pl147) (ls := ls147) Tryz.func147 (by kernel_rfl) (by kernel_rfl) h

/-- slices.heapSortOrdered[string] -/
noncomputable def C129 : Code := (Tryz.f129.body).getD .skip
def pl129 : Nat → Plan
  | 10 => (.quiet 0 (.quiet 1 (.quiet 2 (.quiet 3 (.quiet 4 (.quiet 5 (.quiet 6 (.quiet 7 (.quiet 8 (.quiet 9 (.quiet 10 (.quiet 11 (.quiet 12 (.quiet 13 (.quiet 14 (.quiet 15 (.quiet 16 (.eff 17 [] (.quiet 18 (.eff 19 [] .done))))))))))))))))))))
  | _ => .done
def ls129 : Nat → List (Nat × LT)
  | 5 => [(9, (.one (.int .i64)))]
  | 10 => [(10, (.one (.int .i64)))]
  | _ => []
def W129 (dataa : Option Addr) (datal : Nat) (datac : Nat) (a_ : Int) (b : Int) (w : World) (R : Value → World → Prop) : Prop :=
  (((2 : Int) ≠ 0) ∧ (∃ z0 : Int → World → Prop, (∃ z1 : Int → World → Nat, ((z0 (wrap i64 (Int.tdiv (wrap i64 (wrap i64 (b - a_) - 1)) 2)) (w)) ∧ (∀ (_ : Nat → Value), (∀ (x3 : Int), (∀ (w4 : World), ((z0 (x3) (w4)) → (ifK (decide (x3 ≥ 0))
(Ca Tryz.prog (147) (Array.mk [slice dataa datal datac, int i64 x3, int i64 (wrap i64 (b - a_)), int i64 a_]) (w4) (fun v5 => (fun w6 =>
((v5 = tuple (Array.mk (List.reverse []))) ∧ ((z0 (wrap i64 (x3 - 1)) (w6)) ∧ (z1 (wrap i64 (x3 - 1)) w6 < z1 x3 w4))))))
(∃ z7 : Int → World → Prop, (∃ z8 : Int → World → Nat, ((z7 (wrap i64 (wrap i64 (b - a_) - 1)) (w4)) ∧ (∀ (_ : Nat → Value), (∀ (x10 : Int), (∀ (w11 : World), ((z7 (x10) (w11)) → (ifK (decide (x10 ≥ 0))
(atW (drew w11) (fun w12 =>
(∃ a13 : Addr, ((dataa = some a13) ∧ (((0 : Int) ≤ wrap i64 (a_ + x10)) ∧ (((wrap i64 (a_ + x10) : Int) < (↑datal : Int)) ∧ (∃ s14 : ByteArray, ((cell? w12 (add a13 (Int.toNat (wrap i64 (a_ + x10)) * 1)) = some (string s14)) ∧ (∃ a15 : Addr, ((dataa = some a15) ∧ (((0 : Int) ≤ a_) ∧ (((a_ : Int) < (↑datal : Int)) ∧ (∃ s16 : ByteArray, ((cell? w12 (add a15 (Int.toNat a_ * 1)) = some (string s16)) ∧ (∃ a17 : Addr, ((dataa = some a17) ∧ (((0 : Int) ≤ a_) ∧ (((a_ : Int) < (↑datal : Int)) ∧ (st1 (add (add a17 (Int.toNat a_ * 1)) 0) (string s14) w12 (fun w19 =>
(∃ a20 : Addr, ((dataa = some a20) ∧ (((0 : Int) ≤ wrap i64 (a_ + x10)) ∧ (((wrap i64 (a_ + x10) : Int) < (↑datal : Int)) ∧ (st1 (add (add a20 (Int.toNat (wrap i64 (a_ + x10)) * 1)) 0) (string s16) w19 (fun w22 =>
(Ca Tryz.prog (147) (Array.mk [slice dataa datal datac, int i64 0, int i64 x10, int i64 a_]) (w22) (fun v23 => (fun w24 =>
((v23 = tuple (Array.mk (List.reverse []))) ∧ ((z7 (wrap i64 (x10 - 1)) (w24)) ∧ (z8 (wrap i64 (x10 - 1)) w24 < z8 x10 w11))))))))))))))))))))))))))))))))
(R (tuple (Array.mk (List.reverse []))) (w11)))))))))))))))))))
theorem ca129 (dataa : Option Addr) (datal : Nat) (datac : Nat) (a_ : Int) (b : Int) (w : World) (R : Value → World → Prop) (h : W129 dataa datal datac a_ b w R) : Ca Tryz.prog 129 ⟨[(.slice dataa datal datac), (.int .i64 a_), (.int .i64 b)]⟩ w R :=
  caB (fn := Tryz.f129) (pl := pl129) (ls := ls129) Tryz.func129 (by kernel_rfl) (by kernel_rfl) h

/-- slices.breakPatternsOrdered[string] -/
noncomputable def C130 : Code := (Tryz.f130.body).getD .skip
def pl130 : Nat → Plan
  | 10 => (.quiet 0 (.quiet 1 (.quiet 2 (.quiet 3 (.quiet 4 (.quiet 5 (.quiet 6 (.quiet 7 (.quiet 8 (.quiet 9 (.quiet 10 (.quiet 11 (.quiet 12 (.quiet 13 (.quiet 14 (.quiet 15 (.quiet 16 (.eff 17 [] (.quiet 18 (.eff 19 [] .done))))))))))))))))))))
  | _ => .done
def ls130 : Nat → List (Nat × LT)
  | 5 => [(9, (.one (.int .i64)))]
  | 10 => [(0, .agg []), (10, (.one (.int .i64)))]
  | _ => []
def W130 (dataa : Option Addr) (datal : Nat) (_datac : Nat) (a_ : Int) (b : Int) (w : World) (R : Value → World → Prop) : Prop :=
  (ifK (decide (wrap i64 (b - a_) ≥ 8))
(atW (alloc w (cells (Array.mk [int u64 0]) 151 (0, 0))) (fun w0 =>
(st1 (add (nw w) 0) (int u64 (wrap u64 (wrap i64 (b - a_)))) w0 (fun w2 =>
(Ca Tryz.prog (140) (Array.mk [int i64 (wrap i64 (b - a_))]) (w2) (fun v3 => (fun w4 =>
(∃ x5 : Int, ((v3 = int u64 x5) ∧ (((4 : Int) ≠ 0) ∧ (∃ z6 : Int → World → Prop, (∃ z7 : Int → World → Nat, ((z6 (wrap i64 (wrap i64 (a_ + wrap i64 (wrap i64 (Int.tdiv (wrap i64 (b - a_)) 4) * 2)) - 1)) (w4)) ∧ (∀ (_ : Nat → Value), (∀ (x9 : Int), (∀ (w10 : World), ((z6 (x9) (w10)) → (((4 : Int) ≠ 0) ∧ (ifK (decide (x9 ≤ wrap i64 (wrap i64 (a_ + wrap i64 (wrap i64 (Int.tdiv (wrap i64 (b - a_)) 4) * 2)) + 1)))
(Ca Tryz.prog (141) (Array.mk [pointer (some (nw w))]) (w10) (fun v11 => (fun w12 =>
(∃ x13 : Int, ((v11 = int u64 x13) ∧ (∃ z14 : Int → World → Prop, ((ifK (decide (wrap i64 (wrap u64 (↑(BitVec.toNat (BitVec.ofInt 64 x13 &&& BitVec.ofInt 64 (wrap u64 (x5 - 1)))) : Int)) ≥ wrap i64 (b - a_)))
(z14 (wrap i64 (wrap i64 (wrap u64 (↑(BitVec.toNat (BitVec.ofInt 64 x13 &&& BitVec.ofInt 64 (wrap u64 (x5 - 1)))) : Int)) - wrap i64 (b - a_))) (w12))
(z14 (wrap i64 (wrap u64 (↑(BitVec.toNat (BitVec.ofInt 64 x13 &&& BitVec.ofInt 64 (wrap u64 (x5 - 1)))) : Int))) (w12))) ∧ (∀ (_ : Nat → Value), (∀ (x16 : Int), (∀ (w17 : World), ((z14 (x16) (w17)) → (atW (drew w17) (fun w18 =>
(∃ a19 : Addr, ((dataa = some a19) ∧ (((0 : Int) ≤ wrap i64 (a_ + x16)) ∧ (((wrap i64 (a_ + x16) : Int) < (↑datal : Int)) ∧ (∃ s20 : ByteArray, ((cell? w18 (add a19 (Int.toNat (wrap i64 (a_ + x16)) * 1)) = some (string s20)) ∧ (∃ a21 : Addr, ((dataa = some a21) ∧ (((0 : Int) ≤ x9) ∧ (((x9 : Int) < (↑datal : Int)) ∧ (∃ s22 : ByteArray, ((cell? w18 (add a21 (Int.toNat x9 * 1)) = some (string s22)) ∧ (∃ a23 : Addr, ((dataa = some a23) ∧ (((0 : Int) ≤ x9) ∧ (((x9 : Int) < (↑datal : Int)) ∧ (st1 (add (add a23 (Int.toNat x9 * 1)) 0) (string s20) w18 (fun w25 =>
(∃ a26 : Addr, ((dataa = some a26) ∧ (((0 : Int) ≤ wrap i64 (a_ + x16)) ∧ (((wrap i64 (a_ + x16) : Int) < (↑datal : Int)) ∧ (st1 (add (add a26 (Int.toNat (wrap i64 (a_ + x16)) * 1)) 0) (string s22) w25 (fun w28 =>
((z6 (wrap i64 (x9 + 1)) (w28)) ∧ (z7 (wrap i64 (x9 + 1)) w28 < z7 x9 w10)))))))))))))))))))))))))))))))))))))))
(R (tuple (Array.mk (List.reverse []))) (w10)))))))))))))))))))))
(R (tuple (Array.mk (List.reverse []))) (w)))
theorem ca130 (dataa : Option Addr) (datal : Nat) (datac : Nat) (a_ : Int) (b : Int) (w : World) (R : Value → World → Prop) (h : W130 dataa datal datac a_ b w R) : Ca Tryz.prog 130 ⟨[(.slice dataa datal datac), (.int .i64 a_), (.int .i64 b)]⟩ w R :=
  caB (fn := Tryz.f130) (pl := pl130) (ls := ls130) Tryz.func130 (by kernel_rfl) (by kernel_rfl) h

/-- slices.partialInsertionSortOrdered[string] -/
noncomputable def C133 : Code := (Tryz.f133.body).getD .skip
def pl133 : Nat → Plan
  | 5 => (.quiet 0 (.quiet 1 (.quiet 2 (.quiet 3 (.quiet 4 (.quiet 5 (.quiet 6 (.quiet 7 (.quiet 8 (.quiet 9 (.quiet 10 (.quiet 11 (.quiet 12 (.eff 13 [] (.quiet 14 (.quiet 15 .done))))))))))))))))
  | 11 => (.quiet 0 (.quiet 1 (.quiet 2 (.quiet 3 (.quiet 4 (.quiet 5 (.quiet 6 (.quiet 7 (.quiet 8 (.quiet 9 (.quiet 10 (.quiet 11 (.quiet 12 (.quiet 13 (.quiet 14 (.eff 15 [] (.quiet 16 (.eff 17 [] .done))))))))))))))))))
  | 16 => (.quiet 0 (.quiet 1 (.quiet 2 (.quiet 3 (.quiet 4 (.quiet 5 (.quiet 6 (.quiet 7 (.quiet 8 (.eff 9 [] (.quiet 10 .done)))))))))))
  | 17 => (.quiet 0 (.quiet 1 (.quiet 2 (.quiet 3 (.quiet 4 (.quiet 5 (.quiet 6 (.quiet 7 (.quiet 8 (.quiet 9 (.quiet 10 (.quiet 11 (.quiet 12 (.quiet 13 (.quiet 14 (.eff 15 [] (.quiet 16 (.eff 17 [] .done))))))))))))))))))
  | 22 => (.quiet 0 (.quiet 1 (.quiet 2 (.quiet 3 (.quiet 4 (.quiet 5 (.quiet 6 (.quiet 7 (.quiet 8 (.eff 9 [] (.quiet 10 .done)))))))))))
  | 23 => (.quiet 0 (.quiet 1 (.quiet 2 (.quiet 3 (.quiet 4 (.quiet 5 (.quiet 6 (.quiet 7 (.quiet 8 (.quiet 9 (.quiet 10 (.quiet 11 (.quiet 12 (.quiet 13 (.quiet 14 (.eff 15 [] (.quiet 16 (.eff 17 [] .done))))))))))))))))))
  | _ => .done
def ls133 : Nat → List (Nat × LT)
  | 4 => [(7, (.one (.int .i64))), (8, (.one (.int .i64)))]
  | 8 => [(0, .agg []), (7, (.one (.int .i64)))]
  | 9 => [(7, (.one (.int .i64)))]
  | 19 => [(0, .agg [])]
  | 22 => [(9, (.one (.int .i64)))]
  | 30 => [(10, (.one (.int .i64)))]
  | _ => []
def W133 (dataa : Option Addr) (datal : Nat) (_datac : Nat) (a_ : Int) (b : Int) (w : World) (R : Value → World → Prop) : Prop :=
  (∃ z0 : Int → Int → World → Prop, (∃ z1 : Int → Int → World → Nat, ((z0 (wrap i64 (a_ + 1)) (0) (w)) ∧ (∀ (_ : Nat → Value), (∀ (x3 : Int), (∀ (x4 : Int), (∀ (w5 : World), ((z0 (x3) (x4) (w5)) → (ifK (decide (x4 < 5))
(∃ z6 : Int → World → Prop, ((∃ z7 : Int → World → Prop, (∃ z8 : Int → World → Nat, ((z7 (x3) (w5)) ∧ (∀ (_ : Nat → Value), (∀ (x10 : Int), (∀ (w11 : World), ((z7 (x10) (w11)) → (atW (drew w11) (fun w12 =>
(ifK (decide (x10 < b))
(∃ a13 : Addr, ((dataa = some a13) ∧ (((0 : Int) ≤ x10) ∧ (((x10 : Int) < (↑datal : Int)) ∧ (∃ s14 : ByteArray, ((cell? w12 (add a13 (Int.toNat x10 * 1)) = some (string s14)) ∧ (∃ a15 : Addr, ((dataa = some a15) ∧ (((0 : Int) ≤ wrap i64 (x10 - 1)) ∧ (((wrap i64 (x10 - 1) : Int) < (↑datal : Int)) ∧ (∃ s16 : ByteArray, ((cell? w12 (add a15 (Int.toNat (wrap i64 (x10 - 1)) * 1)) = some (string s16)) ∧ (Ca Tryz.prog (134) (Array.mk [string s14, string s16]) (w12) (fun v17 => (fun w18 =>
(∃ b19 : Bool, ((v17 = bool b19) ∧ (ifK (!b19)
((z7 (wrap i64 (x10 + 1)) (w18)) ∧ (z8 (wrap i64 (x10 + 1)) w18 < z8 x10 w11))
(z6 (x10) (w18))))))))))))))))))))
(z6 (x10) (w12)))))))))))) ∧ (∀ (_ : Nat → Value), (∀ (x21 : Int), (∀ (w22 : World), ((z6 (x21) (w22)) → (ifK (x21 == b)
(R (bool true) (w22))
(ifK (decide (wrap i64 (b - a_) < 50))
(R (bool false) (w22))
(atW (drew w22) (fun w23 =>
(∃ a24 : Addr, ((dataa = some a24) ∧ (((0 : Int) ≤ wrap i64 (x21 - 1)) ∧ (((wrap i64 (x21 - 1) : Int) < (↑datal : Int)) ∧ (∃ s25 : ByteArray, ((cell? w23 (add a24 (Int.toNat (wrap i64 (x21 - 1)) * 1)) = some (string s25)) ∧ (∃ a26 : Addr, ((dataa = some a26) ∧ (((0 : Int) ≤ x21) ∧ (((x21 : Int) < (↑datal : Int)) ∧ (∃ s27 : ByteArray, ((cell? w23 (add a26 (Int.toNat x21 * 1)) = some (string s27)) ∧ (∃ a28 : Addr, ((dataa = some a28) ∧ (((0 : Int) ≤ x21) ∧ (((x21 : Int) < (↑datal : Int)) ∧ (st1 (add (add a28 (Int.toNat x21 * 1)) 0) (string s25) w23 (fun w30 =>
(∃ a31 : Addr, ((dataa = some a31) ∧ (((0 : Int) ≤ wrap i64 (x21 - 1)) ∧ (((wrap i64 (x21 - 1) : Int) < (↑datal : Int)) ∧ (st1 (add (add a31 (Int.toNat (wrap i64 (x21 - 1)) * 1)) 0) (string s27) w30 (fun w33 =>
(∃ z34 : World → Prop, ((ifK (decide (wrap i64 (x21 - a_) ≥ 2))
(∃ z35 : Int → World → Prop, (∃ z36 : Int → World → Nat, ((z35 (wrap i64 (x21 - 1)) (w33)) ∧ (∀ (_ : Nat → Value), (∀ (x38 : Int), (∀ (w39 : World), ((z35 (x38) (w39)) → (ifK (decide (x38 ≥ 1))
(atW (drew w39) (fun w40 =>
(∃ a41 : Addr, ((dataa = some a41) ∧ (((0 : Int) ≤ x38) ∧ (((x38 : Int) < (↑datal : Int)) ∧ (∃ s42 : ByteArray, ((cell? w40 (add a41 (Int.toNat x38 * 1)) = some (string s42)) ∧ (∃ a43 : Addr, ((dataa = some a43) ∧ (((0 : Int) ≤ wrap i64 (x38 - 1)) ∧ (((wrap i64 (x38 - 1) : Int) < (↑datal : Int)) ∧ (∃ s44 : ByteArray, ((cell? w40 (add a43 (Int.toNat (wrap i64 (x38 - 1)) * 1)) = some (string s44)) ∧ (Ca Tryz.prog (134) (Array.mk [string s42, string s44]) (w40) (fun v45 => (fun w46 =>
(∃ b47 : Bool, ((v45 = bool b47) ∧ (ifK (!b47)
(z34 (w46))
(atW (drew w46) (fun w48 =>
(∃ a49 : Addr, ((dataa = some a49) ∧ (((0 : Int) ≤ wrap i64 (x38 - 1)) ∧ (((wrap i64 (x38 - 1) : Int) < (↑datal : Int)) ∧ (∃ s50 : ByteArray, ((cell? w48 (add a49 (Int.toNat (wrap i64 (x38 - 1)) * 1)) = some (string s50)) ∧ (∃ a51 : Addr, ((dataa = some a51) ∧ (((0 : Int) ≤ x38) ∧ (((x38 : Int) < (↑datal : Int)) ∧ (∃ s52 : ByteArray, ((cell? w48 (add a51 (Int.toNat x38 * 1)) = some (string s52)) ∧ (∃ a53 : Addr, ((dataa = some a53) ∧ (((0 : Int) ≤ x38) ∧ (((x38 : Int) < (↑datal : Int)) ∧ (st1 (add (add a53 (Int.toNat x38 * 1)) 0) (string s50) w48 (fun w55 =>
(∃ a56 : Addr, ((dataa = some a56) ∧ (((0 : Int) ≤ wrap i64 (x38 - 1)) ∧ (((wrap i64 (x38 - 1) : Int) < (↑datal : Int)) ∧ (st1 (add (add a56 (Int.toNat (wrap i64 (x38 - 1)) * 1)) 0) (string s52) w55 (fun w58 =>
((z35 (wrap i64 (x38 - 1)) (w58)) ∧ (z36 (wrap i64 (x38 - 1)) w58 < z36 x38 w39))))))))))))))))))))))))))))))))))))))))))))))))
(z34 (w39))))))))))
(z34 (w33))) ∧ (∀ (_ : Nat → Value), (∀ (w60 : World), ((z34 (w60)) → (ifK (decide (wrap i64 (b - x21) ≥ 2))
(∃ z61 : Int → World → Prop, (∃ z62 : Int → World → Nat, ((z61 (wrap i64 (x21 + 1)) (w60)) ∧ (∀ (_ : Nat → Value), (∀ (x64 : Int), (∀ (w65 : World), ((z61 (x64) (w65)) → (ifK (decide (x64 < b))
(atW (drew w65) (fun w66 =>
(∃ a67 : Addr, ((dataa = some a67) ∧ (((0 : Int) ≤ x64) ∧ (((x64 : Int) < (↑datal : Int)) ∧ (∃ s68 : ByteArray, ((cell? w66 (add a67 (Int.toNat x64 * 1)) = some (string s68)) ∧ (∃ a69 : Addr, ((dataa = some a69) ∧ (((0 : Int) ≤ wrap i64 (x64 - 1)) ∧ (((wrap i64 (x64 - 1) : Int) < (↑datal : Int)) ∧ (∃ s70 : ByteArray, ((cell? w66 (add a69 (Int.toNat (wrap i64 (x64 - 1)) * 1)) = some (string s70)) ∧ (Ca Tryz.prog (134) (Array.mk [string s68, string s70]) (w66) (fun v71 => (fun w72 =>
(∃ b73 : Bool, ((v71 = bool b73) ∧ (ifK (!b73)
((z0 (x21) (wrap i64 (x4 + 1)) (w72)) ∧ (z1 x21 (wrap i64 (x4 + 1)) w72 < z1 x3 x4 w5))
(atW (drew w72) (fun w74 =>
(∃ a75 : Addr, ((dataa = some a75) ∧ (((0 : Int) ≤ wrap i64 (x64 - 1)) ∧ (((wrap i64 (x64 - 1) : Int) < (↑datal : Int)) ∧ (∃ s76 : ByteArray, ((cell? w74 (add a75 (Int.toNat (wrap i64 (x64 - 1)) * 1)) = some (string s76)) ∧ (∃ a77 : Addr, ((dataa = some a77) ∧ (((0 : Int) ≤ x64) ∧ (((x64 : Int) < (↑datal : Int)) ∧ (∃ s78 : ByteArray, ((cell? w74 (add a77 (Int.toNat x64 * 1)) = some (string s78)) ∧ (∃ a79 : Addr, ((dataa = some a79) ∧ (((0 : Int) ≤ x64) ∧ (((x64 : Int) < (↑datal : Int)) ∧ (st1 (add (add a79 (Int.toNat x64 * 1)) 0) (string s76) w74 (fun w81 =>
(∃ a82 : Addr, ((dataa = some a82) ∧ (((0 : Int) ≤ wrap i64 (x64 - 1)) ∧ (((wrap i64 (x64 - 1) : Int) < (↑datal : Int)) ∧ (st1 (add (add a82 (Int.toNat (wrap i64 (x64 - 1)) * 1)) 0) (string s78) w81 (fun w84 =>
((z61 (wrap i64 (x64 + 1)) (w84)) ∧ (z62 (wrap i64 (x64 + 1)) w84 < z62 x64 w65))))))))))))))))))))))))))))))))))))))))))))))))
((z0 (x21) (wrap i64 (x4 + 1)) (w65)) ∧ (z1 x21 (wrap i64 (x4 + 1)) w65 < z1 x3 x4 w5))))))))))
((z0 (x21) (wrap i64 (x4 + 1)) (w60)) ∧ (z1 x21 (wrap i64 (x4 + 1)) w60 < z1 x3 x4 w5))))))))))))))))))))))))))))))))))))))))))
(R (bool false) (w5)))))))))))
theorem ca133 (dataa : Option Addr) (datal : Nat) (datac : Nat) (a_ : Int) (b : Int) (w : World) (R : Value → World → Prop) (h : W133 dataa datal datac a_ b w R) : Ca Tryz.prog 133 ⟨[(.slice dataa datal datac), (.int .i64 a_), (.int .i64 b)]⟩ w R :=
  caB (fn := Tryz.f133) (pl := pl133) (ls := ls133) Tryz.func133 (by kernel_rfl) (by kernel_rfl) h
end Go.Proofs.YtehhhkcemmfjpaaGreatDoor
