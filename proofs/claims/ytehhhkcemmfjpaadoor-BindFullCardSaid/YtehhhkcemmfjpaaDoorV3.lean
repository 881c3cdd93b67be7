/- Parts of the proof of BindFullCard. -/
import Derived.Laws.RangeString
import Derived.Test.YtehhhkcemmfjpaaDoorCore9
import Derived.Test.YtehhhkcemmfjpaaDoorProg
import Derived.Laws.Externs
import Derived.Lib.Bytealg
import Derived.WalkKit
import Derived.MapKept
import Derived.Test.YtehhhkcemmfjpaaDoorLib
import Derived.Deep.Slices
import Derived.Deep.Fields
import Derived.ChangeSame
import Derived.Below
import Derived.SizedLaws
import Derived.Test.YtehhhkcemmfjpaaDoorV2
/- The program's functions 'plain' and 'Name': what a name is (Con2, for any seat). -/
namespace Go.Proofs.YtehhhkcemmfjpaaDoor
open Go Go.Proofs.YtehhhkcemmfjpaaDoor.St

def letter (c : Nat) : Bool := (decide (97 ≤ c) && decide (c ≤ 122)) || (decide (48 ≤ c) && decide (c ≤ 57)) || c == 45 || c == 95
def lettersB (s : ByteArray) : Bool := s.data.toList.all (fun b => letter b.toNat)
def plainB (s : ByteArray) : Bool := lettersB s && !(ByteArray.toList s == ByteArray.toList (ByteArray.mk #[]))
def nameB (s : ByteArray) : Bool := decide ((s.size : Int) ≤ 20) && plainB s

theorem decode_high (s : ByteArray) (pos : Nat) (h : pos < s.size) (ha : ¬ (s[pos]'h).toNat < 128) : 128 ≤ (Utf8.decode s pos).1 := by
  have e : s.get! (pos + 0) = s[pos]'h := by
    show s.get! pos = _
    simp [ByteArray.get!, getElem!_pos, h]
    rfl
  simp only [Utf8.decode, e, ha, if_false]
  repeat' split
  all_goals simp_all [Utf8.runeError] <;> omega

theorem lettersB_at {s : ByteArray} (h : lettersB s = true) {pos : Nat} (hp : pos < s.size) : letter (s[pos]'hp).toNat = true := by
  rw [lettersB, List.all_eq_true] at h
  exact h _ (by simp [ByteArray.getElem_eq_getElem_data])

theorem lettersB_of {s : ByteArray} (h : ∀ (pos : Nat) (hp : pos < s.size), letter (s[pos]'hp).toNat = true) : lettersB s = true := by
  rw [lettersB, List.all_eq_true]
  intro x hx
  obtain ⟨i, hi, rfl⟩ := List.getElem_of_mem hx
  exact h i (by simpa using hi)

def itPos (w : World) (k n : Nat) : Nat := match w.heap[k]? with | some (.stringIter _ p) => n - p | _ => 0
theorem itPos_of {w : World} {k n p : Nat} {s : ByteArray} (h : w.heap[k]? = some (.stringIter s p)) : itPos w k n = n - p := by simp [itPos, h]

theorem plain_ok (s : ByteArray) (w : World) (R : Value → World → Prop) (h : ∀ w', Mod no w w' → R (.bool (plainB s)) w') : Ca Tryd.prog 45 #[.string s] w R := by
  refine ca45 s w R ?_
  intro w1 e
  subst e
  refine ⟨fun w' => ∃ pos, pos ≤ s.size ∧ w'.heap[w.heap.size]? = some (.stringIter s pos) ∧ Mod no w w' ∧ ∀ (i : Nat) (hi : i < s.size), i < pos → letter (s[i]'hi).toNat = true,
    fun w' => itPos w' w.heap.size s.size, ⟨0, Nat.zero_le _, new_at w _, Mod.alloc w _, fun _ _ h => absurd h (Nat.not_lt_zero _)⟩, ?_⟩
  rintro _ w4 ⟨pos, hle, hit, hm, hgood⟩
  refine ⟨s, pos, hit, ifK_of (fun hp => ?_) (fun hp => ?_)⟩
  · have hp : pos < s.size := of_decide_eq_true hp
    intro w7 e7
    have hm7 : Mod no w w7 := by subst e7; exact hm.new (Mod.putObj w4 _ _) fun k hk => by cases hk; exact Nat.le_refl _
    have hit7 : w7.heap[w.heap.size]? = some (.stringIter s (pos + (Utf8.decode s pos).2)) := by subst e7; exact put_at _ hit
    have hA : letter (Utf8.decode s pos).1 = true → (∃ pos, pos ≤ s.size ∧ w7.heap[w.heap.size]? = some (.stringIter s pos) ∧ Mod no w w7 ∧ ∀ (i : Nat) (hi : i < s.size), i < pos → letter (s[i]'hi).toNat = true) ∧
        itPos w7 w.heap.size s.size < itPos w4 w.heap.size s.size := by
      intro hl
      have hlow : (s[pos]'hp).toNat < 128 := by
        apply Decidable.byContradiction
        intro hh
        have := decode_high s pos hp hh
        simp [letter] at hl
        omega
      have hd := decode_ascii s pos hp hlow
      rw [hd] at hit7 hl
      rw [itPos_of hit, itPos_of hit7]
      refine ⟨⟨pos + 1, hp, hit7, hm7, fun i hi hlt => ?_⟩, by simp only; omega⟩
      by_cases e : i = pos
      · subst e; exact hl
      · exact hgood i hi (by omega)
    have hB : letter (Utf8.decode s pos).1 = false → R (.bool false) w7 := by
      intro hl
      have : plainB s = false := by
        rw [plainB]
        cases hall : lettersB s with
        | false => rfl
        | true =>
          have := lettersB_at hall hp
          by_cases hlow : (s[pos]'hp).toNat < 128
          · rw [decode_ascii s pos hp hlow] at hl; rw [this] at hl; cases hl
          · simp [letter] at this; omega
      have h' := h w7 hm7
      rwa [this] at h'
    have hL : letter (Utf8.decode s pos).1 = ((decide (((Utf8.decode s pos).1 : Int) ≥ 97) && decide (((Utf8.decode s pos).1 : Int) ≤ 122)) || (decide (((Utf8.decode s pos).1 : Int) ≥ 48) && decide (((Utf8.decode s pos).1 : Int) ≤ 57)) ||
        (((Utf8.decode s pos).1 : Int) == 45) || (((Utf8.decode s pos).1 : Int) == 95)) := by
      rw [letter]
      congr 1
      · congr 1
        · congr 1
          · congr 1 <;> exact decide_eq_decide.2 (by omega)
          · congr 1 <;> exact decide_eq_decide.2 (by omega)
        · rw [Bool.eq_iff_iff]; simp; omega
      · rw [Bool.eq_iff_iff]; simp; omega
    rw [hL] at hA hB
    clear hL
    revert hA hB
    dsimp only
    generalize ((∃ pos, pos ≤ s.size ∧ w7.heap[w.heap.size]? = some (.stringIter s pos) ∧ Mod no w w7 ∧ ∀ (i : Nat) (hi : i < s.size), i < pos → letter (s[i]'hi).toNat = true) ∧ itPos w7 w.heap.size s.size < itPos w4 w.heap.size s.size) = A
    generalize decide (((Utf8.decode s pos).1 : Int) ≥ 97) = b1
    generalize decide (((Utf8.decode s pos).1 : Int) ≤ 122) = b2
    generalize decide (((Utf8.decode s pos).1 : Int) ≥ 48) = b3
    generalize decide (((Utf8.decode s pos).1 : Int) ≤ 57) = b4
    generalize (((Utf8.decode s pos).1 : Int) == 45) = b5
    generalize (((Utf8.decode s pos).1 : Int) == 95) = b6
    intro hA hB
    cases b1 <;> cases b2 <;> cases b3 <;> cases b4 <;> cases b5 <;> cases b6 <;> first | exact hA rfl | exact hB rfl
  · have hp : ¬ pos < s.size := of_decide_eq_false hp
    have : lettersB s = true := lettersB_of fun i hi => hgood i hi (by omega)
    have h' := h w4 hm
    rwa [plainB, this, Bool.true_and] at h'

theorem name_ok (s : ByteArray) (w : World) (R : Value → World → Prop) (h : ∀ w', Mod no w w' → R (.bool (nameB s)) w') : Ca Tryd.prog 23 #[.string s] w R := by
  refine ca23 s w R (ifK_of (fun hb => ?_) (fun hb => ?_))
  · refine plain_ok s w _ fun w' hm => ⟨_, rfl, ?_⟩
    have h' := h w' hm
    rwa [nameB, hb, Bool.true_and] at h'
  · have h' := h w (Mod.refl _ _)
    rwa [nameB, hb, Bool.false_and] at h'
end Go.Proofs.YtehhhkcemmfjpaaDoor

/- The table's functions: Find, Good, Declare, Drop, Unbind, Forget. -/
namespace Go.Proofs.YtehhhkcemmfjpaaDoor
open Go Go.Proofs.YtehhhkcemmfjpaaDoor Go.Proofs.YtehhhkcemmfjpaaDoor.St

def exc0 : Exc := ⟨ByteArray.mk #[], 0, false⟩
def findX (n : ByteArray) (D : List Exc) : Option Exc := D.find? fun e => n == e.n
abbrev fx (n : ByteArray) (D : List Exc) : Exc := (findX n D).getD exc0
abbrev hx (n : ByteArray) (D : List Exc) : Bool := (findX n D).isSome
theorem getX (n : ByteArray) : ∀ D : List Exc, getG n (exL D) = (findX n D).map fun e => .agg ⟨e.cs⟩
  | [] => rfl
  | e :: D => by
    have ih := getX n D
    simp only [getG, exL, findX, List.map_cons, List.find?_cons] at ih ⊢
    cases h : (n == e.n) with
    | true => rfl
    | false => exact ih
theorem getB (b : Bnd) : ∀ B : List Bnd, getG b (bnL B) = if b ∈ B then some (.agg ⟨[]⟩) else none
  | [] => rfl
  | x :: B => by
    have ih := getB b B
    simp only [getG, bnL, List.map_cons, List.find?_cons] at ih ⊢
    by_cases h : b = x
    · have : (b == x) = true := decide_eq_true h
      simp [this, h]
    · have hb : (b == x) = false := decide_eq_false h
      simp only [hb]
      rw [ih]
      simp [h]
theorem zero_of {t : TypeId} {z : Value} (h : (Tryd.prog.info? t).bind (·.zero) = some z) (w : World) : (zeroValue t).run Tryd.prog w = .ok z w := by
  cases hi : Tryd.prog.info? t with
  | none => rw [hi] at h; cases h
  | some i => rw [hi] at h; exact run_zeroValue' hi h
theorem look_x {w : World} {m : Nat} {D : List Exc} (h : XMap w m D) (n : ByteArray) :
    Sem.run Tryd.prog (Instr.lookup 43 (.map (some m)) (.string n) true) w = Result.ok (.tuple #[.agg ⟨(fx n D).cs⟩, .bool (hx n D)]) w := by
  rw [lookup_k (keys_string Tryd.underlying9) Tryd.underlying43 (z := .agg ⟨exc0.cs⟩) (zero_of (by kernel_rfl)) h n trivial (fun _ _ => trivial) true, getX]
  cases h : findX n D <;> simp [fx, hx, h]
theorem look_b {w : World} {m : Nat} {B : List Bnd} (h : BMap w m B) (b : Bnd) :
    Sem.run Tryd.prog (Instr.lookup 44 (.map (some m)) (.agg ⟨b.cs⟩) true) w = Result.ok (.tuple #[.agg ⟨[]⟩, .bool (decide (b ∈ B))]) w := by
  have := lookup_k (keys_bnd bnd_s) Tryd.underlying44 (z := .agg ⟨[]⟩) (zero_of (by kernel_rfl)) h b trivial (fun _ _ => trivial) true
  rw [getB] at this
  refine this.trans ?_
  by_cases hb : b ∈ B <;> simp [hb]

theorem put3 {k : Nat} {e : TypeId} {w : World} {x y z a b c : Value} {K : World → Prop} (h : w.heap[k]? = some (.cells #[x, y, z] e (0, 0))) (hk : ∀ w', Mod (on k) w w' → w'.heap[k]? = some (.cells #[a, b, c] e (0, 0)) → K w') :
    (∃ v : Value, w.cell? (Addr.add ⟨k, 0, none⟩ 0) = some v) ∧ w.frozen? (Addr.add ⟨k, 0, none⟩ 0) = false ∧ atW (w.setCell (Addr.add ⟨k, 0, none⟩ 0) a) fun w1 =>
    (∃ v : Value, w1.cell? (Addr.add ⟨k, 0, none⟩ 1) = some v) ∧ w1.frozen? (Addr.add ⟨k, 0, none⟩ 1) = false ∧ atW (w1.setCell (Addr.add ⟨k, 0, none⟩ 1) b) fun w2 =>
    (∃ v : Value, w2.cell? (Addr.add ⟨k, 0, none⟩ 2) = some v) ∧ w2.frozen? (Addr.add ⟨k, 0, none⟩ 2) = false ∧ atW (w2.setCell (Addr.add ⟨k, 0, none⟩ 2) c) K := by
  refine ⟨⟨x, by rw [cl1 h]; rfl⟩, fz1 h _, fun w1 e1 => ?_⟩
  have h1 : w1.heap[k]? = some (.cells #[a, y, z] e (0, 0)) := by subst e1; rw [set1 h]; rfl
  have m1 : Mod (on k) w w1 := by subst e1; exact Mod.set1 _ _ _ _
  clear e1
  refine ⟨⟨y, by rw [cl1 h1]; rfl⟩, fz1 h1 _, fun w2 e2 => ?_⟩
  have h2 : w2.heap[k]? = some (.cells #[a, b, z] e (0, 0)) := by subst e2; rw [set1 h1]; rfl
  have m2 : Mod (on k) w1 w2 := by subst e2; exact Mod.set1 _ _ _ _
  clear e2
  refine ⟨⟨z, by rw [cl1 h2]; rfl⟩, fz1 h2 _, fun w3 e3 => ?_⟩
  have h3 : w3.heap[k]? = some (.cells #[a, b, c] e (0, 0)) := by subst e3; rw [set1 h2]; rfl
  have m3 : Mod (on k) w2 w3 := by subst e3; exact Mod.set1 _ _ _ _
  clear e3
  exact hk w3 ((m1.trans m2).trans m3) h3

/-- The three cells of an exchange. -/
abbrev Xc (w : World) (k : Nat) (x : Exc) : Prop := w.heap[k]? = some (.cells #[.string x.n, .int .i64 x.k, .bool x.f] 29 (0, 0))
abbrev Bc (w : World) (k : Nat) (x : Bnd) : Prop := w.heap[k]? = some (.cells #[.string x.x, .string x.q, .string x.p] 31 (0, 0))

section
variable {w : World} {t m1 m2 : Nat} {D : List Exc} {B : List Bnd} (hT : Tbl w t m1 m2 D B)
include hT
theorem find_ok (n : ByteArray) (R : Value → World → Prop) (h : ∀ w', Mod no w w' → R (.tuple #[.agg ⟨(fx n D).cs⟩, .bool (hx n D)]) w') :
    Ca Tryd.prog 14 #[.pointer (some ⟨t, 0, none⟩), .string n] w R := by
  refine ca14 (some ⟨t, 0, none⟩) n w R ?_
  intro w0 e0
  have m0 : Mod no w w0 := by subst e0; exact Mod.alloc _ _
  have b0 : Xc w0 w.heap.size exc0 := by subst e0; exact new_at _ _
  clear e0
  have hT0 := hT.no m0
  refine made_ok hT0 _ ⟨true, rfl, ifK_of (fun h => by cases h) fun _ => ?_⟩
  refine ⟨some m1, by rw [cl1 hT0.cell]; rfl, _, _, look_x hT0.x n, _, _, _, _, rfl, ?_⟩
  intro w1 e1
  have n1 : Mod no w0 w1 := by subst e1; exact Mod.alloc _ _
  have b1 : Xc w1 w0.heap.size exc0 := by subst e1; exact new_at _ _
  clear e1
  refine put3 b1 fun w2 n2 b2 => ?_
  refine ⟨_, by rw [cl1 b2]; rfl, _, by rw [cl1 b2]; rfl, _, by rw [cl1 b2]; rfl, ?_⟩
  have n12 : Mod no w0 w2 := n1.new n2 fun k hk => by cases hk; exact Nat.le_refl _
  refine put3 (n12.at' b0) fun w3 n3 b3 => ?_
  refine ⟨_, by rw [cl1 b3]; rfl, _, by rw [cl1 b3]; rfl, _, by rw [cl1 b3]; rfl, ?_⟩
  exact h w3 ((m0.trans n12).new n3 fun k hk => by cases hk; exact Nat.le_refl _)
end

/-- Whether an exchange may be. -/
def goodX (x : Exc) : Bool := nameB x.n && (x.k == 1 || x.k == 2 || x.k == 3)
theorem good_ok (x : Exc) (w : World) (R : Value → World → Prop) (h : ∀ w', Mod no w w' → R (.bool (goodX x)) w') : Ca Tryd.prog 22 #[.agg ⟨x.cs⟩] w R := by
  refine (ca22 x.n x.k x.f w R ?_ : Ca _ _ _ _ _)
  intro w0 e0
  have m0 : Mod no w w0 := by subst e0; exact Mod.alloc _ _
  have b0 : Xc w0 w.heap.size x := by subst e0; exact new_at _ _
  clear e0
  refine ⟨_, by rw [cl1 b0]; rfl, name_ok _ _ _ fun w1 m1 => ⟨_, rfl, ?_⟩⟩
  have b1 := m1.at' b0
  have m01 := m0.trans m1
  have h := h w1 m01
  unfold goodX at h
  refine ifK_of (fun hn => ?_) (fun hn => ?_)
  · rw [hn, Bool.true_and] at h
    refine ⟨_, by rw [cl1 b1]; rfl, ifK_of (fun h1 => ?_) (fun h1 => ?_)⟩
    · rw [h1] at h; exact h
    · rw [h1] at h
      refine ⟨_, by rw [cl1 b1]; rfl, ifK_of (fun h2 => ?_) (fun h2 => ?_)⟩
      · rw [h2] at h; exact h
      · rw [h2] at h; exact ⟨_, by rw [cl1 b1]; rfl, h⟩
  · rw [hn, Bool.false_and] at h; exact h
end Go.Proofs.YtehhhkcemmfjpaaDoor

/- The table's functions: Declare, Drop, Unbind, Forget. -/
namespace Go.Proofs.YtehhhkcemmfjpaaDoor
open Go Go.Proofs.YtehhhkcemmfjpaaDoor Go.Proofs.YtehhhkcemmfjpaaDoor.St

theorem findX_none {n : ByteArray} {D : List Exc} : findX n D = none ↔ n ∉ D.map (·.n) := by
  unfold findX
  rw [List.find?_eq_none]
  constructor
  · intro h hn
    obtain ⟨e, he, rfl⟩ := List.mem_map.1 hn
    exact h e he (beq_self_eq_true _)
  · intro h e he hb
    exact h (List.mem_map.2 ⟨e, he, (eq_of_beq hb).symm⟩)
theorem findX_some {n : ByteArray} {D : List Exc} {e : Exc} (h : findX n D = some e) : e ∈ D ∧ e.n = n := ⟨List.mem_of_find?_eq_some h, (eq_of_beq (List.find?_some (p := fun e : Exc => n == e.n) (l := D) h)).symm⟩
theorem exL_fst (D : List Exc) : (exL D).map (·.1) = D.map (·.n) := by rw [exL, List.map_map]; rfl
theorem bnL_fst (B : List Bnd) : (bnL B).map (·.1) = B := by
  rw [bnL, List.map_map]
  conv => rhs; rw [← List.map_id B]
  rfl
def excV (x : Exc) : Value := .agg ⟨[.string x.n, .int .i64 x.k, .bool x.f]⟩
theorem put_x {w : World} {m : Nat} {D : List Exc} (h : XMap w m D) (x : Exc) (hn : x.n ∉ D.map (·.n)) :
    ∃ w', Sem.run Tryd.prog (Instr.mapUpdate 43 (.map (some m)) (.string x.n) (excV x)) w = Result.ok () w' ∧ Mod (on m) w w' ∧ XMap w' m (D ++ [x]) := by
  obtain ⟨w', h1, h2, h3⟩ := update_k (keys_string Tryd.underlying9) Tryd.underlying43 h x.n trivial (fun _ _ => trivial) (excV x)
  refine ⟨w', h1, h2, ?_⟩
  rw [setG_none (by rw [exL_fst]; exact hn)] at h3
  have : exL (D ++ [x]) = exL D ++ [(x.n, excV x)] := by rw [exL, List.map_append]; rfl
  rw [XMap, this]
  exact h3
theorem delX (n : ByteArray) : ∀ {D : List Exc}, (D.map (·.n)).Nodup → delG n (exL D) = exL (D.filter fun e => !(e.n == n))
  | [], _ => rfl
  | e :: D, h => by
    rw [List.map_cons, List.nodup_cons] at h
    simp only [exL, List.map_cons, delG]
    by_cases he : n = e.n
    · subst he
      rw [if_pos (beq_self_eq_true _), List.filter_cons_of_neg (by simp), List.filter_eq_self.2]
      intro y hy
      have : (y.n == e.n) = false := beq_false_of_ne fun h' => h.1 (by rw [← h']; exact List.mem_map_of_mem hy)
      simp [this]
    · have hne : (e.n == n) = false := beq_false_of_ne fun h' => he h'.symm
      rw [if_neg (fun h' => he (eq_of_beq h')), List.filter_cons_of_pos (by simp [hne]), List.map_cons]
      congr 1
      exact delX n h.2
theorem del_x {w : World} {m : Nat} {D : List Exc} (h : XMap w m D) (n : ByteArray) (hD : (D.map (·.n)).Nodup) :
    ∃ w', Sem.run Tryd.prog (Builtin.delete_ #[43, 9] 0 #[.map (some m), .string n]) w = Result.ok (.tuple #[]) w' ∧ Mod (on m) w w' ∧ XMap w' m (D.filter fun e => !(e.n == n)) := by
  obtain ⟨w', h1, h2, h3⟩ := delete_k (keys_string Tryd.underlying9) (u := 9) (ty := 0) Tryd.underlying43 h n trivial (fun _ _ => trivial)
  refine ⟨w', h1, h2, ?_⟩
  rw [delX n hD] at h3
  exact h3

/-! ### What Declare answers, and leaves -/
def declR (x : Exc) (D : List Exc) : Int := if goodX x then (match findX x.n D with | some y => if y = x then 0 else 12 | none => if D.length ≥ 8 then 5 else 0) else 2
def declD (x : Exc) (D : List Exc) : List Exc := if goodX x && (findX x.n D).isNone && decide (D.length < 8) then D ++ [x] else D

section
variable {w : World} {t m1 m2 : Nat} {D : List Exc} {B : List Bnd} (hT : Tbl w t m1 m2 D B)
include hT
theorem declare_ok (x : Exc) (R : Value → World → Prop) (h : ∀ w', Tbl w' t m1 m2 (declD x D) B → Mod (on m1) w w' → R (.int .i64 (declR x D)) w') :
    Ca Tryd.prog 7 #[.pointer (some ⟨t, 0, none⟩), .agg ⟨x.cs⟩] w R := by
  refine (ca7 (some ⟨t, 0, none⟩) x.n x.k x.f w R ?_ : Ca _ _ _ _ _)
  intro w0 e0
  have n0 : Mod no w w0 := by subst e0; exact Mod.alloc _ _
  have b0 : Xc w0 w.heap.size x := by subst e0; exact new_at _ _
  clear e0
  have hT0 := hT.no n0
  refine made_ok hT0 _ ⟨true, rfl, ifK_of (fun h => by cases h) fun _ => ?_⟩
  refine ⟨_, by rw [cl1 b0]; rfl, _, by rw [cl1 b0]; rfl, _, by rw [cl1 b0]; rfl, ?_⟩
  refine (good_ok x w0 _ fun w8 n8 => ?_ : Ca _ _ _ _ _)
  refine ⟨_, rfl, ?_⟩
  have n08 := n0.trans n8
  refine ifK_of (fun hg => ?_) (fun hg => ?_)
  · have hg : goodX x = false := by simpa using hg
    have h' := h w8 (by rw [declD, hg]; exact hT.no n08) n08.of_no
    rw [declR, hg] at h'
    exact h'
  have hg : goodX x = true := by simpa using hg
  refine ⟨fun p b w' => ∃ k, p = some ⟨k, 0, none⟩ ∧ Xc w' k (fx x.n D) ∧ b = hx x.n D ∧ Xc w' w.heap.size x ∧ Tbl w' t m1 m2 D B ∧ Mod no w w', ?_, ?_⟩
  · intro w11 e11
    have n11 : Mod no w8 w11 := by subst e11; exact Mod.drew _
    clear e11
    have b11 := n11.at' (n8.at' b0)
    have n011 := n08.trans n11
    have hT11 := hT.no n011
    refine ⟨some m1, by rw [cl1 hT11.cell]; rfl, _, by rw [cl1 b11]; rfl, ⟨_, _, look_x hT11.x x.n, _, _, _, _, rfl, ?_⟩, ?_⟩
    · intro w21 e21
      have n21 : Mod no w11 w21 := by subst e21; exact Mod.alloc _ _
      have b21 : Xc w21 w11.heap.size exc0 := by subst e21; exact new_at _ _
      clear e21
      have hT21 := hT11.no n21
      have bx := n21.at' b11
      refine ⟨by rw [cl2 hT21.cell]; rfl, by rw [cl2 bx]; rfl, put3 b21 fun w27 n27 b27 => ?_⟩
      have n1127 : Mod no w11 w27 := n21.new n27 fun k hk => by cases hk; exact Nat.le_refl _
      exact ⟨_, rfl, b27, rfl, n1127.at' b11, hT11.no n1127, n011.trans n1127⟩
    · intro w21 e21
      have n21 : Mod no w11 w21 := by subst e21; exact Mod.alloc _ _
      have b21 : Xc w21 w11.heap.size exc0 := by subst e21; exact new_at _ _
      clear e21
      have hT21 := hT11.no n21
      have bx := n21.at' b11
      refine ⟨by rw [cl2 hT21.cell]; rfl, by rw [cl2 bx]; rfl, _, _, look_x hT21.x x.n, _, _, _, _, rfl, put3 b21 fun w27 n27 b27 => ?_⟩
      have n1127 : Mod no w11 w27 := n21.new n27 fun k hk => by cases hk; exact Nat.le_refl _
      exact ⟨_, rfl, b27, rfl, n1127.at' b11, hT11.no n1127, n011.trans n1127⟩
  rintro _ _ _ w44 ⟨k, rfl, bk, rfl, bx, hT44, n44⟩
  have add : ∀ w' , Mod no w w' → Tbl w' t m1 m2 D B → Xc w' w.heap.size x → findX x.n D = none →
      (∃ p66 : Option Nat, w'.cell? (Addr.add ⟨t, 0, none⟩ 0) = some (.map p66) ∧ lenM p66 w' fun x67 => ifK (decide (x67 ≥ 8)) (R (.int .i64 5) w') (atW w'.drew fun w68 =>
        ∃ p70 : Option Nat, w68.cell? (Addr.add ⟨t, 0, none⟩ 0) = some (.map p70) ∧ ∃ s71 : ByteArray, w68.cell? (Addr.add ⟨w.heap.size, 0, none⟩ 0) = some (.string s71) ∧ ∃ s72 : ByteArray, w68.cell? (Addr.add ⟨w.heap.size, 0, none⟩ 0) = some (.string s72) ∧
        ∃ x73 : Int, w68.cell? (Addr.add ⟨w.heap.size, 0, none⟩ 1) = some (.int .i64 x73) ∧ ∃ b74 : Bool, w68.cell? (Addr.add ⟨w.heap.size, 0, none⟩ 2) = some (.bool b74) ∧
        ∃ w75 : World, Sem.run Tryd.prog (Instr.mapUpdate 43 (.map p70) (.string s71) (.agg ⟨[.string s72, .int .i64 x73, .bool b74]⟩)) w68 = Result.ok () w75 ∧ R (.int .i64 0) w75)) := by
    intro w' nw hTw bw hf
    obtain ⟨es, clock, hes, hlen⟩ := xmap_len hTw.x
    refine ⟨some m1, by rw [cl1 hTw.cell]; rfl, es, clock, hes, ifK_dec (fun hge => ?_) (fun hlt => ?_)⟩
    · rw [hlen] at hge
      have h' := h w' (by rw [declD, hg, hf, show decide (D.length < 8) = false from decide_eq_false (by omega)]; exact hTw) nw.of_no
      rw [declR, hg, hf] at h'
      simp only [if_true] at h'
      rw [if_pos (by omega)] at h'
      exact h'
    · rw [hlen] at hlt
      intro w68 e68
      have n68 : Mod no w' w68 := by subst e68; exact Mod.drew _
      clear e68
      have hT68 := hTw.no n68
      have b68 := n68.at' bw
      have hnm : x.n ∉ D.map (·.n) := findX_none.1 hf
      obtain ⟨w75, hr, n75, hx75⟩ := put_x hT68.x x hnm
      refine ⟨some m1, by rw [cl1 hT68.cell]; rfl, _, by rw [cl1 b68]; rfl, _, by rw [cl1 b68]; rfl, _, by rw [cl1 b68]; rfl, _, by rw [cl1 b68]; rfl, w75, hr, ?_⟩
      have h' := h w75 (by
        rw [declD, hg, hf, show decide (D.length < 8) = true from decide_eq_true (by omega)]
        show Tbl w75 t m1 m2 (D ++ [x]) B
        refine ⟨n75.at hT68.cell hT.t1, hx75, hT68.b.mod n75 (fun hS => hT.ne hS.symm), hT.ne, ?_, hT.bn⟩
        rw [List.map_append, List.nodup_append]
        refine ⟨hT.dn, by simp, fun a ha b hb => ?_⟩
        simp only [List.map_cons, List.map_nil, List.mem_singleton] at hb
        rintro rfl
        exact hnm (hb ▸ ha)) ((nw.trans n68).no_trans n75)
      rw [declR, hg, hf] at h'
      simp only [if_true] at h'
      rw [if_neg (by omega)] at h'
      exact h'
  cases hf : findX x.n D with
  | none =>
    have hb : hx x.n D = false := by rw [hx, hf]; rfl
    rw [hb]
    exact ifK_of (fun h => by cases h) fun _ => ifK_of (fun h => by cases h) fun _ => add w44 n44 hT44 bx hf
  | some y =>
    have hb : hx x.n D = true := by rw [hx, hf]; rfl
    have hy : fx x.n D = y := by rw [fx, hf]; rfl
    rw [hb]
    rw [hy] at bk
    refine ifK_of (fun _ => ?_) fun h => by cases h
    refine ⟨_, by rw [cl1 bk]; rfl, _, by rw [cl1 bk]; rfl, _, by rw [cl1 bk]; rfl, _, by rw [cl1 bx]; rfl, _, by rw [cl1 bx]; rfl, _, by rw [cl1 bx]; rfl, ?_⟩
    have hD : declD x D = D := by rw [declD, hf]; simp
    refine eqA_agg exc_s.guard (exc_s.eq y x) (ifK_dec (fun he => ?_) (fun he => ifK_of (fun _ => ?_) fun h => by cases h))
    · have h' := h w44 (by rw [hD]; exact hT44) n44.of_no
      rw [declR, hg, hf] at h'
      simp only [if_true, if_pos he] at h'
      exact h'
    · have h' := h w44 (by rw [hD]; exact hT44) n44.of_no
      rw [declR, hg, hf] at h'
      simp only [if_true, if_neg he] at h'
      exact h'
theorem forget_ok (n : ByteArray) (hl : B.length < 1099511627776) (R : Value → World → Prop) (h : ∀ w', Tbl w' t m1 m2 D (B.filter fun b => !decide (b.q = n)) → Mod (on m2) w w' → R (.int .i64 ((B.length : Int) - (B.filter fun b => !decide (b.q = n)).length)) w') :
    Ca Tryd.prog 10 #[.pointer (some ⟨t, 0, none⟩), .string n] w R := by
  refine ca10 (some ⟨t, 0, none⟩) n w R ?_
  intro w0 e0
  have n0 : Mod no w w0 := by subst e0; exact Mod.alloc _ _
  have b0 : w0.heap[w.heap.size]? = some (.cells #[.string n] 9 (0, 0)) := by subst e0; exact new_at _ _
  clear e0
  have hT0 := hT.no n0
  refine made_ok hT0 _ ⟨true, rfl, ifK_of (fun h => by cases h) fun _ => ?_⟩
  have hmlt : m2 < w.heap.size := by obtain ⟨_, _, hh, _⟩ := hT.b; exact lt_of_heap hh
  exact sweep_ok _ _ _ _ hT0 hl (test2 n b0 (by omega)) _ fun w1 hT1 n1 => ⟨_, rfl, h w1 hT1 (n0.no_trans n1)⟩
omit hT in
theorem filter_len_eq {p : Bnd → Bool} {B : List Bnd} : (B.length : Int) - (B.filter fun b => !p b).length = 0 ↔ ∀ b ∈ B, p b = false := by
  have hle : (B.filter fun b => !p b).length ≤ B.length := List.length_filter_le _ _
  constructor
  · intro h
    have := List.length_filter_eq_length_iff.1 (show (B.filter fun b => !p b).length = B.length by omega)
    intro b hb
    simpa using this b hb
  · intro h
    have : (B.filter fun b => !p b).length = B.length := List.length_filter_eq_length_iff.2 fun b hb => by simp [h b hb]
    omega
theorem unbind_ok (x : Bnd) (hl : B.length < 1099511627776) (R : Value → World → Prop) (h : ∀ w', Tbl w' t m1 m2 D (B.filter fun b => !decide (b = x)) → Mod (on m2) w w' → R (.int .i64 (if x ∈ B then 0 else 3)) w') :
    Ca Tryd.prog 15 #[.pointer (some ⟨t, 0, none⟩), .agg ⟨x.cs⟩] w R := by
  refine (ca15 (some ⟨t, 0, none⟩) x.x x.q x.p w R ?_ : Ca _ _ _ _ _)
  intro w0 e0
  have n0 : Mod no w w0 := by subst e0; exact Mod.alloc _ _
  have b0 : Bc w0 w.heap.size x := by subst e0; exact new_at _ _
  clear e0
  have hT0 := hT.no n0
  refine made_ok hT0 _ ⟨true, rfl, ifK_of (fun h => by cases h) fun _ => ?_⟩
  have hmlt : m2 < w.heap.size := by obtain ⟨_, _, hh, _⟩ := hT.b; exact lt_of_heap hh
  refine sweep_ok _ _ _ _ hT0 hl (test3 x b0 (by omega)) _ fun w1 hT1 n1 => ⟨_, rfl, ?_⟩
  have h' := h w1 hT1 (n0.no_trans n1)
  by_cases hx : x ∈ B
  · rw [if_pos hx] at h'
    refine ifK_eq (fun h0 => ?_) (fun _ => h')
    have := filter_len_eq.1 h0 x hx
    simp at this
  · rw [if_neg hx] at h'
    refine ifK_eq (fun _ => h') (fun h0 => absurd (filter_len_eq.2 fun b hb => ?_) h0)
    exact decide_eq_false fun e => hx (e ▸ hb)
theorem drop_ok (n : ByteArray) (hl : B.length < 1099511627776) (R : Value → World → Prop)
    (h : ∀ w', Tbl w' t m1 m2 (if hx n D then D.filter fun e => !(e.n == n) else D) (if hx n D then B.filter fun b => !decide (b.x = n) else B) → Mod (of2 m1 m2) w w' → R (.int .i64 (if hx n D then 0 else 3)) w') :
    Ca Tryd.prog 11 #[.pointer (some ⟨t, 0, none⟩), .string n] w R := by
  refine ca11 (some ⟨t, 0, none⟩) n w R ?_
  intro w0 e0
  have n0 : Mod no w w0 := by subst e0; exact Mod.alloc _ _
  have b0 : w0.heap[w.heap.size]? = some (.cells #[.string n] 9 (0, 0)) := by subst e0; exact new_at _ _
  clear e0
  have hT0 := hT.no n0
  refine made_ok hT0 _ ⟨true, rfl, ifK_of (fun h => by cases h) fun _ => ?_⟩
  have hm2 : m2 < w.heap.size := by obtain ⟨_, _, hh, _⟩ := hT.b; exact lt_of_heap hh
  have hm1 : m1 < w.heap.size := by obtain ⟨_, _, hh, _⟩ := hT.x; exact lt_of_heap hh
  refine ⟨fun b w' => b = hx n D ∧ w'.heap[w.heap.size]? = some (.cells #[.string n] 9 (0, 0)) ∧ Tbl w' t m1 m2 D B ∧ Mod no w w', ?_, ?_⟩
  · intro w11 e11
    have n11 : Mod no w0 w11 := by subst e11; exact Mod.drew _
    clear e11
    have b11 := n11.at' b0
    have n011 := n0.trans n11
    have hT11 := hT.no n011
    refine ⟨some m1, by rw [cl1 hT11.cell]; rfl, _, by rw [cl b11]; rfl, ⟨_, _, look_x hT11.x n, _, _, _, _, rfl, ?_⟩, ?_⟩
    · intro w21 e21
      have n21 : Mod no w11 w21 := by subst e21; exact Mod.alloc _ _
      have b21 : Xc w21 w11.heap.size exc0 := by subst e21; exact new_at _ _
      clear e21
      have hT21 := hT11.no n21
      have bx := n21.at' b11
      refine ⟨by rw [cl2 hT21.cell]; rfl, by rw [cl1 bx]; rfl, put3 b21 fun w27 n27 b27 => ?_⟩
      have n1127 : Mod no w11 w27 := n21.new n27 fun k hk => by cases hk; exact Nat.le_refl _
      exact ⟨rfl, n1127.at' b11, hT11.no n1127, n011.trans n1127⟩
    · intro w21 e21
      have n21 : Mod no w11 w21 := by subst e21; exact Mod.alloc _ _
      have b21 : Xc w21 w11.heap.size exc0 := by subst e21; exact new_at _ _
      clear e21
      have hT21 := hT11.no n21
      have bx := n21.at' b11
      refine ⟨by rw [cl2 hT21.cell]; rfl, by rw [cl1 bx]; rfl, _, _, look_x hT21.x n, _, _, _, _, rfl, put3 b21 fun w27 n27 b27 => ?_⟩
      have n1127 : Mod no w11 w27 := n21.new n27 fun k hk => by cases hk; exact Nat.le_refl _
      exact ⟨rfl, n1127.at' b11, hT11.no n1127, n011.trans n1127⟩
  rintro _ _ w44 ⟨rfl, bn, hT44, n44⟩
  cases hh : hx n D with
  | false =>
    refine ifK_of (fun _ => ?_) fun h => by cases h
    have h' := h w44 (by rw [hh]; exact hT44) n44.of_no
    rw [hh] at h'
    exact h'
  | true =>
    refine ifK_of (fun h => by cases h) fun _ => ?_
    rw [hh] at h
    intro w38 e38
    have n38 : Mod no w44 w38 := by subst e38; exact Mod.drew _
    clear e38
    have hT38 := hT44.no n38
    have b38 := n38.at' bn
    have n038 := n44.trans n38
    obtain ⟨w43, hr, n43, hx43⟩ := del_x hT38.x n hT.dn
    refine ⟨some m1, by rw [cl1 hT38.cell]; rfl, _, by rw [cl b38]; rfl, _, w43, hr, rfl, ?_⟩
    have hT43 : Tbl w43 t m1 m2 (D.filter fun e => !(e.n == n)) B := ⟨n43.at hT38.cell hT.t1, hx43, hT38.b.mod n43 (fun hS => hT.ne hS.symm), hT.ne, hT.dn.sublist (List.filter_sublist.map _), hT.bn⟩
    have b43 := n43.at b38 (show ¬ w.heap.size = m1 by omega)
    refine sweep_ok _ _ _ _ hT43 hl (test1 n b43 (by omega)) _ fun w45 hT45 n45 => ⟨_, rfl, ?_⟩
    exact h w45 hT45 (((n038.no_trans n43).mono fun k _ hk => .inl hk).trans (n45.mono fun k _ hk => .inr hk))
end
end Go.Proofs.YtehhhkcemmfjpaaDoor

/- The formulas of functions, printed by a program of mine (gen.py) out of the translation. -/
namespace Go.Proofs.YtehhhkcemmfjpaaDoor
open Go Go.Proofs.YtehhhkcemmfjpaaDoor.St
open _root_.Go.Value (string int bool slice pointer agg tuple map func nilFunc iface)
open _root_.Go.World (cell? frozen? setCell alloc drew)
open _root_.Go.Addr (add)
open _root_.Go.Obj (cells)
open _root_.Go.IntKind (wrap i64 u64 i32 u32 u8)
set_option maxRecDepth 100000

/-- strings.SplitSeq -/
noncomputable def C104 : Code := (Tryd.f104.body).getD .skip
def pl104 : Nat → Plan := fun _ => .done
def ls104 : Nat → List (Nat × LT) := fun _ => []
def W104 (s : ByteArray) (sep : ByteArray) (w : World) (R : Value → World → Prop) : Prop :=
  (Ca Tryd.prog (117) (Array.mk [string s, string sep, int i64 0]) (w) (fun v0 => (fun w1 =>
(∃ v2 : Value, ((v0 = v2) ∧ (R (v2) (w1)))))))
theorem ca104 (s : ByteArray) (sep : ByteArray) (w : World) (R : Value → World → Prop) (h : W104 s sep w R) : Ca Tryd.prog 104 ⟨[(.string s), (.string sep)]⟩ w R :=
  caB (fn := Tryd.f104) (pl := pl104) (ls := ls104) Tryd.func104 (by kernel_rfl) (by kernel_rfl) h

/-- strings.splitSeq -/
noncomputable def C117 : Code := (Tryd.f117.body).getD .skip
def pl117 : Nat → Plan := fun _ => .done
def ls117 : Nat → List (Nat × LT) := fun _ => []
def W117 (s : ByteArray) (sep : ByteArray) (sepSave : Int) (w : World) (R : Value → World → Prop) : Prop :=
  (atW (alloc w (cells (Array.mk [string s]) 9 (0, 0))) (fun w0 =>
(atW (alloc w0 (cells (Array.mk [string sep]) 9 (0, 0))) (fun w1 =>
(atW (alloc w1 (cells (Array.mk [int i64 sepSave]) 3 (0, 0))) (fun w2 =>
(R (func (Fn.func 121) (Array.mk []) (Array.mk [pointer (some (nw w0)), pointer (some (nw w)), pointer (some (nw w1))])) (w2))))))))
theorem ca117 (s : ByteArray) (sep : ByteArray) (sepSave : Int) (w : World) (R : Value → World → Prop) (h : W117 s sep sepSave w R) : Ca Tryd.prog 117 ⟨[(.string s), (.string sep), (.int .i64 sepSave)]⟩ w R :=
  caB (fn := Tryd.f117) (pl := pl117) (ls := ls117) Tryd.func117 (by kernel_rfl) (by kernel_rfl) h

/-- strings.splitSeq$1 -/
noncomputable def C121 : Code := (Tryd.f121.body).getD .skip
def pl121 : Nat → Plan := fun _ => .done
def ls121 : Nat → List (Nat × LT)
  | 3 => []
  | 10 => []
  | _ => []
def W121 (yield : Value) (c0 : Option Addr) (c1 : Option Addr) (c2 : Option Addr) (w : World) (R : Value → World → Prop) : Prop :=
  (onP (c0) (fun a0 =>
(∃ s1 : ByteArray, ((cell? w a0 = some (string s1)) ∧ (ifK ((↑(ByteArray.size s1) : Int) == 0)
(∃ z2 : World → Prop, (∃ z3 : World → Nat, ((z2 (w)) ∧ (∀ (_ : Nat → Value), (∀ (w5 : World), ((z2 (w5)) → (onP (c1) (fun a6 =>
(∃ s7 : ByteArray, ((cell? w5 a6 = some (string s7)) ∧ (ifK (decide ((↑(ByteArray.size s7) : Int) > 0))
(onP (c1) (fun a8 =>
(∃ s9 : ByteArray, ((cell? w5 a8 = some (string s9)) ∧ (Ca Tryd.prog (122) (Array.mk [string s9]) (w5) (fun v10 => (fun w11 =>
(∃ x12 : Int, (∃ x13 : Int, ((v10 = tuple (Array.mk (List.reverse [int i64 x13, int i32 x12]))) ∧ (onP (c1) (fun a14 =>
(∃ s15 : ByteArray, ((cell? w11 a14 = some (string s15)) ∧ (((0 : Int) ≤ 0) ∧ (((0 : Int) ≤ x13) ∧ (((x13 : Int) ≤ (↑(ByteArray.size s15) : Int)) ∧ (CaV Tryd.prog (yield) (Array.mk [string (ByteArray.extract s15 0 (Int.toNat x13))]) (w11) (fun v16 => (fun w17 =>
(∃ b18 : Bool, ((v16 = bool b18) ∧ (ifK (!b18)
(R (tuple (Array.mk (List.reverse []))) (w17))
(onP (c1) (fun a19 =>
(∃ s20 : ByteArray, ((cell? w17 a19 = some (string s20)) ∧ (((0 : Int) ≤ x13) ∧ (((x13 : Int) ≤ (↑(ByteArray.size s20) : Int)) ∧ ((((↑(ByteArray.size s20) : Int) : Int) ≤ (↑(ByteArray.size s20) : Int)) ∧ (onP (c1) (fun a21 =>
(st1 (add a21 0) (string (ByteArray.extract s20 (Int.toNat x13) (Int.toNat (↑(ByteArray.size s20) : Int)))) w17 (fun w23 =>
((z2 (w23)) ∧ (z3 w23 < z3 w5))))))))))))))))))))))))))))))))))))
(R (tuple (Array.mk (List.reverse []))) (w5)))))))))))))
(∃ z24 : World → Prop, (∃ z25 : World → Nat, ((z24 (w)) ∧ (∀ (_ : Nat → Value), (∀ (w27 : World), ((z24 (w27)) → (onP (c1) (fun a28 =>
(∃ s29 : ByteArray, ((cell? w27 a28 = some (string s29)) ∧ (onP (c0) (fun a30 =>
(∃ s31 : ByteArray, ((cell? w27 a30 = some (string s31)) ∧ (Ca Tryd.prog (123) (Array.mk [string s29, string s31]) (w27) (fun v32 => (fun w33 =>
(∃ x34 : Int, ((v32 = int i64 x34) ∧ (ifK (decide (x34 < 0))
(onP (c1) (fun a35 =>
(∃ s36 : ByteArray, ((cell? w33 a35 = some (string s36)) ∧ (CaV Tryd.prog (yield) (Array.mk [string s36]) (w33) (fun v37 => (fun w38 =>
(∃ b39 : Bool, ((v37 = bool b39) ∧ (R (tuple (Array.mk (List.reverse []))) (w38)))))))))))
(onP (c1) (fun a40 =>
(∃ s41 : ByteArray, ((cell? w33 a40 = some (string s41)) ∧ (onP (c2) (fun a42 =>
(∃ x43 : Int, ((cell? w33 a42 = some (int i64 x43)) ∧ (((0 : Int) ≤ 0) ∧ (((0 : Int) ≤ wrap i64 (x34 + x43)) ∧ (((wrap i64 (x34 + x43) : Int) ≤ (↑(ByteArray.size s41) : Int)) ∧ (CaV Tryd.prog (yield) (Array.mk [string (ByteArray.extract s41 0 (Int.toNat (wrap i64 (x34 + x43))))]) (w33) (fun v44 => (fun w45 =>
(∃ b46 : Bool, ((v44 = bool b46) ∧ (ifK (!b46)
(R (tuple (Array.mk (List.reverse []))) (w45))
(onP (c1) (fun a47 =>
(∃ s48 : ByteArray, ((cell? w45 a47 = some (string s48)) ∧ (onP (c0) (fun a49 =>
(∃ s50 : ByteArray, ((cell? w45 a49 = some (string s50)) ∧ (((0 : Int) ≤ wrap i64 (x34 + (↑(ByteArray.size s50) : Int))) ∧ (((wrap i64 (x34 + (↑(ByteArray.size s50) : Int)) : Int) ≤ (↑(ByteArray.size s48) : Int)) ∧ ((((↑(ByteArray.size s48) : Int) : Int) ≤ (↑(ByteArray.size s48) : Int)) ∧ (onP (c1) (fun a51 =>
((∃ v52 : Value, (cell? w45 (add a51 0) = some v52)) ∧ ((frozen? w45 (add a51 0) = false) ∧ (atW (setCell w45 (add a51 0) (string (ByteArray.extract s48 (Int.toNat (wrap i64 (x34 + (↑(ByteArray.size s50) : Int)))) (Int.toNat (↑(ByteArray.size s48) : Int))))) (fun w53 =>
((z24 (w53)) ∧ (z25 w53 < z25 w27)))))))))))))))))))))))))))))))))))))))))))))))))))))))))))))
theorem ca121 (yield : Value) (c0 : Option Addr) (c1 : Option Addr) (c2 : Option Addr) (w : World) (R : Value → World → Prop) (h : W121 yield c0 c1 c2 w R) : Ca Tryd.prog 121 ⟨[yield, (.pointer c0), (.pointer c1), (.pointer c2)]⟩ w R :=
  caB (fn := Tryd.f121) (pl := pl121) (ls := ls121) Tryd.func121 (by kernel_rfl) (by kernel_rfl) h

/-- strings.Index -/
noncomputable def C123 : Code := (Tryd.f123.body).getD .skip
def pl123 : Nat → Plan := fun _ => .done
def ls123 : Nat → List (Nat × LT) := fun _ => []
def W123 (s : ByteArray) (substr : ByteArray) (w : World) (R : Value → World → Prop) : Prop :=
  (Ca Tryd.prog (125) (Array.mk [string s, string substr]) (w) (fun v0 => (fun w1 =>
(∃ x2 : Int, ((v0 = int i64 x2) ∧ (R (int i64 x2) (w1)))))))
theorem ca123 (s : ByteArray) (substr : ByteArray) (w : World) (R : Value → World → Prop) (h : W123 s substr w R) : Ca Tryd.prog 123 ⟨[(.string s), (.string substr)]⟩ w R :=
  caB (fn := Tryd.f123) (pl := pl123) (ls := ls123) Tryd.func123 (by kernel_rfl) (by kernel_rfl) h

/-- internal/stringslite.Index -/
noncomputable def C125 : Code := (Tryd.f125.body).getD .skip
def pl125 : Nat → Plan := fun _ => .done
def ls125 : Nat → List (Nat × LT)
  | 17 => [(8, (.one (.int .i64))), (10, (.one (.int .i64)))]
  | _ => []
def W125 (s : ByteArray) (substr : ByteArray) (w : World) (R : Value → World → Prop) : Prop :=
  (ifK ((↑(ByteArray.size substr) : Int) == 0)
(R (int i64 0) (w))
(ifK (ByteArray.toList substr == ByteArray.toList s)
(R (int i64 0) (w))
(ifK ((↑(ByteArray.size substr) : Int) == 1)
(((0 : Int) ≤ 0) ∧ (((0 : Int) < (↑(ByteArray.size substr) : Int)) ∧ (Ca Tryd.prog (126) (Array.mk [string s, int u8 (byteAt substr 0)]) (w) (fun v0 => (fun w1 =>
(∃ x2 : Int, ((v0 = int i64 x2) ∧ (R (int i64 x2) (w1)))))))))
(ifK (decide ((↑(ByteArray.size substr) : Int) ≥ (↑(ByteArray.size s) : Int)))
(R (int i64 (-1)) (w))
(∃ x3 : Int, ((cell? w (Addr.mk 2 0 none) = some (int i64 x3)) ∧ (ifK (decide ((↑(ByteArray.size substr) : Int) ≤ x3))
(ifK (decide ((↑(ByteArray.size s) : Int) ≤ 64))
(Ca Tryd.prog (127) (Array.mk [string s, string substr]) (w) (fun v4 => (fun w5 =>
(∃ x6 : Int, ((v4 = int i64 x6) ∧ (R (int i64 x6) (w5)))))))
(((0 : Int) ≤ 0) ∧ (((0 : Int) < (↑(ByteArray.size substr) : Int)) ∧ (((0 : Int) ≤ 1) ∧ (((1 : Int) < (↑(ByteArray.size substr) : Int)) ∧ (∃ z7 : Int → Int → World → Prop, (∃ z8 : Int → Int → World → Nat, ((z7 (0) (0) (w)) ∧ (∀ (_ : Nat → Value), (∀ (x10 : Int), (∀ (x11 : Int), (∀ (w12 : World), ((z7 (x10) (x11) (w12)) → (ifK (decide (x10 < wrap i64 (wrap i64 ((↑(ByteArray.size s) : Int) - (↑(ByteArray.size substr) : Int)) + 1)))
(((0 : Int) ≤ x10) ∧ (((x10 : Int) < (↑(ByteArray.size s) : Int)) ∧ (ifK (byteAt s (Int.toNat x10) != byteAt substr 0)
(((0 : Int) ≤ wrap i64 (x10 + 1)) ∧ (((wrap i64 (x10 + 1) : Int) ≤ wrap i64 (wrap i64 ((↑(ByteArray.size s) : Int) - (↑(ByteArray.size substr) : Int)) + 1)) ∧ (((wrap i64 (wrap i64 ((↑(ByteArray.size s) : Int) - (↑(ByteArray.size substr) : Int)) + 1) : Int) ≤ (↑(ByteArray.size s) : Int)) ∧ (Ca Tryd.prog (126) (Array.mk [string (ByteArray.extract s (Int.toNat (wrap i64 (x10 + 1))) (Int.toNat (wrap i64 (wrap i64 ((↑(ByteArray.size s) : Int) - (↑(ByteArray.size substr) : Int)) + 1)))), int u8 (byteAt substr 0)]) (w12) (fun v13 => (fun w14 =>
(∃ x15 : Int, ((v13 = int i64 x15) ∧ (ifK (decide (x15 < 0))
(R (int i64 (-1)) (w14))
(((0 : Int) ≤ wrap i64 (wrap i64 (x10 + wrap i64 (x15 + 1)) + 1)) ∧ (((wrap i64 (wrap i64 (x10 + wrap i64 (x15 + 1)) + 1) : Int) < (↑(ByteArray.size s) : Int)) ∧ (ifK (byteAt s (Int.toNat (wrap i64 (wrap i64 (x10 + wrap i64 (x15 + 1)) + 1))) == byteAt substr 1)
(((0 : Int) ≤ wrap i64 (x10 + wrap i64 (x15 + 1))) ∧ (((wrap i64 (x10 + wrap i64 (x15 + 1)) : Int) ≤ wrap i64 (wrap i64 (x10 + wrap i64 (x15 + 1)) + (↑(ByteArray.size substr) : Int))) ∧ (((wrap i64 (wrap i64 (x10 + wrap i64 (x15 + 1)) + (↑(ByteArray.size substr) : Int)) : Int) ≤ (↑(ByteArray.size s) : Int)) ∧ (ifK (ByteArray.toList (ByteArray.extract s (Int.toNat (wrap i64 (x10 + wrap i64 (x15 + 1)))) (Int.toNat (wrap i64 (wrap i64 (x10 + wrap i64 (x15 + 1)) + (↑(ByteArray.size substr) : Int))))) == ByteArray.toList substr)
(R (int i64 (wrap i64 (x10 + wrap i64 (x15 + 1)))) (w14))
(∃ x16 : Int, ((cell? w14 (Addr.mk 2 0 none) = some (int i64 x16)) ∧ (ifK (decide ((↑(ByteArray.size substr) : Int) ≤ x16))
(Ca Tryd.prog (128) (Array.mk [int i64 (wrap i64 (wrap i64 (x10 + wrap i64 (x15 + 1)) + 1))]) (w14) (fun v17 => (fun w18 =>
(∃ x19 : Int, ((v17 = int i64 x19) ∧ (ifK (decide (wrap i64 (x11 + 1) > x19))
(((0 : Int) ≤ wrap i64 (wrap i64 (x10 + wrap i64 (x15 + 1)) + 1)) ∧ (((wrap i64 (wrap i64 (x10 + wrap i64 (x15 + 1)) + 1) : Int) ≤ (↑(ByteArray.size s) : Int)) ∧ ((((↑(ByteArray.size s) : Int) : Int) ≤ (↑(ByteArray.size s) : Int)) ∧ (Ca Tryd.prog (127) (Array.mk [string (ByteArray.extract s (Int.toNat (wrap i64 (wrap i64 (x10 + wrap i64 (x15 + 1)) + 1))) (Int.toNat (↑(ByteArray.size s) : Int))), string substr]) (w18) (fun v20 => (fun w21 =>
(∃ x22 : Int, ((v20 = int i64 x22) ∧ (ifK (decide (x22 ≥ 0))
(R (int i64 (wrap i64 (x22 + wrap i64 (wrap i64 (x10 + wrap i64 (x15 + 1)) + 1)))) (w21))
(R (int i64 (-1)) (w21)))))))))))
(∃ x23 : Int, ((cell? w18 (Addr.mk 2 0 none) = some (int i64 x23)) ∧ (ifK (decide ((↑(ByteArray.size substr) : Int) > x23))
(((0 : Int) ≤ 4) ∧ (ifK (decide (wrap i64 (x11 + 1) ≥ wrap i64 (4 + Int.fdiv (wrap i64 (wrap i64 (x10 + wrap i64 (x15 + 1)) + 1)) (2 ^ 4))))
(ifK (decide (wrap i64 (wrap i64 (x10 + wrap i64 (x15 + 1)) + 1) < wrap i64 (wrap i64 ((↑(ByteArray.size s) : Int) - (↑(ByteArray.size substr) : Int)) + 1)))
(((0 : Int) ≤ wrap i64 (wrap i64 (x10 + wrap i64 (x15 + 1)) + 1)) ∧ (((wrap i64 (wrap i64 (x10 + wrap i64 (x15 + 1)) + 1) : Int) ≤ (↑(ByteArray.size s) : Int)) ∧ ((((↑(ByteArray.size s) : Int) : Int) ≤ (↑(ByteArray.size s) : Int)) ∧ (Ca Tryd.prog (129) (Array.mk [string (ByteArray.extract s (Int.toNat (wrap i64 (wrap i64 (x10 + wrap i64 (x15 + 1)) + 1))) (Int.toNat (↑(ByteArray.size s) : Int))), string substr]) (w18) (fun v24 => (fun w25 =>
(∃ x26 : Int, ((v24 = int i64 x26) ∧ (ifK (decide (x26 < 0))
(R (int i64 (-1)) (w25))
(R (int i64 (wrap i64 (wrap i64 (wrap i64 (x10 + wrap i64 (x15 + 1)) + 1) + x26))) (w25)))))))))))
((z7 (wrap i64 (wrap i64 (x10 + wrap i64 (x15 + 1)) + 1)) (wrap i64 (x11 + 1)) (w18)) ∧ (z8 (wrap i64 (wrap i64 (x10 + wrap i64 (x15 + 1)) + 1)) (wrap i64 (x11 + 1)) w18 < z8 x10 x11 w12)))
((z7 (wrap i64 (wrap i64 (x10 + wrap i64 (x15 + 1)) + 1)) (wrap i64 (x11 + 1)) (w18)) ∧ (z8 (wrap i64 (wrap i64 (x10 + wrap i64 (x15 + 1)) + 1)) (wrap i64 (x11 + 1)) w18 < z8 x10 x11 w12))))
((z7 (wrap i64 (wrap i64 (x10 + wrap i64 (x15 + 1)) + 1)) (wrap i64 (x11 + 1)) (w18)) ∧ (z8 (wrap i64 (wrap i64 (x10 + wrap i64 (x15 + 1)) + 1)) (wrap i64 (x11 + 1)) w18 < z8 x10 x11 w12)))))))))))
(∃ x27 : Int, ((cell? w14 (Addr.mk 2 0 none) = some (int i64 x27)) ∧ (ifK (decide ((↑(ByteArray.size substr) : Int) > x27))
(((0 : Int) ≤ 4) ∧ (ifK (decide (wrap i64 (x11 + 1) ≥ wrap i64 (4 + Int.fdiv (wrap i64 (wrap i64 (x10 + wrap i64 (x15 + 1)) + 1)) (2 ^ 4))))
(ifK (decide (wrap i64 (wrap i64 (x10 + wrap i64 (x15 + 1)) + 1) < wrap i64 (wrap i64 ((↑(ByteArray.size s) : Int) - (↑(ByteArray.size substr) : Int)) + 1)))
(((0 : Int) ≤ wrap i64 (wrap i64 (x10 + wrap i64 (x15 + 1)) + 1)) ∧ (((wrap i64 (wrap i64 (x10 + wrap i64 (x15 + 1)) + 1) : Int) ≤ (↑(ByteArray.size s) : Int)) ∧ ((((↑(ByteArray.size s) : Int) : Int) ≤ (↑(ByteArray.size s) : Int)) ∧ (Ca Tryd.prog (129) (Array.mk [string (ByteArray.extract s (Int.toNat (wrap i64 (wrap i64 (x10 + wrap i64 (x15 + 1)) + 1))) (Int.toNat (↑(ByteArray.size s) : Int))), string substr]) (w14) (fun v28 => (fun w29 =>
(∃ x30 : Int, ((v28 = int i64 x30) ∧ (ifK (decide (x30 < 0))
(R (int i64 (-1)) (w29))
(R (int i64 (wrap i64 (wrap i64 (wrap i64 (x10 + wrap i64 (x15 + 1)) + 1) + x30))) (w29)))))))))))
((z7 (wrap i64 (wrap i64 (x10 + wrap i64 (x15 + 1)) + 1)) (wrap i64 (x11 + 1)) (w14)) ∧ (z8 (wrap i64 (wrap i64 (x10 + wrap i64 (x15 + 1)) + 1)) (wrap i64 (x11 + 1)) w14 < z8 x10 x11 w12)))
((z7 (wrap i64 (wrap i64 (x10 + wrap i64 (x15 + 1)) + 1)) (wrap i64 (x11 + 1)) (w14)) ∧ (z8 (wrap i64 (wrap i64 (x10 + wrap i64 (x15 + 1)) + 1)) (wrap i64 (x11 + 1)) w14 < z8 x10 x11 w12))))
((z7 (wrap i64 (wrap i64 (x10 + wrap i64 (x15 + 1)) + 1)) (wrap i64 (x11 + 1)) (w14)) ∧ (z8 (wrap i64 (wrap i64 (x10 + wrap i64 (x15 + 1)) + 1)) (wrap i64 (x11 + 1)) w14 < z8 x10 x11 w12))))))))))))
(∃ x31 : Int, ((cell? w14 (Addr.mk 2 0 none) = some (int i64 x31)) ∧ (ifK (decide ((↑(ByteArray.size substr) : Int) ≤ x31))
(Ca Tryd.prog (128) (Array.mk [int i64 (wrap i64 (wrap i64 (x10 + wrap i64 (x15 + 1)) + 1))]) (w14) (fun v32 => (fun w33 =>
(∃ x34 : Int, ((v32 = int i64 x34) ∧ (ifK (decide (wrap i64 (x11 + 1) > x34))
(((0 : Int) ≤ wrap i64 (wrap i64 (x10 + wrap i64 (x15 + 1)) + 1)) ∧ (((wrap i64 (wrap i64 (x10 + wrap i64 (x15 + 1)) + 1) : Int) ≤ (↑(ByteArray.size s) : Int)) ∧ ((((↑(ByteArray.size s) : Int) : Int) ≤ (↑(ByteArray.size s) : Int)) ∧ (Ca Tryd.prog (127) (Array.mk [string (ByteArray.extract s (Int.toNat (wrap i64 (wrap i64 (x10 + wrap i64 (x15 + 1)) + 1))) (Int.toNat (↑(ByteArray.size s) : Int))), string substr]) (w33) (fun v35 => (fun w36 =>
(∃ x37 : Int, ((v35 = int i64 x37) ∧ (ifK (decide (x37 ≥ 0))
(R (int i64 (wrap i64 (x37 + wrap i64 (wrap i64 (x10 + wrap i64 (x15 + 1)) + 1)))) (w36))
(R (int i64 (-1)) (w36)))))))))))
(∃ x38 : Int, ((cell? w33 (Addr.mk 2 0 none) = some (int i64 x38)) ∧ (ifK (decide ((↑(ByteArray.size substr) : Int) > x38))
(((0 : Int) ≤ 4) ∧ (ifK (decide (wrap i64 (x11 + 1) ≥ wrap i64 (4 + Int.fdiv (wrap i64 (wrap i64 (x10 + wrap i64 (x15 + 1)) + 1)) (2 ^ 4))))
(ifK (decide (wrap i64 (wrap i64 (x10 + wrap i64 (x15 + 1)) + 1) < wrap i64 (wrap i64 ((↑(ByteArray.size s) : Int) - (↑(ByteArray.size substr) : Int)) + 1)))
(((0 : Int) ≤ wrap i64 (wrap i64 (x10 + wrap i64 (x15 + 1)) + 1)) ∧ (((wrap i64 (wrap i64 (x10 + wrap i64 (x15 + 1)) + 1) : Int) ≤ (↑(ByteArray.size s) : Int)) ∧ ((((↑(ByteArray.size s) : Int) : Int) ≤ (↑(ByteArray.size s) : Int)) ∧ (Ca Tryd.prog (129) (Array.mk [string (ByteArray.extract s (Int.toNat (wrap i64 (wrap i64 (x10 + wrap i64 (x15 + 1)) + 1))) (Int.toNat (↑(ByteArray.size s) : Int))), string substr]) (w33) (fun v39 => (fun w40 =>
(∃ x41 : Int, ((v39 = int i64 x41) ∧ (ifK (decide (x41 < 0))
(R (int i64 (-1)) (w40))
(R (int i64 (wrap i64 (wrap i64 (wrap i64 (x10 + wrap i64 (x15 + 1)) + 1) + x41))) (w40)))))))))))
((z7 (wrap i64 (wrap i64 (x10 + wrap i64 (x15 + 1)) + 1)) (wrap i64 (x11 + 1)) (w33)) ∧ (z8 (wrap i64 (wrap i64 (x10 + wrap i64 (x15 + 1)) + 1)) (wrap i64 (x11 + 1)) w33 < z8 x10 x11 w12)))
((z7 (wrap i64 (wrap i64 (x10 + wrap i64 (x15 + 1)) + 1)) (wrap i64 (x11 + 1)) (w33)) ∧ (z8 (wrap i64 (wrap i64 (x10 + wrap i64 (x15 + 1)) + 1)) (wrap i64 (x11 + 1)) w33 < z8 x10 x11 w12))))
((z7 (wrap i64 (wrap i64 (x10 + wrap i64 (x15 + 1)) + 1)) (wrap i64 (x11 + 1)) (w33)) ∧ (z8 (wrap i64 (wrap i64 (x10 + wrap i64 (x15 + 1)) + 1)) (wrap i64 (x11 + 1)) w33 < z8 x10 x11 w12)))))))))))
(∃ x42 : Int, ((cell? w14 (Addr.mk 2 0 none) = some (int i64 x42)) ∧ (ifK (decide ((↑(ByteArray.size substr) : Int) > x42))
(((0 : Int) ≤ 4) ∧ (ifK (decide (wrap i64 (x11 + 1) ≥ wrap i64 (4 + Int.fdiv (wrap i64 (wrap i64 (x10 + wrap i64 (x15 + 1)) + 1)) (2 ^ 4))))
(ifK (decide (wrap i64 (wrap i64 (x10 + wrap i64 (x15 + 1)) + 1) < wrap i64 (wrap i64 ((↑(ByteArray.size s) : Int) - (↑(ByteArray.size substr) : Int)) + 1)))
(((0 : Int) ≤ wrap i64 (wrap i64 (x10 + wrap i64 (x15 + 1)) + 1)) ∧ (((wrap i64 (wrap i64 (x10 + wrap i64 (x15 + 1)) + 1) : Int) ≤ (↑(ByteArray.size s) : Int)) ∧ ((((↑(ByteArray.size s) : Int) : Int) ≤ (↑(ByteArray.size s) : Int)) ∧ (Ca Tryd.prog (129) (Array.mk [string (ByteArray.extract s (Int.toNat (wrap i64 (wrap i64 (x10 + wrap i64 (x15 + 1)) + 1))) (Int.toNat (↑(ByteArray.size s) : Int))), string substr]) (w14) (fun v43 => (fun w44 =>
(∃ x45 : Int, ((v43 = int i64 x45) ∧ (ifK (decide (x45 < 0))
(R (int i64 (-1)) (w44))
(R (int i64 (wrap i64 (wrap i64 (wrap i64 (x10 + wrap i64 (x15 + 1)) + 1) + x45))) (w44)))))))))))
((z7 (wrap i64 (wrap i64 (x10 + wrap i64 (x15 + 1)) + 1)) (wrap i64 (x11 + 1)) (w14)) ∧ (z8 (wrap i64 (wrap i64 (x10 + wrap i64 (x15 + 1)) + 1)) (wrap i64 (x11 + 1)) w14 < z8 x10 x11 w12)))
((z7 (wrap i64 (wrap i64 (x10 + wrap i64 (x15 + 1)) + 1)) (wrap i64 (x11 + 1)) (w14)) ∧ (z8 (wrap i64 (wrap i64 (x10 + wrap i64 (x15 + 1)) + 1)) (wrap i64 (x11 + 1)) w14 < z8 x10 x11 w12))))
((z7 (wrap i64 (wrap i64 (x10 + wrap i64 (x15 + 1)) + 1)) (wrap i64 (x11 + 1)) (w14)) ∧ (z8 (wrap i64 (wrap i64 (x10 + wrap i64 (x15 + 1)) + 1)) (wrap i64 (x11 + 1)) w14 < z8 x10 x11 w12))))))))))))))))))))
(((0 : Int) ≤ wrap i64 (x10 + 1)) ∧ (((wrap i64 (x10 + 1) : Int) < (↑(ByteArray.size s) : Int)) ∧ (ifK (byteAt s (Int.toNat (wrap i64 (x10 + 1))) == byteAt substr 1)
(((0 : Int) ≤ x10) ∧ (((x10 : Int) ≤ wrap i64 (x10 + (↑(ByteArray.size substr) : Int))) ∧ (((wrap i64 (x10 + (↑(ByteArray.size substr) : Int)) : Int) ≤ (↑(ByteArray.size s) : Int)) ∧ (ifK (ByteArray.toList (ByteArray.extract s (Int.toNat x10) (Int.toNat (wrap i64 (x10 + (↑(ByteArray.size substr) : Int))))) == ByteArray.toList substr)
(R (int i64 x10) (w12))
(∃ x46 : Int, ((cell? w12 (Addr.mk 2 0 none) = some (int i64 x46)) ∧ (ifK (decide ((↑(ByteArray.size substr) : Int) ≤ x46))
(Ca Tryd.prog (128) (Array.mk [int i64 (wrap i64 (x10 + 1))]) (w12) (fun v47 => (fun w48 =>
(∃ x49 : Int, ((v47 = int i64 x49) ∧ (ifK (decide (wrap i64 (x11 + 1) > x49))
(((0 : Int) ≤ wrap i64 (x10 + 1)) ∧ (((wrap i64 (x10 + 1) : Int) ≤ (↑(ByteArray.size s) : Int)) ∧ ((((↑(ByteArray.size s) : Int) : Int) ≤ (↑(ByteArray.size s) : Int)) ∧ (Ca Tryd.prog (127) (Array.mk [string (ByteArray.extract s (Int.toNat (wrap i64 (x10 + 1))) (Int.toNat (↑(ByteArray.size s) : Int))), string substr]) (w48) (fun v50 => (fun w51 =>
(∃ x52 : Int, ((v50 = int i64 x52) ∧ (ifK (decide (x52 ≥ 0))
(R (int i64 (wrap i64 (x52 + wrap i64 (x10 + 1)))) (w51))
(R (int i64 (-1)) (w51)))))))))))
(∃ x53 : Int, ((cell? w48 (Addr.mk 2 0 none) = some (int i64 x53)) ∧ (ifK (decide ((↑(ByteArray.size substr) : Int) > x53))
(((0 : Int) ≤ 4) ∧ (ifK (decide (wrap i64 (x11 + 1) ≥ wrap i64 (4 + Int.fdiv (wrap i64 (x10 + 1)) (2 ^ 4))))
(ifK (decide (wrap i64 (x10 + 1) < wrap i64 (wrap i64 ((↑(ByteArray.size s) : Int) - (↑(ByteArray.size substr) : Int)) + 1)))
(((0 : Int) ≤ wrap i64 (x10 + 1)) ∧ (((wrap i64 (x10 + 1) : Int) ≤ (↑(ByteArray.size s) : Int)) ∧ ((((↑(ByteArray.size s) : Int) : Int) ≤ (↑(ByteArray.size s) : Int)) ∧ (Ca Tryd.prog (129) (Array.mk [string (ByteArray.extract s (Int.toNat (wrap i64 (x10 + 1))) (Int.toNat (↑(ByteArray.size s) : Int))), string substr]) (w48) (fun v54 => (fun w55 =>
(∃ x56 : Int, ((v54 = int i64 x56) ∧ (ifK (decide (x56 < 0))
(R (int i64 (-1)) (w55))
(R (int i64 (wrap i64 (wrap i64 (x10 + 1) + x56))) (w55)))))))))))
((z7 (wrap i64 (x10 + 1)) (wrap i64 (x11 + 1)) (w48)) ∧ (z8 (wrap i64 (x10 + 1)) (wrap i64 (x11 + 1)) w48 < z8 x10 x11 w12)))
((z7 (wrap i64 (x10 + 1)) (wrap i64 (x11 + 1)) (w48)) ∧ (z8 (wrap i64 (x10 + 1)) (wrap i64 (x11 + 1)) w48 < z8 x10 x11 w12))))
((z7 (wrap i64 (x10 + 1)) (wrap i64 (x11 + 1)) (w48)) ∧ (z8 (wrap i64 (x10 + 1)) (wrap i64 (x11 + 1)) w48 < z8 x10 x11 w12)))))))))))
(∃ x57 : Int, ((cell? w12 (Addr.mk 2 0 none) = some (int i64 x57)) ∧ (ifK (decide ((↑(ByteArray.size substr) : Int) > x57))
(((0 : Int) ≤ 4) ∧ (ifK (decide (wrap i64 (x11 + 1) ≥ wrap i64 (4 + Int.fdiv (wrap i64 (x10 + 1)) (2 ^ 4))))
(ifK (decide (wrap i64 (x10 + 1) < wrap i64 (wrap i64 ((↑(ByteArray.size s) : Int) - (↑(ByteArray.size substr) : Int)) + 1)))
(((0 : Int) ≤ wrap i64 (x10 + 1)) ∧ (((wrap i64 (x10 + 1) : Int) ≤ (↑(ByteArray.size s) : Int)) ∧ ((((↑(ByteArray.size s) : Int) : Int) ≤ (↑(ByteArray.size s) : Int)) ∧ (Ca Tryd.prog (129) (Array.mk [string (ByteArray.extract s (Int.toNat (wrap i64 (x10 + 1))) (Int.toNat (↑(ByteArray.size s) : Int))), string substr]) (w12) (fun v58 => (fun w59 =>
(∃ x60 : Int, ((v58 = int i64 x60) ∧ (ifK (decide (x60 < 0))
(R (int i64 (-1)) (w59))
(R (int i64 (wrap i64 (wrap i64 (x10 + 1) + x60))) (w59)))))))))))
((z7 (wrap i64 (x10 + 1)) (wrap i64 (x11 + 1)) (w12)) ∧ (z8 (wrap i64 (x10 + 1)) (wrap i64 (x11 + 1)) w12 < z8 x10 x11 w12)))
((z7 (wrap i64 (x10 + 1)) (wrap i64 (x11 + 1)) (w12)) ∧ (z8 (wrap i64 (x10 + 1)) (wrap i64 (x11 + 1)) w12 < z8 x10 x11 w12))))
((z7 (wrap i64 (x10 + 1)) (wrap i64 (x11 + 1)) (w12)) ∧ (z8 (wrap i64 (x10 + 1)) (wrap i64 (x11 + 1)) w12 < z8 x10 x11 w12))))))))))))
(∃ x61 : Int, ((cell? w12 (Addr.mk 2 0 none) = some (int i64 x61)) ∧ (ifK (decide ((↑(ByteArray.size substr) : Int) ≤ x61))
(Ca Tryd.prog (128) (Array.mk [int i64 (wrap i64 (x10 + 1))]) (w12) (fun v62 => (fun w63 =>
(∃ x64 : Int, ((v62 = int i64 x64) ∧ (ifK (decide (wrap i64 (x11 + 1) > x64))
(((0 : Int) ≤ wrap i64 (x10 + 1)) ∧ (((wrap i64 (x10 + 1) : Int) ≤ (↑(ByteArray.size s) : Int)) ∧ ((((↑(ByteArray.size s) : Int) : Int) ≤ (↑(ByteArray.size s) : Int)) ∧ (Ca Tryd.prog (127) (Array.mk [string (ByteArray.extract s (Int.toNat (wrap i64 (x10 + 1))) (Int.toNat (↑(ByteArray.size s) : Int))), string substr]) (w63) (fun v65 => (fun w66 =>
(∃ x67 : Int, ((v65 = int i64 x67) ∧ (ifK (decide (x67 ≥ 0))
(R (int i64 (wrap i64 (x67 + wrap i64 (x10 + 1)))) (w66))
(R (int i64 (-1)) (w66)))))))))))
(∃ x68 : Int, ((cell? w63 (Addr.mk 2 0 none) = some (int i64 x68)) ∧ (ifK (decide ((↑(ByteArray.size substr) : Int) > x68))
(((0 : Int) ≤ 4) ∧ (ifK (decide (wrap i64 (x11 + 1) ≥ wrap i64 (4 + Int.fdiv (wrap i64 (x10 + 1)) (2 ^ 4))))
(ifK (decide (wrap i64 (x10 + 1) < wrap i64 (wrap i64 ((↑(ByteArray.size s) : Int) - (↑(ByteArray.size substr) : Int)) + 1)))
(((0 : Int) ≤ wrap i64 (x10 + 1)) ∧ (((wrap i64 (x10 + 1) : Int) ≤ (↑(ByteArray.size s) : Int)) ∧ ((((↑(ByteArray.size s) : Int) : Int) ≤ (↑(ByteArray.size s) : Int)) ∧ (Ca Tryd.prog (129) (Array.mk [string (ByteArray.extract s (Int.toNat (wrap i64 (x10 + 1))) (Int.toNat (↑(ByteArray.size s) : Int))), string substr]) (w63) (fun v69 => (fun w70 =>
(∃ x71 : Int, ((v69 = int i64 x71) ∧ (ifK (decide (x71 < 0))
(R (int i64 (-1)) (w70))
(R (int i64 (wrap i64 (wrap i64 (x10 + 1) + x71))) (w70)))))))))))
((z7 (wrap i64 (x10 + 1)) (wrap i64 (x11 + 1)) (w63)) ∧ (z8 (wrap i64 (x10 + 1)) (wrap i64 (x11 + 1)) w63 < z8 x10 x11 w12)))
((z7 (wrap i64 (x10 + 1)) (wrap i64 (x11 + 1)) (w63)) ∧ (z8 (wrap i64 (x10 + 1)) (wrap i64 (x11 + 1)) w63 < z8 x10 x11 w12))))
((z7 (wrap i64 (x10 + 1)) (wrap i64 (x11 + 1)) (w63)) ∧ (z8 (wrap i64 (x10 + 1)) (wrap i64 (x11 + 1)) w63 < z8 x10 x11 w12)))))))))))
(∃ x72 : Int, ((cell? w12 (Addr.mk 2 0 none) = some (int i64 x72)) ∧ (ifK (decide ((↑(ByteArray.size substr) : Int) > x72))
(((0 : Int) ≤ 4) ∧ (ifK (decide (wrap i64 (x11 + 1) ≥ wrap i64 (4 + Int.fdiv (wrap i64 (x10 + 1)) (2 ^ 4))))
(ifK (decide (wrap i64 (x10 + 1) < wrap i64 (wrap i64 ((↑(ByteArray.size s) : Int) - (↑(ByteArray.size substr) : Int)) + 1)))
(((0 : Int) ≤ wrap i64 (x10 + 1)) ∧ (((wrap i64 (x10 + 1) : Int) ≤ (↑(ByteArray.size s) : Int)) ∧ ((((↑(ByteArray.size s) : Int) : Int) ≤ (↑(ByteArray.size s) : Int)) ∧ (Ca Tryd.prog (129) (Array.mk [string (ByteArray.extract s (Int.toNat (wrap i64 (x10 + 1))) (Int.toNat (↑(ByteArray.size s) : Int))), string substr]) (w12) (fun v73 => (fun w74 =>
(∃ x75 : Int, ((v73 = int i64 x75) ∧ (ifK (decide (x75 < 0))
(R (int i64 (-1)) (w74))
(R (int i64 (wrap i64 (wrap i64 (x10 + 1) + x75))) (w74)))))))))))
((z7 (wrap i64 (x10 + 1)) (wrap i64 (x11 + 1)) (w12)) ∧ (z8 (wrap i64 (x10 + 1)) (wrap i64 (x11 + 1)) w12 < z8 x10 x11 w12)))
((z7 (wrap i64 (x10 + 1)) (wrap i64 (x11 + 1)) (w12)) ∧ (z8 (wrap i64 (x10 + 1)) (wrap i64 (x11 + 1)) w12 < z8 x10 x11 w12))))
((z7 (wrap i64 (x10 + 1)) (wrap i64 (x11 + 1)) (w12)) ∧ (z8 (wrap i64 (x10 + 1)) (wrap i64 (x11 + 1)) w12 < z8 x10 x11 w12))))))))))))))
(R (int i64 (-1)) (w12))))))))))))))))
(((0 : Int) ≤ 0) ∧ (((0 : Int) < (↑(ByteArray.size substr) : Int)) ∧ (((0 : Int) ≤ 1) ∧ (((1 : Int) < (↑(ByteArray.size substr) : Int)) ∧ (∃ z76 : Int → Int → World → Prop, (∃ z77 : Int → Int → World → Nat, ((z76 (0) (0) (w)) ∧ (∀ (_ : Nat → Value), (∀ (x79 : Int), (∀ (x80 : Int), (∀ (w81 : World), ((z76 (x79) (x80) (w81)) → (ifK (decide (x79 < wrap i64 (wrap i64 ((↑(ByteArray.size s) : Int) - (↑(ByteArray.size substr) : Int)) + 1)))
(((0 : Int) ≤ x79) ∧ (((x79 : Int) < (↑(ByteArray.size s) : Int)) ∧ (ifK (byteAt s (Int.toNat x79) != byteAt substr 0)
(((0 : Int) ≤ wrap i64 (x79 + 1)) ∧ (((wrap i64 (x79 + 1) : Int) ≤ wrap i64 (wrap i64 ((↑(ByteArray.size s) : Int) - (↑(ByteArray.size substr) : Int)) + 1)) ∧ (((wrap i64 (wrap i64 ((↑(ByteArray.size s) : Int) - (↑(ByteArray.size substr) : Int)) + 1) : Int) ≤ (↑(ByteArray.size s) : Int)) ∧ (Ca Tryd.prog (126) (Array.mk [string (ByteArray.extract s (Int.toNat (wrap i64 (x79 + 1))) (Int.toNat (wrap i64 (wrap i64 ((↑(ByteArray.size s) : Int) - (↑(ByteArray.size substr) : Int)) + 1)))), int u8 (byteAt substr 0)]) (w81) (fun v82 => (fun w83 =>
(∃ x84 : Int, ((v82 = int i64 x84) ∧ (ifK (decide (x84 < 0))
(R (int i64 (-1)) (w83))
(((0 : Int) ≤ wrap i64 (wrap i64 (x79 + wrap i64 (x84 + 1)) + 1)) ∧ (((wrap i64 (wrap i64 (x79 + wrap i64 (x84 + 1)) + 1) : Int) < (↑(ByteArray.size s) : Int)) ∧ (ifK (byteAt s (Int.toNat (wrap i64 (wrap i64 (x79 + wrap i64 (x84 + 1)) + 1))) == byteAt substr 1)
(((0 : Int) ≤ wrap i64 (x79 + wrap i64 (x84 + 1))) ∧ (((wrap i64 (x79 + wrap i64 (x84 + 1)) : Int) ≤ wrap i64 (wrap i64 (x79 + wrap i64 (x84 + 1)) + (↑(ByteArray.size substr) : Int))) ∧ (((wrap i64 (wrap i64 (x79 + wrap i64 (x84 + 1)) + (↑(ByteArray.size substr) : Int)) : Int) ≤ (↑(ByteArray.size s) : Int)) ∧ (ifK (ByteArray.toList (ByteArray.extract s (Int.toNat (wrap i64 (x79 + wrap i64 (x84 + 1)))) (Int.toNat (wrap i64 (wrap i64 (x79 + wrap i64 (x84 + 1)) + (↑(ByteArray.size substr) : Int))))) == ByteArray.toList substr)
(R (int i64 (wrap i64 (x79 + wrap i64 (x84 + 1)))) (w83))
(∃ x85 : Int, ((cell? w83 (Addr.mk 2 0 none) = some (int i64 x85)) ∧ (ifK (decide ((↑(ByteArray.size substr) : Int) ≤ x85))
(Ca Tryd.prog (128) (Array.mk [int i64 (wrap i64 (wrap i64 (x79 + wrap i64 (x84 + 1)) + 1))]) (w83) (fun v86 => (fun w87 =>
(∃ x88 : Int, ((v86 = int i64 x88) ∧ (ifK (decide (wrap i64 (x80 + 1) > x88))
(((0 : Int) ≤ wrap i64 (wrap i64 (x79 + wrap i64 (x84 + 1)) + 1)) ∧ (((wrap i64 (wrap i64 (x79 + wrap i64 (x84 + 1)) + 1) : Int) ≤ (↑(ByteArray.size s) : Int)) ∧ ((((↑(ByteArray.size s) : Int) : Int) ≤ (↑(ByteArray.size s) : Int)) ∧ (Ca Tryd.prog (127) (Array.mk [string (ByteArray.extract s (Int.toNat (wrap i64 (wrap i64 (x79 + wrap i64 (x84 + 1)) + 1))) (Int.toNat (↑(ByteArray.size s) : Int))), string substr]) (w87) (fun v89 => (fun w90 =>
(∃ x91 : Int, ((v89 = int i64 x91) ∧ (ifK (decide (x91 ≥ 0))
(R (int i64 (wrap i64 (x91 + wrap i64 (wrap i64 (x79 + wrap i64 (x84 + 1)) + 1)))) (w90))
(R (int i64 (-1)) (w90)))))))))))
(∃ x92 : Int, ((cell? w87 (Addr.mk 2 0 none) = some (int i64 x92)) ∧ (ifK (decide ((↑(ByteArray.size substr) : Int) > x92))
(((0 : Int) ≤ 4) ∧ (ifK (decide (wrap i64 (x80 + 1) ≥ wrap i64 (4 + Int.fdiv (wrap i64 (wrap i64 (x79 + wrap i64 (x84 + 1)) + 1)) (2 ^ 4))))
(ifK (decide (wrap i64 (wrap i64 (x79 + wrap i64 (x84 + 1)) + 1) < wrap i64 (wrap i64 ((↑(ByteArray.size s) : Int) - (↑(ByteArray.size substr) : Int)) + 1)))
(((0 : Int) ≤ wrap i64 (wrap i64 (x79 + wrap i64 (x84 + 1)) + 1)) ∧ (((wrap i64 (wrap i64 (x79 + wrap i64 (x84 + 1)) + 1) : Int) ≤ (↑(ByteArray.size s) : Int)) ∧ ((((↑(ByteArray.size s) : Int) : Int) ≤ (↑(ByteArray.size s) : Int)) ∧ (Ca Tryd.prog (129) (Array.mk [string (ByteArray.extract s (Int.toNat (wrap i64 (wrap i64 (x79 + wrap i64 (x84 + 1)) + 1))) (Int.toNat (↑(ByteArray.size s) : Int))), string substr]) (w87) (fun v93 => (fun w94 =>
(∃ x95 : Int, ((v93 = int i64 x95) ∧ (ifK (decide (x95 < 0))
(R (int i64 (-1)) (w94))
(R (int i64 (wrap i64 (wrap i64 (wrap i64 (x79 + wrap i64 (x84 + 1)) + 1) + x95))) (w94)))))))))))
((z76 (wrap i64 (wrap i64 (x79 + wrap i64 (x84 + 1)) + 1)) (wrap i64 (x80 + 1)) (w87)) ∧ (z77 (wrap i64 (wrap i64 (x79 + wrap i64 (x84 + 1)) + 1)) (wrap i64 (x80 + 1)) w87 < z77 x79 x80 w81)))
((z76 (wrap i64 (wrap i64 (x79 + wrap i64 (x84 + 1)) + 1)) (wrap i64 (x80 + 1)) (w87)) ∧ (z77 (wrap i64 (wrap i64 (x79 + wrap i64 (x84 + 1)) + 1)) (wrap i64 (x80 + 1)) w87 < z77 x79 x80 w81))))
((z76 (wrap i64 (wrap i64 (x79 + wrap i64 (x84 + 1)) + 1)) (wrap i64 (x80 + 1)) (w87)) ∧ (z77 (wrap i64 (wrap i64 (x79 + wrap i64 (x84 + 1)) + 1)) (wrap i64 (x80 + 1)) w87 < z77 x79 x80 w81)))))))))))
(∃ x96 : Int, ((cell? w83 (Addr.mk 2 0 none) = some (int i64 x96)) ∧ (ifK (decide ((↑(ByteArray.size substr) : Int) > x96))
(((0 : Int) ≤ 4) ∧ (ifK (decide (wrap i64 (x80 + 1) ≥ wrap i64 (4 + Int.fdiv (wrap i64 (wrap i64 (x79 + wrap i64 (x84 + 1)) + 1)) (2 ^ 4))))
(ifK (decide (wrap i64 (wrap i64 (x79 + wrap i64 (x84 + 1)) + 1) < wrap i64 (wrap i64 ((↑(ByteArray.size s) : Int) - (↑(ByteArray.size substr) : Int)) + 1)))
(((0 : Int) ≤ wrap i64 (wrap i64 (x79 + wrap i64 (x84 + 1)) + 1)) ∧ (((wrap i64 (wrap i64 (x79 + wrap i64 (x84 + 1)) + 1) : Int) ≤ (↑(ByteArray.size s) : Int)) ∧ ((((↑(ByteArray.size s) : Int) : Int) ≤ (↑(ByteArray.size s) : Int)) ∧ (Ca Tryd.prog (129) (Array.mk [string (ByteArray.extract s (Int.toNat (wrap i64 (wrap i64 (x79 + wrap i64 (x84 + 1)) + 1))) (Int.toNat (↑(ByteArray.size s) : Int))), string substr]) (w83) (fun v97 => (fun w98 =>
(∃ x99 : Int, ((v97 = int i64 x99) ∧ (ifK (decide (x99 < 0))
(R (int i64 (-1)) (w98))
(R (int i64 (wrap i64 (wrap i64 (wrap i64 (x79 + wrap i64 (x84 + 1)) + 1) + x99))) (w98)))))))))))
((z76 (wrap i64 (wrap i64 (x79 + wrap i64 (x84 + 1)) + 1)) (wrap i64 (x80 + 1)) (w83)) ∧ (z77 (wrap i64 (wrap i64 (x79 + wrap i64 (x84 + 1)) + 1)) (wrap i64 (x80 + 1)) w83 < z77 x79 x80 w81)))
((z76 (wrap i64 (wrap i64 (x79 + wrap i64 (x84 + 1)) + 1)) (wrap i64 (x80 + 1)) (w83)) ∧ (z77 (wrap i64 (wrap i64 (x79 + wrap i64 (x84 + 1)) + 1)) (wrap i64 (x80 + 1)) w83 < z77 x79 x80 w81))))
((z76 (wrap i64 (wrap i64 (x79 + wrap i64 (x84 + 1)) + 1)) (wrap i64 (x80 + 1)) (w83)) ∧ (z77 (wrap i64 (wrap i64 (x79 + wrap i64 (x84 + 1)) + 1)) (wrap i64 (x80 + 1)) w83 < z77 x79 x80 w81))))))))))))
(∃ x100 : Int, ((cell? w83 (Addr.mk 2 0 none) = some (int i64 x100)) ∧ (ifK (decide ((↑(ByteArray.size substr) : Int) ≤ x100))
(Ca Tryd.prog (128) (Array.mk [int i64 (wrap i64 (wrap i64 (x79 + wrap i64 (x84 + 1)) + 1))]) (w83) (fun v101 => (fun w102 =>
(∃ x103 : Int, ((v101 = int i64 x103) ∧ (ifK (decide (wrap i64 (x80 + 1) > x103))
(((0 : Int) ≤ wrap i64 (wrap i64 (x79 + wrap i64 (x84 + 1)) + 1)) ∧ (((wrap i64 (wrap i64 (x79 + wrap i64 (x84 + 1)) + 1) : Int) ≤ (↑(ByteArray.size s) : Int)) ∧ ((((↑(ByteArray.size s) : Int) : Int) ≤ (↑(ByteArray.size s) : Int)) ∧ (Ca Tryd.prog (127) (Array.mk [string (ByteArray.extract s (Int.toNat (wrap i64 (wrap i64 (x79 + wrap i64 (x84 + 1)) + 1))) (Int.toNat (↑(ByteArray.size s) : Int))), string substr]) (w102) (fun v104 => (fun w105 =>
(∃ x106 : Int, ((v104 = int i64 x106) ∧ (ifK (decide (x106 ≥ 0))
(R (int i64 (wrap i64 (x106 + wrap i64 (wrap i64 (x79 + wrap i64 (x84 + 1)) + 1)))) (w105))
(R (int i64 (-1)) (w105)))))))))))
(∃ x107 : Int, ((cell? w102 (Addr.mk 2 0 none) = some (int i64 x107)) ∧ (ifK (decide ((↑(ByteArray.size substr) : Int) > x107))
(((0 : Int) ≤ 4) ∧ (ifK (decide (wrap i64 (x80 + 1) ≥ wrap i64 (4 + Int.fdiv (wrap i64 (wrap i64 (x79 + wrap i64 (x84 + 1)) + 1)) (2 ^ 4))))
(ifK (decide (wrap i64 (wrap i64 (x79 + wrap i64 (x84 + 1)) + 1) < wrap i64 (wrap i64 ((↑(ByteArray.size s) : Int) - (↑(ByteArray.size substr) : Int)) + 1)))
(((0 : Int) ≤ wrap i64 (wrap i64 (x79 + wrap i64 (x84 + 1)) + 1)) ∧ (((wrap i64 (wrap i64 (x79 + wrap i64 (x84 + 1)) + 1) : Int) ≤ (↑(ByteArray.size s) : Int)) ∧ ((((↑(ByteArray.size s) : Int) : Int) ≤ (↑(ByteArray.size s) : Int)) ∧ (Ca Tryd.prog (129) (Array.mk [string (ByteArray.extract s (Int.toNat (wrap i64 (wrap i64 (x79 + wrap i64 (x84 + 1)) + 1))) (Int.toNat (↑(ByteArray.size s) : Int))), string substr]) (w102) (fun v108 => (fun w109 =>
(∃ x110 : Int, ((v108 = int i64 x110) ∧ (ifK (decide (x110 < 0))
(R (int i64 (-1)) (w109))
(R (int i64 (wrap i64 (wrap i64 (wrap i64 (x79 + wrap i64 (x84 + 1)) + 1) + x110))) (w109)))))))))))
((z76 (wrap i64 (wrap i64 (x79 + wrap i64 (x84 + 1)) + 1)) (wrap i64 (x80 + 1)) (w102)) ∧ (z77 (wrap i64 (wrap i64 (x79 + wrap i64 (x84 + 1)) + 1)) (wrap i64 (x80 + 1)) w102 < z77 x79 x80 w81)))
((z76 (wrap i64 (wrap i64 (x79 + wrap i64 (x84 + 1)) + 1)) (wrap i64 (x80 + 1)) (w102)) ∧ (z77 (wrap i64 (wrap i64 (x79 + wrap i64 (x84 + 1)) + 1)) (wrap i64 (x80 + 1)) w102 < z77 x79 x80 w81))))
((z76 (wrap i64 (wrap i64 (x79 + wrap i64 (x84 + 1)) + 1)) (wrap i64 (x80 + 1)) (w102)) ∧ (z77 (wrap i64 (wrap i64 (x79 + wrap i64 (x84 + 1)) + 1)) (wrap i64 (x80 + 1)) w102 < z77 x79 x80 w81)))))))))))
(∃ x111 : Int, ((cell? w83 (Addr.mk 2 0 none) = some (int i64 x111)) ∧ (ifK (decide ((↑(ByteArray.size substr) : Int) > x111))
(((0 : Int) ≤ 4) ∧ (ifK (decide (wrap i64 (x80 + 1) ≥ wrap i64 (4 + Int.fdiv (wrap i64 (wrap i64 (x79 + wrap i64 (x84 + 1)) + 1)) (2 ^ 4))))
(ifK (decide (wrap i64 (wrap i64 (x79 + wrap i64 (x84 + 1)) + 1) < wrap i64 (wrap i64 ((↑(ByteArray.size s) : Int) - (↑(ByteArray.size substr) : Int)) + 1)))
(((0 : Int) ≤ wrap i64 (wrap i64 (x79 + wrap i64 (x84 + 1)) + 1)) ∧ (((wrap i64 (wrap i64 (x79 + wrap i64 (x84 + 1)) + 1) : Int) ≤ (↑(ByteArray.size s) : Int)) ∧ ((((↑(ByteArray.size s) : Int) : Int) ≤ (↑(ByteArray.size s) : Int)) ∧ (Ca Tryd.prog (129) (Array.mk [string (ByteArray.extract s (Int.toNat (wrap i64 (wrap i64 (x79 + wrap i64 (x84 + 1)) + 1))) (Int.toNat (↑(ByteArray.size s) : Int))), string substr]) (w83) (fun v112 => (fun w113 =>
(∃ x114 : Int, ((v112 = int i64 x114) ∧ (ifK (decide (x114 < 0))
(R (int i64 (-1)) (w113))
(R (int i64 (wrap i64 (wrap i64 (wrap i64 (x79 + wrap i64 (x84 + 1)) + 1) + x114))) (w113)))))))))))
((z76 (wrap i64 (wrap i64 (x79 + wrap i64 (x84 + 1)) + 1)) (wrap i64 (x80 + 1)) (w83)) ∧ (z77 (wrap i64 (wrap i64 (x79 + wrap i64 (x84 + 1)) + 1)) (wrap i64 (x80 + 1)) w83 < z77 x79 x80 w81)))
((z76 (wrap i64 (wrap i64 (x79 + wrap i64 (x84 + 1)) + 1)) (wrap i64 (x80 + 1)) (w83)) ∧ (z77 (wrap i64 (wrap i64 (x79 + wrap i64 (x84 + 1)) + 1)) (wrap i64 (x80 + 1)) w83 < z77 x79 x80 w81))))
((z76 (wrap i64 (wrap i64 (x79 + wrap i64 (x84 + 1)) + 1)) (wrap i64 (x80 + 1)) (w83)) ∧ (z77 (wrap i64 (wrap i64 (x79 + wrap i64 (x84 + 1)) + 1)) (wrap i64 (x80 + 1)) w83 < z77 x79 x80 w81))))))))))))))))))))
(((0 : Int) ≤ wrap i64 (x79 + 1)) ∧ (((wrap i64 (x79 + 1) : Int) < (↑(ByteArray.size s) : Int)) ∧ (ifK (byteAt s (Int.toNat (wrap i64 (x79 + 1))) == byteAt substr 1)
(((0 : Int) ≤ x79) ∧ (((x79 : Int) ≤ wrap i64 (x79 + (↑(ByteArray.size substr) : Int))) ∧ (((wrap i64 (x79 + (↑(ByteArray.size substr) : Int)) : Int) ≤ (↑(ByteArray.size s) : Int)) ∧ (ifK (ByteArray.toList (ByteArray.extract s (Int.toNat x79) (Int.toNat (wrap i64 (x79 + (↑(ByteArray.size substr) : Int))))) == ByteArray.toList substr)
(R (int i64 x79) (w81))
(∃ x115 : Int, ((cell? w81 (Addr.mk 2 0 none) = some (int i64 x115)) ∧ (ifK (decide ((↑(ByteArray.size substr) : Int) ≤ x115))
(Ca Tryd.prog (128) (Array.mk [int i64 (wrap i64 (x79 + 1))]) (w81) (fun v116 => (fun w117 =>
(∃ x118 : Int, ((v116 = int i64 x118) ∧ (ifK (decide (wrap i64 (x80 + 1) > x118))
(((0 : Int) ≤ wrap i64 (x79 + 1)) ∧ (((wrap i64 (x79 + 1) : Int) ≤ (↑(ByteArray.size s) : Int)) ∧ ((((↑(ByteArray.size s) : Int) : Int) ≤ (↑(ByteArray.size s) : Int)) ∧ (Ca Tryd.prog (127) (Array.mk [string (ByteArray.extract s (Int.toNat (wrap i64 (x79 + 1))) (Int.toNat (↑(ByteArray.size s) : Int))), string substr]) (w117) (fun v119 => (fun w120 =>
(∃ x121 : Int, ((v119 = int i64 x121) ∧ (ifK (decide (x121 ≥ 0))
(R (int i64 (wrap i64 (x121 + wrap i64 (x79 + 1)))) (w120))
(R (int i64 (-1)) (w120)))))))))))
(∃ x122 : Int, ((cell? w117 (Addr.mk 2 0 none) = some (int i64 x122)) ∧ (ifK (decide ((↑(ByteArray.size substr) : Int) > x122))
(((0 : Int) ≤ 4) ∧ (ifK (decide (wrap i64 (x80 + 1) ≥ wrap i64 (4 + Int.fdiv (wrap i64 (x79 + 1)) (2 ^ 4))))
(ifK (decide (wrap i64 (x79 + 1) < wrap i64 (wrap i64 ((↑(ByteArray.size s) : Int) - (↑(ByteArray.size substr) : Int)) + 1)))
(((0 : Int) ≤ wrap i64 (x79 + 1)) ∧ (((wrap i64 (x79 + 1) : Int) ≤ (↑(ByteArray.size s) : Int)) ∧ ((((↑(ByteArray.size s) : Int) : Int) ≤ (↑(ByteArray.size s) : Int)) ∧ (Ca Tryd.prog (129) (Array.mk [string (ByteArray.extract s (Int.toNat (wrap i64 (x79 + 1))) (Int.toNat (↑(ByteArray.size s) : Int))), string substr]) (w117) (fun v123 => (fun w124 =>
(∃ x125 : Int, ((v123 = int i64 x125) ∧ (ifK (decide (x125 < 0))
(R (int i64 (-1)) (w124))
(R (int i64 (wrap i64 (wrap i64 (x79 + 1) + x125))) (w124)))))))))))
((z76 (wrap i64 (x79 + 1)) (wrap i64 (x80 + 1)) (w117)) ∧ (z77 (wrap i64 (x79 + 1)) (wrap i64 (x80 + 1)) w117 < z77 x79 x80 w81)))
((z76 (wrap i64 (x79 + 1)) (wrap i64 (x80 + 1)) (w117)) ∧ (z77 (wrap i64 (x79 + 1)) (wrap i64 (x80 + 1)) w117 < z77 x79 x80 w81))))
((z76 (wrap i64 (x79 + 1)) (wrap i64 (x80 + 1)) (w117)) ∧ (z77 (wrap i64 (x79 + 1)) (wrap i64 (x80 + 1)) w117 < z77 x79 x80 w81)))))))))))
(∃ x126 : Int, ((cell? w81 (Addr.mk 2 0 none) = some (int i64 x126)) ∧ (ifK (decide ((↑(ByteArray.size substr) : Int) > x126))
(((0 : Int) ≤ 4) ∧ (ifK (decide (wrap i64 (x80 + 1) ≥ wrap i64 (4 + Int.fdiv (wrap i64 (x79 + 1)) (2 ^ 4))))
(ifK (decide (wrap i64 (x79 + 1) < wrap i64 (wrap i64 ((↑(ByteArray.size s) : Int) - (↑(ByteArray.size substr) : Int)) + 1)))
(((0 : Int) ≤ wrap i64 (x79 + 1)) ∧ (((wrap i64 (x79 + 1) : Int) ≤ (↑(ByteArray.size s) : Int)) ∧ ((((↑(ByteArray.size s) : Int) : Int) ≤ (↑(ByteArray.size s) : Int)) ∧ (Ca Tryd.prog (129) (Array.mk [string (ByteArray.extract s (Int.toNat (wrap i64 (x79 + 1))) (Int.toNat (↑(ByteArray.size s) : Int))), string substr]) (w81) (fun v127 => (fun w128 =>
(∃ x129 : Int, ((v127 = int i64 x129) ∧ (ifK (decide (x129 < 0))
(R (int i64 (-1)) (w128))
(R (int i64 (wrap i64 (wrap i64 (x79 + 1) + x129))) (w128)))))))))))
((z76 (wrap i64 (x79 + 1)) (wrap i64 (x80 + 1)) (w81)) ∧ (z77 (wrap i64 (x79 + 1)) (wrap i64 (x80 + 1)) w81 < z77 x79 x80 w81)))
((z76 (wrap i64 (x79 + 1)) (wrap i64 (x80 + 1)) (w81)) ∧ (z77 (wrap i64 (x79 + 1)) (wrap i64 (x80 + 1)) w81 < z77 x79 x80 w81))))
((z76 (wrap i64 (x79 + 1)) (wrap i64 (x80 + 1)) (w81)) ∧ (z77 (wrap i64 (x79 + 1)) (wrap i64 (x80 + 1)) w81 < z77 x79 x80 w81))))))))))))
(∃ x130 : Int, ((cell? w81 (Addr.mk 2 0 none) = some (int i64 x130)) ∧ (ifK (decide ((↑(ByteArray.size substr) : Int) ≤ x130))
(Ca Tryd.prog (128) (Array.mk [int i64 (wrap i64 (x79 + 1))]) (w81) (fun v131 => (fun w132 =>
(∃ x133 : Int, ((v131 = int i64 x133) ∧ (ifK (decide (wrap i64 (x80 + 1) > x133))
(((0 : Int) ≤ wrap i64 (x79 + 1)) ∧ (((wrap i64 (x79 + 1) : Int) ≤ (↑(ByteArray.size s) : Int)) ∧ ((((↑(ByteArray.size s) : Int) : Int) ≤ (↑(ByteArray.size s) : Int)) ∧ (Ca Tryd.prog (127) (Array.mk [string (ByteArray.extract s (Int.toNat (wrap i64 (x79 + 1))) (Int.toNat (↑(ByteArray.size s) : Int))), string substr]) (w132) (fun v134 => (fun w135 =>
(∃ x136 : Int, ((v134 = int i64 x136) ∧ (ifK (decide (x136 ≥ 0))
(R (int i64 (wrap i64 (x136 + wrap i64 (x79 + 1)))) (w135))
(R (int i64 (-1)) (w135)))))))))))
(∃ x137 : Int, ((cell? w132 (Addr.mk 2 0 none) = some (int i64 x137)) ∧ (ifK (decide ((↑(ByteArray.size substr) : Int) > x137))
(((0 : Int) ≤ 4) ∧ (ifK (decide (wrap i64 (x80 + 1) ≥ wrap i64 (4 + Int.fdiv (wrap i64 (x79 + 1)) (2 ^ 4))))
(ifK (decide (wrap i64 (x79 + 1) < wrap i64 (wrap i64 ((↑(ByteArray.size s) : Int) - (↑(ByteArray.size substr) : Int)) + 1)))
(((0 : Int) ≤ wrap i64 (x79 + 1)) ∧ (((wrap i64 (x79 + 1) : Int) ≤ (↑(ByteArray.size s) : Int)) ∧ ((((↑(ByteArray.size s) : Int) : Int) ≤ (↑(ByteArray.size s) : Int)) ∧ (Ca Tryd.prog (129) (Array.mk [string (ByteArray.extract s (Int.toNat (wrap i64 (x79 + 1))) (Int.toNat (↑(ByteArray.size s) : Int))), string substr]) (w132) (fun v138 => (fun w139 =>
(∃ x140 : Int, ((v138 = int i64 x140) ∧ (ifK (decide (x140 < 0))
(R (int i64 (-1)) (w139))
(R (int i64 (wrap i64 (wrap i64 (x79 + 1) + x140))) (w139)))))))))))
((z76 (wrap i64 (x79 + 1)) (wrap i64 (x80 + 1)) (w132)) ∧ (z77 (wrap i64 (x79 + 1)) (wrap i64 (x80 + 1)) w132 < z77 x79 x80 w81)))
((z76 (wrap i64 (x79 + 1)) (wrap i64 (x80 + 1)) (w132)) ∧ (z77 (wrap i64 (x79 + 1)) (wrap i64 (x80 + 1)) w132 < z77 x79 x80 w81))))
((z76 (wrap i64 (x79 + 1)) (wrap i64 (x80 + 1)) (w132)) ∧ (z77 (wrap i64 (x79 + 1)) (wrap i64 (x80 + 1)) w132 < z77 x79 x80 w81)))))))))))
(∃ x141 : Int, ((cell? w81 (Addr.mk 2 0 none) = some (int i64 x141)) ∧ (ifK (decide ((↑(ByteArray.size substr) : Int) > x141))
(((0 : Int) ≤ 4) ∧ (ifK (decide (wrap i64 (x80 + 1) ≥ wrap i64 (4 + Int.fdiv (wrap i64 (x79 + 1)) (2 ^ 4))))
(ifK (decide (wrap i64 (x79 + 1) < wrap i64 (wrap i64 ((↑(ByteArray.size s) : Int) - (↑(ByteArray.size substr) : Int)) + 1)))
(((0 : Int) ≤ wrap i64 (x79 + 1)) ∧ (((wrap i64 (x79 + 1) : Int) ≤ (↑(ByteArray.size s) : Int)) ∧ ((((↑(ByteArray.size s) : Int) : Int) ≤ (↑(ByteArray.size s) : Int)) ∧ (Ca Tryd.prog (129) (Array.mk [string (ByteArray.extract s (Int.toNat (wrap i64 (x79 + 1))) (Int.toNat (↑(ByteArray.size s) : Int))), string substr]) (w81) (fun v142 => (fun w143 =>
(∃ x144 : Int, ((v142 = int i64 x144) ∧ (ifK (decide (x144 < 0))
(R (int i64 (-1)) (w143))
(R (int i64 (wrap i64 (wrap i64 (x79 + 1) + x144))) (w143)))))))))))
((z76 (wrap i64 (x79 + 1)) (wrap i64 (x80 + 1)) (w81)) ∧ (z77 (wrap i64 (x79 + 1)) (wrap i64 (x80 + 1)) w81 < z77 x79 x80 w81)))
((z76 (wrap i64 (x79 + 1)) (wrap i64 (x80 + 1)) (w81)) ∧ (z77 (wrap i64 (x79 + 1)) (wrap i64 (x80 + 1)) w81 < z77 x79 x80 w81))))
((z76 (wrap i64 (x79 + 1)) (wrap i64 (x80 + 1)) (w81)) ∧ (z77 (wrap i64 (x79 + 1)) (wrap i64 (x80 + 1)) w81 < z77 x79 x80 w81))))))))))))))
(R (int i64 (-1)) (w81))))))))))))))))))))))
theorem ca125 (s : ByteArray) (substr : ByteArray) (w : World) (R : Value → World → Prop) (h : W125 s substr w R) : Ca Tryd.prog 125 ⟨[(.string s), (.string substr)]⟩ w R :=
  caB (fn := Tryd.f125) (pl := pl125) (ls := ls125) Tryd.func125 (by kernel_rfl) (by kernel_rfl) h

/-- internal/stringslite.IndexByte -/
noncomputable def C126 : Code := (Tryd.f126.body).getD .skip
def pl126 : Nat → Plan := fun _ => .done
def ls126 : Nat → List (Nat × LT) := fun _ => []
def W126 (s : ByteArray) (c : Int) (w : World) (R : Value → World → Prop) : Prop :=
  (Ca Tryd.prog (130) (Array.mk [string s, int u8 c]) (w) (fun v0 => (fun w1 =>
(∃ x2 : Int, ((v0 = int i64 x2) ∧ (R (int i64 x2) (w1)))))))
theorem ca126 (s : ByteArray) (c : Int) (w : World) (R : Value → World → Prop) (h : W126 s c w R) : Ca Tryd.prog 126 ⟨[(.string s), (.int .u8 c)]⟩ w R :=
  caB (fn := Tryd.f126) (pl := pl126) (ls := ls126) Tryd.func126 (by kernel_rfl) (by kernel_rfl) h
end Go.Proofs.YtehhhkcemmfjpaaDoor

/- The library's stringslite.IndexByte, Index, at a separator of one byte. -/
namespace Go.Proofs.YtehhhkcemmfjpaaDoor
open Go Go.RowKit Go.Proofs.YtehhhkcemmfjpaaDoor.St

set_option maxRecDepth 100000 in
set_option maxHeartbeats 2000000 in
theorem indexByte_calls (s : ByteArray) (c : Int) (w : World) :
    Calls Tryd.prog 126 #[.string s, .int .u8 c] w fun e w' => e = .returned (.int .i64 (Lib.indexByte s.data.toList c.toNat.toUInt8)) ∧ w' = w := by
  have mixed : Tryd.prog.follows .mixedOrders = true := by kernel_rfl
  go_enter Tryd.func126, Tryd.ntmps126
  go_wp2
  rw [run_callFunc_extern Tryd.func130 (by kernel_rfl) (by kernel_rfl) (by kernel_rfl) (e := Extern.BytealgIndexByte.indexByte) (by kernel_rfl), Lib.run_indexByteString]
  simp only [Result.andThen]
  rw [Oper.upon_value]
  go_wp2
  go_ret
  exact ⟨rfl, rfl⟩
theorem indexByte_ok (s : ByteArray) (c : Int) (w : World) (R : Value → World → Prop) (h : R (.int .i64 (Lib.indexByte s.data.toList c.toNat.toUInt8)) w) : Ca Tryd.prog 126 #[.string s, .int .u8 c] w R :=
  ⟨fun w => callFunc_run (c := C126) Tryd.func126 (by kernel_rfl) (by kernel_rfl) _ w, (indexByte_calls s c w).mono fun e w' ⟨h1, h2⟩ => by subst h2; exact ⟨_, h1, h⟩⟩
def dot : ByteArray := ByteArray.mk #[46]
theorem index_ok (s : ByteArray) (w : World) (R : Value → World → Prop) (h : R (.int .i64 (Lib.indexByte s.data.toList 46)) w) : Ca Tryd.prog 123 #[.string s, .string dot] w R := by
  refine ca123 s dot w R ?_
  refine ca125 s dot w _ ?_
  refine ifK_of (fun h0 => by cases h0) fun _ => ifK_of (fun he => ?_) fun _ => ifK_of (fun _ => ⟨by decide, by decide, indexByte_ok _ _ _ _ ⟨_, rfl, _, rfl, h⟩⟩) fun h0 => by cases h0
  have : s = dot := (ba_toList _ _ (eq_of_beq he)).symm
  subst this
  exact ⟨_, rfl, h⟩
end Go.Proofs.YtehhhkcemmfjpaaDoor

/- The program's Words: what lies between the dots. -/
namespace Go.Proofs.YtehhhkcemmfjpaaDoor
open Go Go.Proofs.YtehhhkcemmfjpaaDoor Go.Proofs.YtehhhkcemmfjpaaDoor.St

def splitD : List UInt8 → List (List UInt8)
  | [] => [[]]
  | c :: r => if c = 46 then [] :: splitD r else match splitD r with | [] => [[c]] | x :: xs => (c :: x) :: xs
theorem splitD_ne : ∀ l, splitD l ≠ []
  | [] => by simp [splitD]
  | c :: r => by
    simp only [splitD]
    split
    · simp
    · split <;> simp
theorem splitD_len : ∀ l, (splitD l).length ≤ l.length + 1
  | [] => by simp [splitD]
  | c :: r => by
    have := splitD_len r
    simp only [splitD]
    split
    · simp; omega
    · split
      · simp
      · rename_i x xs h
        rw [h] at this
        simp at this ⊢
        omega
theorem index_cases : ∀ l : List UInt8, (Lib.indexByte l 46 = -1 ∧ splitD l = [l]) ∨ ∃ i : Nat, Lib.indexByte l 46 = i ∧ i < l.length ∧ splitD l = l.take i :: splitD (l.drop (i + 1))
  | [] => .inl ⟨rfl, rfl⟩
  | c :: r => by
    by_cases hc : c = 46
    · subst hc
      exact .inr ⟨0, rfl, by simp, by simp [splitD]⟩
    · have hb : (c == 46) = false := beq_false_of_ne hc
      rcases index_cases r with ⟨h1, h2⟩ | ⟨i, h1, h2, h3⟩
      · refine .inl ⟨by simp [Lib.indexByte, hb, h1], by simp [splitD, hc, h2]⟩
      · refine .inr ⟨i + 1, ?_, by simpa using h2, by simp [splitD, hc, h3]⟩
        have : ¬ ((i : Int) = -1) := by omega
        simp [Lib.indexByte, hb, h1, this]
def bs (l : List UInt8) : ByteArray := ⟨l.toArray⟩
theorem bs_data (s : ByteArray) : bs s.data.toList = s := rfl
theorem bs_size (l : List UInt8) : (bs l).size = l.length := rfl
theorem bs_list (l : List UInt8) : (bs l).data.toList = l := rfl
/-- The words of a text. -/
def wordsOf (s : ByteArray) : List ByteArray := if s.size = 0 then [] else (splitD s.data.toList).map bs
theorem bs_extract (l : List UInt8) (i j : Nat) : (bs l).extract i j = bs ((l.drop i).take (j - i)) := by
  apply ByteArray.ext
  rw [ByteArray.data_extract]
  apply Array.ext'
  simp [bs, List.extract_eq_take_drop]

set_option maxRecDepth 100000 in
theorem words_ok (s : ByteArray) (w : World) (hs : s.size < 1000000000) (R : Value → World → Prop)
    (h : ∀ w' a l c, Els Value.string 9 w' a l c (wordsOf s) → Mod no w w' → (∀ k, rowB a k → w.heap.size ≤ k) → R (.slice a l c) w') : Ca Tryd.prog 72 #[.string s] w R := by
  refine ca72 s w R (ifK_of (fun he => ?_) fun hne => ?_)
  · have : s.size = 0 := by
      have : s = ByteArray.mk #[] := ba_toList _ _ (eq_of_beq he)
      rw [this]; rfl
    exact h w none 0 0 (by rw [wordsOf, if_pos this]; exact Els.nil _ _) (Mod.refl _ _) fun k hk => by cases hk
  have hpos : s.size ≠ 0 := fun h0 => by
    have : s = ByteArray.mk #[] := ByteArray.ext (Array.eq_empty_of_size_eq_zero h0)
    rw [this] at hne
    simp at hne
  intro w0 e0
  have n0 : Mod no w w0 := by subst e0; exact Mod.alloc _ _
  have b0 : w0.heap[w.heap.size]? = some (.cells #[.slice none 0 0] 51 (0, 0)) := by subst e0; exact new_at _ _
  have s0 : w0.heap.size = w.heap.size + 1 := by subst e0; simp
  clear e0
  refine ca104 s dot w0 _ ?_
  refine ca117 s dot 0 w0 _ ?_
  intro u0 e0
  have p0 : Mod no w0 u0 := by subst e0; exact Mod.alloc _ _
  have c0 : u0.heap[w0.heap.size]? = some (.cells #[.string s] 9 (0, 0)) := by subst e0; exact new_at _ _
  have z0 : u0.heap.size = w0.heap.size + 1 := by subst e0; simp
  clear e0
  intro u1 e1
  have p1 : Mod no u0 u1 := by subst e1; exact Mod.alloc _ _
  have c1 : u1.heap[u0.heap.size]? = some (.cells #[.string dot] 9 (0, 0)) := by subst e1; exact new_at _ _
  have z1 : u1.heap.size = u0.heap.size + 1 := by subst e1; simp
  clear e1
  intro w2 e2
  have p2 : Mod no u1 w2 := by subst e2; exact Mod.alloc _ _
  have c2 : w2.heap[u1.heap.size]? = some (.cells #[.int .i64 0] 3 (0, 0)) := by subst e2; exact new_at _ _
  have z2 : w2.heap.size = u1.heap.size + 1 := by subst e2; simp
  clear e2
  have c1 := p2.at' c1
  have c0 := p2.at' (p1.at' c0)
  have n02 := (p0.trans p1).trans p2
  have b2 := n02.at' b0
  have n2 := n0.trans n02
  refine ⟨_, rfl, _, rfl, ⟨_, _, _, rfl⟩, ?_⟩
  intro Rdy Bsy hrs hbs hrb w3 m3 s3 hr3 hy
  -- what has been gathered, and what is left
  let Inv : List ByteArray → List UInt8 → World → Prop := fun pre rest w' => Rdy w' ∧ w'.heap[w0.heap.size]? = some (.cells #[.string (bs rest)] 9 (0, 0)) ∧ w'.heap[u0.heap.size]? = some (.cells #[.string dot] 9 (0, 0)) ∧
    w'.heap[u1.heap.size]? = some (.cells #[.int .i64 0] 3 (0, 0)) ∧ Mod no w w' ∧ w2.heap.size + 2 ≤ w'.heap.size ∧
    ∃ a l c, w'.heap[w.heap.size]? = some (.cells #[.slice a l c] 51 (0, 0)) ∧ Els Value.string 9 w' a l c pre ∧ ∀ k, rowB a k → w2.heap.size + 2 ≤ k
  have yield1 : ∀ (pre : List ByteArray) (rest : List UInt8) (x : ByteArray) (w5 : World) (K : World → Prop), Inv pre rest w5 → pre.length < 1000000001 → (∀ w6, Inv (pre ++ [x]) rest w6 → K w6) →
      CaV Tryd.prog (.func (.yield (w2.heap.size + 1)) #[] #[]) #[.string x] w5 fun v w6 => v = .bool true ∧ K w6 := by
    rintro pre rest x w5 K ⟨hr, i0, i1, i2, im, isz, a, l, c, ib, ie, ia⟩ hpl hK
    refine hy (.string x) w5 K hr ⟨hr, fun w6 hbz m6 s6 => ?_⟩
    have q : ∀ k, k < w2.heap.size → ¬ k = w2.heap.size + 1 := fun k hk => by omega
    have b6 := m6.at ib (q _ (by omega))
    have e6 : Els Value.string 9 w6 a l c pre := ie.mod m6 fun k hk hS => by have := ia k hk; omega
    have hl6 := e6.len.1
    refine ⟨a, l, c, by rw [cl b6]; rfl, ?_⟩
    intro w10 e10
    have m10 : Mod no w6 w10 := by subst e10; exact Mod.alloc _ _
    have b10 : w10.heap[w6.heap.size]? = some (.cells #[.string x] 9 (0, 0)) := by subst e10; exact new_at _ _
    clear e10
    obtain ⟨a', c', w12, hrun, e12, m12, hnew⟩ := Els.push1 (P := Tryd.prog) (t := 51) (ty := 51) (fun _ => rfl) (by kernel_rfl) (e6.no m10) b10 (by omega)
    have hbox : ¬ rowB a w.heap.size := fun hk => by have := ia _ hk; omega
    have b12 := m12.at (m10.at' b6) hbox
    refine ⟨_, w12, hrun, _, _, _, rfl, ⟨_, by rw [cl1 b12]; rfl⟩, fz1 b12 _, ?_⟩
    intro w17 e17
    have m17 : Mod (on w.heap.size) w12 w17 := by subst e17; exact Mod.set1 _ _ _ _
    have b17 : w17.heap[w.heap.size]? = some (.cells #[.slice a' (l + 1) c'] 51 (0, 0)) := by subst e17; rw [set1 b12]; rfl
    clear e17
    have hs6 : w2.heap.size + 2 ≤ w6.heap.size := by omega
    have hs10 := m10.size
    have hnew' : ∀ k, rowB a' k → w2.heap.size + 2 ≤ k := fun k hk => (hnew k hk).elim (ia k) (fun h => by omega)
    have e17 : Els Value.string 9 w17 a' (l + 1) c' (pre ++ [x]) := e12.mod m17 fun k hk e => by cases e; have := hnew' _ hk; omega
    have mA : Mod (fun k => rowB a k ∨ k = w.heap.size) w6 w17 := (m10.no_trans (m12.mono fun k _ hk => .inl hk)).trans' m17 fun k _ hk => .inr hk
    obtain ⟨h1, r, h2⟩ := hrb w6 (.inr hbz)
    have k1 : ¬ (rowB a w2.heap.size ∨ w2.heap.size = w.heap.size) := fun h => h.elim (fun h => by have := ia _ h; omega) (by omega)
    have k2 : ¬ (rowB a (w2.heap.size + 1) ∨ w2.heap.size + 1 = w.heap.size) := fun h => h.elim (fun h => by have := ia _ h; omega) (by omega)
    refine ⟨hbs w6 w17 hbz (by rw [mA.at h1 k1, h1]) (by rw [mA.at h2 k2, h2]), fun w7 hr7 m7 s7 => hK w7 ?_⟩
    have mB : Mod (fun k => k = w2.heap.size + 1 ∨ (rowB a k ∨ k = w.heap.size)) w5 w7 := ((m6.mono fun k _ hk => .inl hk).trans' mA fun k _ hk => .inr hk).trans' m7 fun k _ hk => .inl hk
    have keep : ∀ k o, w5.heap[k]? = some o → w.heap.size < k → k < w2.heap.size → w7.heap[k]? = some o := fun k o ho hk1 hk2 => mB.at ho fun hS => by
      rcases hS with h | h | h
      · omega
      · have := ia _ h; omega
      · omega
    refine ⟨hr7, keep _ _ i0 (by omega) (by omega), keep _ _ i1 (by omega) (by omega), keep _ _ i2 (by omega) (by omega), ?_, Nat.le_trans isz mB.size, a', l + 1, c', m7.at b17 (q _ (by omega)), e17.mod m7 fun k hk hS => by have := hnew' k hk; omega, hnew'⟩
    refine im.new mB fun k hS => ?_
    rcases hS with h | h | h
    · omega
    · have := ia _ h; omega
    · omega
  have done : ∀ (w5 : World), Inv (wordsOf s) [] w5 ∨ (∃ rest, Inv (wordsOf s) rest w5) → Rdy w5 ∧ ∀ w6, Mod (fun k => k = w2.heap.size ∨ k = w2.heap.size + 1) w5 w6 → w6.heap.size = w5.heap.size → w6.heap[w2.heap.size]? = some (.deferred (some [])) →
      ∃ p22 n23 n24, w6.cell? ⟨w.heap.size, 0, none⟩ = some (.slice p22 n23 n24) ∧ w6.heap[w2.heap.size]? = some (.deferred (some [])) ∧ atW (w6.putObj w2.heap.size (.deferred none)) fun w25 => R (.slice p22 n23 n24) w25 := by
    intro w5 hI
    obtain ⟨rest, hr, i0, i1, i2, im, isz, a, l, c, ib, ie, ia⟩ : ∃ rest, Inv (wordsOf s) rest w5 := hI.elim (fun h => ⟨[], h⟩) id
    refine ⟨hr, fun w6 m6 s6 hd => ?_⟩
    have b6 := m6.at ib (by omega)
    have e6 : Els Value.string 9 w6 a l c (wordsOf s) := ie.mod m6 fun k hk hS => by have := ia k hk; omega
    have im6 : Mod no w w6 := im.new m6 fun k hS => by omega
    refine ⟨a, l, c, by rw [cl b6]; rfl, hd, fun w25 e25 => ?_⟩
    have m25 : Mod (on w2.heap.size) w6 w25 := by subst e25; exact Mod.putObj _ _ _
    exact h w25 a l c (e6.mod m25 fun k hk hS => by cases hS; have := ia _ hk; omega) (im6.new m25 fun k hk => by cases hk; omega) fun k hk => by have := ia k hk; omega
  refine (ca121 (.func (.yield (w2.heap.size + 1)) #[] #[]) (some ⟨u0.heap.size, 0, none⟩) (some ⟨w0.heap.size, 0, none⟩) (some ⟨u1.heap.size, 0, none⟩) w3 _ ?_ : Ca _ _ _ _ _)
  have c0 := m3.at c0 id
  have c1 := m3.at c1 id
  have c2 := m3.at c2 id
  have b3 := m3.at b2 id
  refine ⟨dot, by rw [cl c1]; rfl, ifK_of (fun h0 => by cases h0) fun _ => ?_⟩
  refine ⟨fun w' => ∃ pre rest, Inv pre rest w' ∧ pre ++ (splitD rest).map bs = wordsOf s ∧ pre.length + rest.length ≤ s.size, fun w' => match w'.cell? ⟨w0.heap.size, 0, none⟩ with | some (.string t) => t.size | _ => 0,
    ⟨[], s.data.toList, ⟨hr3, c0, c1, c2, n2.trans (m3.mono fun _ _ h => h.elim), by omega, none, 0, 0, b3, Els.nil _ _, fun k hk => by cases hk⟩, by rw [wordsOf, if_neg hpos]; rfl, by simp⟩, ?_⟩
  rintro _ w5 ⟨pre, rest, hI, hsp, hlen⟩
  obtain ⟨hr, i0, i1, i2, im, isz, a, l, c, ib, ie, ia⟩ := hI
  have i05 := i0
  have hI : Inv pre rest w5 := ⟨hr, i0, i1, i2, im, isz, a, l, c, ib, ie, ia⟩
  refine ⟨bs rest, by rw [cl i0]; rfl, dot, by rw [cl i1]; rfl, index_ok _ _ _ ⟨_, rfl, ?_⟩⟩
  rw [bs_list]
  rcases index_cases rest with ⟨h1, h2⟩ | ⟨i, h1, h2, h3⟩
  · rw [h1]
    refine ifK_of (fun _ => ?_) fun h0 => by cases h0
    refine ⟨bs rest, by rw [cl i0]; rfl, (yield1 pre rest (bs rest) w5 _ hI (by omega) fun w6 h6 => ?_).mono fun v w6 hv => ⟨true, hv.1, hv.2⟩⟩
    refine done w6 (.inr ⟨rest, ?_⟩)
    rw [h2] at hsp
    rw [← hsp]
    exact h6
  · rw [h1]
    refine ifK_dec (fun h0 => by omega) fun _ => ?_
    have e1 : IntKind.i64.wrap ((i : Int) + 0) = (i : Int) := (by first | (simp only [IntKind.wrap_i64]; omega) | omega)
    have e2 : IntKind.i64.wrap ((i : Int) + (dot.size : Nat)) = ((i + 1 : Nat) : Int) := by rw [show dot.size = 1 from rfl]; exact (by first | (simp only [IntKind.wrap_i64]; omega) | omega)
    refine ⟨bs rest, by rw [cl i0]; rfl, 0, by rw [cl i2]; rfl, by decide, ?_⟩
    rw [e1]
    refine ⟨by omega, by rw [bs_size]; omega, ?_⟩
    rw [Int.toNat_natCast, bs_extract]
    refine (yield1 pre rest (bs (rest.take i)) w5 _ hI (by omega) fun w6 h6 => ?_).mono fun v w6 hv => ⟨true, hv.1, hv.2⟩
    obtain ⟨hr, i0, i1, i2, im, isz, a, l, c, ib, ie, ia⟩ := h6
    refine ifK_of (fun h0 => by cases h0) fun _ => ?_
    refine ⟨bs rest, by rw [cl i0]; rfl, dot, by rw [cl i1]; rfl, ?_⟩
    rw [e2]
    refine ⟨by omega, by rw [bs_size]; omega, by omega, ⟨_, by rw [cl1 i0]; rfl⟩, fz1 i0 _, ?_⟩
    rw [Int.toNat_natCast, Int.toNat_natCast, bs_extract, bs_size, List.take_of_length_le (by simp)]
    intro w7 e7
    have m7 : Mod (on w0.heap.size) w6 w7 := by subst e7; exact Mod.set1 _ _ _ _
    have j0 : w7.heap[w0.heap.size]? = some (.cells #[.string (bs (rest.drop (i + 1)))] 9 (0, 0)) := by subst e7; rw [set1 i0]; rfl
    clear e7
    obtain ⟨g1, r, g2⟩ := hrb w6 (.inl hr)
    refine ⟨⟨pre ++ [bs (rest.take i)], rest.drop (i + 1), ⟨hrs w6 w7 hr (by rw [m7.at g1 (show ¬ w2.heap.size = w0.heap.size by omega), g1]) (by rw [m7.at g2 (show ¬ w2.heap.size + 1 = w0.heap.size by omega), g2]), j0, m7.at i1 (show ¬ u0.heap.size = w0.heap.size by omega), m7.at i2 (show ¬ u1.heap.size = w0.heap.size by omega), im.new m7 (fun k hk => by cases hk; omega), Nat.le_trans isz m7.size,
      a, l, c, m7.at ib (show ¬ w.heap.size = w0.heap.size by omega), ie.mod m7 (fun k hk hS => by cases hS; have := ia _ hk; omega), ia⟩, ?_, ?_⟩, ?_⟩
    · rw [← hsp, h3]
      simp
    · simp
      omega
    · show (match w7.cell? ⟨w0.heap.size, 0, none⟩ with | some (.string t) => t.size | _ => 0) < (match w5.cell? ⟨w0.heap.size, 0, none⟩ with | some (.string t) => t.size | _ => 0)
      rw [cl j0, cl i05]
      show (bs (rest.drop (i + 1))).size < (bs rest).size
      rw [bs_size, bs_size, List.length_drop]
      omega
end Go.Proofs.YtehhhkcemmfjpaaDoor

/- The program's Key and Pattern, may, and Bind. -/
namespace Go.Proofs.YtehhhkcemmfjpaaDoor
open Go Go.Proofs.YtehhhkcemmfjpaaDoor Go.Proofs.YtehhhkcemmfjpaaDoor.St

/-- A test of words. -/
abbrev TestW (f : Value) (φ : ByteArray → Bool) (w : World) : Prop := ∀ x w', Mod no w w' → ∀ R : Value → World → Prop, (∀ w'', Mod no w' w'' → R (.bool (φ x)) w'') → CaV Tryd.prog f #[.string x] w' R
theorem contains_ok (f : Value) (φ : ByteArray → Bool) (w : World) (a : Option Addr) (l c : Nat) (xs : List ByteArray) (hx : Els Value.string 9 w a l c xs) (hl : l < 1000000000) (hf : TestW f φ w) (R : Value → World → Prop)
    (h : ∀ w', Mod no w w' → R (.bool (xs.any φ)) w') : Ca Tryd.prog 74 #[.slice a l c, f] w R := by
  refine ca74 a l c f w R ?_
  refine ca105 a l c f w _ ?_
  have hxl := hx.len.1
  refine ⟨fun x w' => ∃ i : Nat, x = i ∧ i ≤ l ∧ Mod no w w' ∧ (xs.any φ) = ((xs.drop i).any φ), fun x _ => ((l : Int) - x).toNat, ⟨0, rfl, by omega, Mod.refl _ _, rfl⟩, ?_⟩
  rintro _ _ w4 ⟨i, rfl, hi, m4, he⟩
  refine ifK_dec (fun hlt => ?_) (fun hge => ?_)
  · have hil : i < xs.length := by omega
    have hd : xs.drop i = at0 xs i :: xs.drop (i + 1) := by rw [List.drop_eq_getElem_cons hil, at0_eq hil]
    refine (hx.no m4).rd i rfl (by omega) (hf _ w4 m4 _ fun w8 m8 => ⟨_, rfl, ifK_of (fun ht => ?_) (fun hf => ?_)⟩)
    · refine ⟨_, rfl, ?_⟩
      have h' := h w8 (m4.trans m8)
      rw [he, hd, List.any_cons, ht] at h'
      rw [show decide ((i : Int) ≥ 0) = true from decide_eq_true (by omega)]
      exact h'
    · refine ⟨⟨i + 1, (by first | (simp only [IntKind.wrap_i64]; omega) | omega), by omega, m4.trans m8, ?_⟩, (by first | (simp only [IntKind.wrap_i64]; omega) | omega)⟩
      rw [he, hd, List.any_cons, hf, Bool.false_or]
  · refine ⟨_, rfl, ?_⟩
    have h' := h w4 m4
    rw [he, List.drop_eq_nil_of_le (by omega)] at h'
    exact h'
/-- Is a text of words that are so? -/
def madeB (φ : ByteArray → Bool) (s : ByteArray) : Bool := decide (s.size ≤ 60) && (decide ((wordsOf s).length ≤ 12) && (wordsOf s).all φ)
theorem madeS_ok (s : ByteArray) (f : Fn) (fa ca : Array Value) (φ : ByteArray → Bool) (w : World) (hs : s.size < 1000000000) (hf : TestW (.func f fa ca) φ w) (R : Value → World → Prop) (h : ∀ w', Mod no w w' → R (.bool (madeB φ s)) w') :
    Ca Tryd.prog 61 #[.string s, .func f fa ca] w R := by
  refine ca61 s (.func f fa ca) w R ?_
  intro w0 e0
  have m0 : Mod no w w0 := by subst e0; exact Mod.alloc _ _
  have b0 : ∃ t, w0.heap[w.heap.size]? = some (.cells #[.func f fa ca] t (0, 0)) := by subst e0; exact ⟨_, new_at _ _⟩
  clear e0
  obtain ⟨t, b0⟩ := b0
  refine words_ok s w0 hs _ fun w2 a l c hx m2 hn => ⟨a, l, c, rfl, ?_⟩
  have hxl := hx.len.1
  have m02 := m0.trans m2
  have hwl : (wordsOf s).length ≤ s.size + 1 := by
    unfold wordsOf
    split
    · simp
    · rw [List.length_map]; exact splitD_len _
  refine ifK_dec (fun h1 => ifK_dec (fun h2 => ?_) fun h2 => ?_) fun h1 => ?_
  · refine contains_ok _ (fun x => !φ x) w2 a l c _ hx (by omega) (fun x w' mw R' hR' => ?_) _ fun w7 m7 => ⟨_, rfl, ?_⟩
    · refine (ca73 x (some ⟨w.heap.size, 0, none⟩) w' R' ?_ : Ca _ _ _ _ _)
      have bb := mw.at' (m2.at' b0)
      exact ⟨_, by rw [cl bb]; rfl, hf x w' (m02.trans mw) _ fun w'' mm => ⟨_, rfl, hR' w'' mm⟩⟩
    · have h' := h w7 (m02.trans m7)
      rw [madeB, decide_eq_true (show s.size ≤ 60 by omega), decide_eq_true (show (wordsOf s).length ≤ 12 by omega), Bool.true_and, Bool.true_and] at h'
      have : (!(wordsOf s).any fun x => !φ x) = (wordsOf s).all φ := by
        rw [List.not_any_eq_all_not]
        congr 1
        funext x
        simp
      rw [this]
      exact h'
  · have h' := h w2 m02
    rw [madeB, decide_eq_false (show ¬ (wordsOf s).length ≤ 12 by omega), Bool.false_and, Bool.and_false] at h'
    exact h'
  · have h' := h w2 m02
    rw [madeB, decide_eq_false (show ¬ s.size ≤ 60 by omega), Bool.false_and] at h'
    exact h'
def wild (x : ByteArray) : Bool := decide (x = ByteArray.mk #[42]) || (decide (x = ByteArray.mk #[35]) || plainB x)
abbrev keyB : ByteArray → Bool := madeB plainB
abbrev patB : ByteArray → Bool := madeB wild
theorem key_ok (s : ByteArray) (w : World) (hs : s.size < 1000000000) (R : Value → World → Prop) (h : ∀ w', Mod no w w' → R (.bool (keyB s)) w') : Ca Tryd.prog 43 #[.string s] w R := by
  refine ca43 s w R ?_
  exact madeS_ok s (.func 45) #[] #[] plainB w hs (fun x w' _ R' hR' => plain_ok x w' R' hR') _ fun w' m => ⟨_, rfl, h w' m⟩
theorem pattern_ok (s : ByteArray) (w : World) (hs : s.size < 1000000000) (R : Value → World → Prop) (h : ∀ w', Mod no w w' → R (.bool (patB s)) w') : Ca Tryd.prog 46 #[.string s] w R := by
  refine ca46 s w R ?_
  refine madeS_ok s _ _ _ wild w hs (fun x w' _ R' hR' => ?_) _ fun w' m => ⟨_, rfl, h w' m⟩
  refine (ca65 x w' R' ?_ : Ca _ _ _ _ _)
  rw [W65, toList_beq, toList_beq]
  refine ifK_of (fun h1 => ?_) (fun h1 => ifK_of (fun h2 => ?_) (fun h2 => ?_))
  · have h' := hR' w' (Mod.refl _ _)
    rw [wild, h1, Bool.true_or] at h'
    exact h'
  · have h' := hR' w' (Mod.refl _ _)
    rw [wild, h1, h2, Bool.false_or, Bool.true_or] at h'
    exact h'
  · refine plain_ok x w' _ fun w'' mm => ⟨_, rfl, ?_⟩
    have h' := hR' w'' mm
    rw [wild, h1, h2, Bool.false_or, Bool.false_or] at h'
    exact h'
/-- May an exchange's binding have a pattern? -/
def mayB (x : Exc) (p : ByteArray) : Bool := if x.k = 1 then keyB p else if x.k = 3 then patB p else decide (p = ByteArray.mk #[])
theorem may_ok (x : Exc) (p : ByteArray) (w : World) (hs : p.size < 1000000000) (R : Value → World → Prop) (h : ∀ w', Mod no w w' → R (.bool (mayB x p)) w') : Ca Tryd.prog 24 #[.agg ⟨x.cs⟩, .string p] w R := by
  refine (ca24 x.n x.k x.f p w R ?_ : Ca _ _ _ _ _)
  intro w0 e0
  have m0 : Mod no w w0 := by subst e0; exact Mod.alloc _ _
  have b0 : Xc w0 w.heap.size x := by subst e0; exact new_at _ _
  clear e0
  refine ⟨x.k, by rw [cl1 b0]; rfl, ifK_eq (fun h1 => ?_) (fun h1 => ifK_eq (fun h2 => ?_) (fun h2 => ?_))⟩
  · refine key_ok p w0 hs _ fun w1 m1 => ⟨_, rfl, ?_⟩
    have h' := h w1 (m0.trans m1)
    rw [mayB, if_pos h1] at h'
    exact h'
  · refine pattern_ok p w0 hs _ fun w1 m1 => ⟨_, rfl, ?_⟩
    have h' := h w1 (m0.trans m1)
    rw [mayB, if_neg h1, if_pos h2] at h'
    exact h'
  · have h' := h w0 m0
    rw [mayB, if_neg h1, if_neg h2] at h'
    rw [toList_beq]
    exact h'
end Go.Proofs.YtehhhkcemmfjpaaDoor

/- The table's Bind. -/
namespace Go.Proofs.YtehhhkcemmfjpaaDoor
open Go Go.Proofs.YtehhhkcemmfjpaaDoor Go.Proofs.YtehhhkcemmfjpaaDoor.St

def bindR (b : Bnd) (D : List Exc) (B : List Bnd) : Int := if nameB b.q = false then 2 else if hx b.x D = false then 3 else if mayB (fx b.x D) b.p = false then 2 else if b ∈ B then 0 else if B.length ≥ 32 then 5 else 0
def bindB (b : Bnd) (D : List Exc) (B : List Bnd) : List Bnd := if nameB b.q = true ∧ hx b.x D = true ∧ mayB (fx b.x D) b.p = true ∧ b ∉ B ∧ B.length < 32 then B ++ [b] else B
theorem setB (b : Bnd) : ∀ {B : List Bnd}, b ∈ B → setG b (.agg ⟨[]⟩) (bnL B) = bnL B
  | [], h => by cases h
  | x :: B, h => by
    simp only [bnL, List.map_cons, setG]
    by_cases he : b = x
    · subst he
      rw [if_pos (beq_self_eq_true _)]
    · rw [if_neg (fun h' => he (eq_of_beq h'))]
      congr 1
      exact setB b ((List.mem_cons.1 h).resolve_left he)
theorem put_b {w : World} {m : Nat} {B : List Bnd} (h : BMap w m B) (b : Bnd) :
    ∃ w', Sem.run Tryd.prog (Instr.mapUpdate 44 (.map (some m)) (.agg ⟨b.cs⟩) (.agg ⟨[]⟩)) w = Result.ok () w' ∧ Mod (on m) w w' ∧ BMap w' m (if b ∈ B then B else B ++ [b]) := by
  obtain ⟨w', h1, h2, h3⟩ := update_k (keys_bnd bnd_s) Tryd.underlying44 h b trivial (fun _ _ => trivial) (.agg ⟨[]⟩)
  refine ⟨w', h1, h2, ?_⟩
  by_cases hb : b ∈ B
  · rw [if_pos hb]
    rw [setB b hb] at h3
    exact h3
  · rw [if_neg hb]
    rw [setG_none (by rw [bnL_fst]; exact hb)] at h3
    have : bnL (B ++ [b]) = bnL B ++ [(b, .agg ⟨[]⟩)] := by rw [bnL, List.map_append]; rfl
    rw [BMap, this]
    exact h3

theorem bind_ok {w : World} {t m1 m2 : Nat} {D : List Exc} {B : List Bnd} (hT : Tbl w t m1 m2 D B) (b : Bnd) (hs : b.p.size < 1000000000) (R : Value → World → Prop) (h : ∀ w', Tbl w' t m1 m2 D (bindB b D B) → Mod (on m2) w w' → R (.int .i64 (bindR b D B)) w') :
    Ca Tryd.prog 8 #[.pointer (some ⟨t, 0, none⟩), .agg ⟨b.cs⟩] w R := by
  refine (ca8 (some ⟨t, 0, none⟩) b.x b.q b.p w R ?_ : Ca _ _ _ _ _)
  intro w0 e0
  have n0 : Mod no w w0 := by subst e0; exact Mod.alloc _ _
  have b0 : Bc w0 w.heap.size b := by subst e0; exact new_at _ _
  clear e0
  have hT0 := hT.no n0
  refine made_ok hT0 _ ⟨true, rfl, ifK_of (fun h => by cases h) fun _ => ?_⟩
  refine ⟨fun p o w' => ∃ k, p = some ⟨k, 0, none⟩ ∧ Xc w' k (fx b.x D) ∧ o = hx b.x D ∧ Bc w' w.heap.size b ∧ Tbl w' t m1 m2 D B ∧ Mod no w w', ?_, ?_⟩
  · intro w11 e11
    have n11 : Mod no w0 w11 := by subst e11; exact Mod.drew _
    clear e11
    have b11 := n11.at' b0
    have n011 := n0.trans n11
    have hT11 := hT.no n011
    refine ⟨some m1, by rw [cl1 hT11.cell]; rfl, _, by rw [cl1 b11]; rfl, ⟨_, _, look_x hT11.x b.x, _, _, _, _, rfl, ?_⟩, ?_⟩
    · intro w21 e21
      have n21 : Mod no w11 w21 := by subst e21; exact Mod.alloc _ _
      have b21 : Xc w21 w11.heap.size exc0 := by subst e21; exact new_at _ _
      clear e21
      have hT21 := hT11.no n21
      have bx := n21.at' b11
      refine ⟨by rw [cl2 hT21.cell]; rfl, by rw [cl2 bx]; rfl, put3 b21 fun w27 n27 b27 => ?_⟩
      have n1127 : Mod no w11 w27 := n21.new n27 fun k hk => by cases hk; exact Nat.le_refl _
      exact ⟨_, rfl, b27, rfl, n1127.at' b11, hT11.no n1127, n011.trans n1127⟩
    · intro w21 e21
      have n21 : Mod no w11 w21 := by subst e21; exact Mod.alloc _ _
      have b21 : Xc w21 w11.heap.size exc0 := by subst e21; exact new_at _ _
      clear e21
      have hT21 := hT11.no n21
      have bx := n21.at' b11
      refine ⟨by rw [cl2 hT21.cell]; rfl, by rw [cl2 bx]; rfl, _, _, look_x hT21.x b.x, _, _, _, _, rfl, put3 b21 fun w27 n27 b27 => ?_⟩
      have n1127 : Mod no w11 w27 := n21.new n27 fun k hk => by cases hk; exact Nat.le_refl _
      exact ⟨_, rfl, b27, rfl, n1127.at' b11, hT11.no n1127, n011.trans n1127⟩
  rintro _ _ _ w38 ⟨k, rfl, bk, rfl, bx, hT38, n38⟩
  refine ⟨fun o w' => o = decide (b ∈ B) ∧ Xc w' k (fx b.x D) ∧ Bc w' w.heap.size b ∧ Tbl w' t m1 m2 D B ∧ Mod no w w', ?_, ?_⟩
  · intro w40 e40
    have n40 : Mod no w38 w40 := by subst e40; exact Mod.drew _
    clear e40
    have hT40 := hT38.no n40
    have b40 := n40.at' bx
    have k40 := n40.at' bk
    have n040 := n38.trans n40
    refine ⟨some m2, by rw [cl1 hT40.cell]; rfl, _, by rw [cl1 b40]; rfl, _, by rw [cl1 b40]; rfl, _, by rw [cl1 b40]; rfl, ⟨_, _, look_b hT40.b b, _, rfl, ?_⟩, ?_⟩
    · intro w49 e49
      have n49 : Mod no w40 w49 := by subst e49; exact Mod.alloc _ _
      clear e49
      have hT49 := hT40.no n49
      have b49 := n49.at' b40
      exact ⟨by rw [cl2 hT49.cell]; rfl, by rw [cl1 b49]; rfl, by rw [cl1 b49]; rfl, by rw [cl1 b49]; rfl, rfl, n49.at' k40, b49, hT49, n040.trans n49⟩
    · intro w49 e49
      have n49 : Mod no w40 w49 := by subst e49; exact Mod.alloc _ _
      clear e49
      have hT49 := hT40.no n49
      have b49 := n49.at' b40
      exact ⟨by rw [cl2 hT49.cell]; rfl, by rw [cl1 b49]; rfl, by rw [cl1 b49]; rfl, by rw [cl1 b49]; rfl, _, _, look_b hT49.b b, _, rfl, rfl, n49.at' k40, b49, hT49, n040.trans n49⟩
  rintro _ _ w56 ⟨rfl, bk, bx, hT56, n56⟩
  refine ⟨_, by rw [cl1 bx]; rfl, name_ok _ _ _ fun w59 n59 => ⟨_, rfl, ?_⟩⟩
  have n059 := n56.trans n59
  have hT59 := hT56.no n59
  have bk := n59.at' bk
  have bx := n59.at' bx
  refine ifK_of (fun hn => ?_) fun hn => ?_
  · have hn : nameB b.q = false := by simpa using hn
    have h' := h w59 (by rw [bindB, if_neg (fun hh => by rw [hn] at hh; cases hh.1)]; exact hT59) n059.of_no
    rw [bindR, if_pos hn] at h'
    exact h'
  have hn : nameB b.q = true := by simpa using hn
  refine ifK_of (fun hh => ?_) fun hh => ?_
  · have hh : hx b.x D = false := by simpa using hh
    have h' := h w59 (by rw [bindB, if_neg (fun hc => by rw [hh] at hc; cases hc.2.1)]; exact hT59) n059.of_no
    rw [bindR, if_neg (by rw [hn]; decide), if_pos hh] at h'
    exact h'
  have hh : hx b.x D = true := by simpa using hh
  refine ⟨_, by rw [cl1 bk]; rfl, _, by rw [cl1 bk]; rfl, _, by rw [cl1 bk]; rfl, _, by rw [cl1 bx]; rfl, ?_⟩
  refine (may_ok (fx b.x D) b.p w59 hs _ fun w67 n67 => ?_ : Ca _ _ _ _ _)
  refine ⟨_, rfl, ?_⟩
  have n067 := n059.trans n67
  have hT67 := hT59.no n67
  have bx := n67.at' bx
  refine ifK_of (fun hm => ?_) fun hm => ?_
  · have hm : mayB (fx b.x D) b.p = false := by simpa using hm
    have h' := h w67 (by rw [bindB, if_neg (fun hc => by rw [hm] at hc; cases hc.2.2.1)]; exact hT67) n067.of_no
    rw [bindR, if_neg (by rw [hn]; decide), if_neg (by rw [hh]; decide), if_pos hm] at h'
    exact h'
  have hm : mayB (fx b.x D) b.p = true := by simpa using hm
  have put : ∀ w', Mod no w w' → Tbl w' t m1 m2 D B → Bc w' w.heap.size b → (b ∈ B ∨ B.length < 32) →
      atW w'.drew fun w72 => ∃ p74 : Option Nat, w72.cell? (Addr.add ⟨t, 0, none⟩ 1) = some (.map p74) ∧ ∃ s75 : ByteArray, w72.cell? (Addr.add ⟨w.heap.size, 0, none⟩ 0) = some (.string s75) ∧ ∃ s76 : ByteArray, w72.cell? (Addr.add ⟨w.heap.size, 0, none⟩ 1) = some (.string s76) ∧
        ∃ s77 : ByteArray, w72.cell? (Addr.add ⟨w.heap.size, 0, none⟩ 2) = some (.string s77) ∧ ∃ w78 : World, Sem.run Tryd.prog (Instr.mapUpdate 44 (.map p74) (.agg ⟨[.string s75, .string s76, .string s77]⟩) (.agg ⟨[]⟩)) w72 = Result.ok () w78 ∧ R (.int .i64 0) w78 := by
    intro w' nw hTw bw hor w72 e72
    have n72 : Mod no w' w72 := by subst e72; exact Mod.drew _
    clear e72
    have hT72 := hTw.no n72
    have b72 := n72.at' bw
    obtain ⟨w78, hr, n78, hb78⟩ := put_b hT72.b b
    refine ⟨some m2, by rw [cl1 hT72.cell]; rfl, _, by rw [cl1 b72]; rfl, _, by rw [cl1 b72]; rfl, _, by rw [cl1 b72]; rfl, w78, hr, ?_⟩
    have hT78 : ∀ B' : List Bnd, B'.Nodup → BMap w78 m2 B' → Tbl w78 t m1 m2 D B' := fun B' h1 h2 => ⟨n78.at hT72.cell hT.t2, hT72.x.mod n78 hT.ne, h2, hT.ne, hT.dn, h1⟩
    by_cases hb : b ∈ B
    · rw [if_pos hb] at hb78
      have h' := h w78 (by rw [bindB, if_neg (fun hc => hc.2.2.2.1 hb)]; exact hT78 B hT.bn hb78) ((nw.trans n72).no_trans n78)
      rw [bindR, if_neg (by rw [hn]; decide), if_neg (by rw [hh]; decide), if_neg (by rw [hm]; decide), if_pos hb] at h'
      exact h'
    · rw [if_neg hb] at hb78
      have hl : B.length < 32 := hor.resolve_left hb
      have h' := h w78 (by
        rw [bindB, if_pos ⟨hn, hh, hm, hb, hl⟩]
        refine hT78 (B ++ [b]) ?_ hb78
        rw [List.nodup_append]
        refine ⟨hT.bn, by simp, fun x hx y hy => ?_⟩
        simp only [List.mem_singleton] at hy
        rintro rfl
        exact hb (hy ▸ hx)) ((nw.trans n72).no_trans n78)
      rw [bindR, if_neg (by rw [hn]; decide), if_neg (by rw [hh]; decide), if_neg (by rw [hm]; decide), if_neg hb, if_neg (by omega)] at h'
      exact h'
  refine ifK_not (fun hb => ?_) (fun hb => put w67 n067 hT67 bx (.inl (of_decide_eq_true hb)))
  have hb : b ∉ B := of_decide_eq_false hb
  obtain ⟨es, clock, hes, hlen⟩ := bmap_len hT67.b
  refine ⟨some m2, by rw [cl1 hT67.cell]; rfl, es, clock, hes, ifK_dec (fun hge => ?_) (fun hlt => put w67 n067 hT67 bx (.inr (by omega)))⟩
  have h' := h w67 (by rw [bindB, if_neg (fun hc => by have := hc.2.2.2.2; omega)]; exact hT67) n067.of_no
  rw [bindR, if_neg (by rw [hn]; decide), if_neg (by rw [hh]; decide), if_neg (by rw [hm]; decide), if_neg hb, if_pos (by omega)] at h'
  exact h'
end Go.Proofs.YtehhhkcemmfjpaaDoor

/- The formulas of functions, printed by a program of mine (gen.py) out of the translation. -/
namespace Go.Proofs.YtehhhkcemmfjpaaDoor
open Go Go.Proofs.YtehhhkcemmfjpaaDoor.St
open _root_.Go.Value (string int bool slice pointer agg tuple map func nilFunc iface)
open _root_.Go.World (cell? frozen? setCell alloc drew)
open _root_.Go.Addr (add)
open _root_.Go.Obj (cells)
open _root_.Go.IntKind (wrap i64 u64 i32 u32 u8)
set_option maxRecDepth 100000

/-- (*staith/bind.Table).Exchanges -/
noncomputable def C12 : Code := (Tryd.f12.body).getD .skip
def pl12 : Nat → Plan := fun _ => .done
def ls12 : Nat → List (Nat × LT) := fun _ => []
def W12 (t : Option Addr) (w : World) (R : Value → World → Prop) : Prop :=
  (Ca Tryd.prog (21) (Array.mk [pointer t]) (w) (fun v0 => (fun w1 =>
(∃ b2 : Bool, ((v0 = bool b2) ∧ (ifK (!b2)
(R (slice none 0 0) (w1))
(onP (t) (fun a3 =>
(∃ p4 : Option Nat, ((cell? w1 (add a3 0) = some (map p4)) ∧ (Ca Tryd.prog (34) (Array.mk [map p4]) (w1) (fun v5 => (fun w6 =>
(∃ v7 : Value, ((v5 = v7) ∧ (Ca Tryd.prog (33) (Array.mk [v7, func (Fn.func 35) #[] #[]]) (w6) (fun v8 => (fun w9 =>
(∃ p10 : Option Addr, (∃ n11 : Nat, (∃ n12 : Nat, ((v8 = slice p10 n11 n12) ∧ (R (slice p10 n11 n12) (w9))))))))))))))))))))))))
theorem ca12 (t : Option Addr) (w : World) (R : Value → World → Prop) (h : W12 t w R) : Ca Tryd.prog 12 ⟨[(.pointer t)]⟩ w R :=
  caB (fn := Tryd.f12) (pl := pl12) (ls := ls12) Tryd.func12 (by kernel_rfl) (by kernel_rfl) h

/-- (*staith/bind.Table).Bindings -/
noncomputable def C9 : Code := (Tryd.f9.body).getD .skip
def pl9 : Nat → Plan := fun _ => .done
def ls9 : Nat → List (Nat × LT) := fun _ => []
def W9 (t : Option Addr) (w : World) (R : Value → World → Prop) : Prop :=
  (Ca Tryd.prog (21) (Array.mk [pointer t]) (w) (fun v0 => (fun w1 =>
(∃ b2 : Bool, ((v0 = bool b2) ∧ (ifK (!b2)
(R (slice none 0 0) (w1))
(onP (t) (fun a3 =>
(∃ p4 : Option Nat, ((cell? w1 (add a3 1) = some (map p4)) ∧ (Ca Tryd.prog (26) (Array.mk [map p4]) (w1) (fun v5 => (fun w6 =>
(∃ v7 : Value, ((v5 = v7) ∧ (Ca Tryd.prog (25) (Array.mk [v7, func (Fn.func 27) #[] #[]]) (w6) (fun v8 => (fun w9 =>
(∃ p10 : Option Addr, (∃ n11 : Nat, (∃ n12 : Nat, ((v8 = slice p10 n11 n12) ∧ (R (slice p10 n11 n12) (w9))))))))))))))))))))))))
theorem ca9 (t : Option Addr) (w : World) (R : Value → World → Prop) (h : W9 t w R) : Ca Tryd.prog 9 ⟨[(.pointer t)]⟩ w R :=
  caB (fn := Tryd.f9) (pl := pl9) (ls := ls9) Tryd.func9 (by kernel_rfl) (by kernel_rfl) h

/-- slices.SortedFunc[staith/api.Exchange] -/
noncomputable def C33 : Code := (Tryd.f33.body).getD .skip
def pl33 : Nat → Plan := fun _ => .done
def ls33 : Nat → List (Nat × LT) := fun _ => []
def W33 (seq : Value) (cmp : Value) (w : World) (R : Value → World → Prop) : Prop :=
  (Ca Tryd.prog (53) (Array.mk [seq]) (w) (fun v0 => (fun w1 =>
(∃ p2 : Option Addr, (∃ n3 : Nat, (∃ n4 : Nat, ((v0 = slice p2 n3 n4) ∧ (Ca Tryd.prog (54) (Array.mk [slice p2 n3 n4, cmp]) (w1) (fun v5 => (fun w6 =>
((v5 = tuple (Array.mk (List.reverse []))) ∧ (R (slice p2 n3 n4) (w6)))))))))))))
theorem ca33 (seq : Value) (cmp : Value) (w : World) (R : Value → World → Prop) (h : W33 seq cmp w R) : Ca Tryd.prog 33 ⟨[seq, cmp]⟩ w R :=
  caB (fn := Tryd.f33) (pl := pl33) (ls := ls33) Tryd.func33 (by kernel_rfl) (by kernel_rfl) h

/-- maps.Values[map[string]staith/api.Exchange,string,staith/api.Exchange] -/
noncomputable def C34 : Code := (Tryd.f34.body).getD .skip
def pl34 : Nat → Plan := fun _ => .done
def ls34 : Nat → List (Nat × LT) := fun _ => []
def W34 (m : Option Nat) (w : World) (R : Value → World → Prop) : Prop :=
  (atW (alloc w (cells (Array.mk [map m]) 43 (0, 0))) (fun w0 =>
(R (func (Fn.func 55) (Array.mk []) (Array.mk [pointer (some (nw w))])) (w0))))
theorem ca34 (m : Option Nat) (w : World) (R : Value → World → Prop) (h : W34 m w R) : Ca Tryd.prog 34 ⟨[(.map m)]⟩ w R :=
  caB (fn := Tryd.f34) (pl := pl34) (ls := ls34) Tryd.func34 (by kernel_rfl) (by kernel_rfl) h

/-- slices.SortedFunc[staith/api.Binding] -/
noncomputable def C25 : Code := (Tryd.f25.body).getD .skip
def pl25 : Nat → Plan := fun _ => .done
def ls25 : Nat → List (Nat × LT) := fun _ => []
def W25 (seq : Value) (cmp : Value) (w : World) (R : Value → World → Prop) : Prop :=
  (Ca Tryd.prog (47) (Array.mk [seq]) (w) (fun v0 => (fun w1 =>
(∃ p2 : Option Addr, (∃ n3 : Nat, (∃ n4 : Nat, ((v0 = slice p2 n3 n4) ∧ (Ca Tryd.prog (48) (Array.mk [slice p2 n3 n4, cmp]) (w1) (fun v5 => (fun w6 =>
((v5 = tuple (Array.mk (List.reverse []))) ∧ (R (slice p2 n3 n4) (w6)))))))))))))
theorem ca25 (seq : Value) (cmp : Value) (w : World) (R : Value → World → Prop) (h : W25 seq cmp w R) : Ca Tryd.prog 25 ⟨[seq, cmp]⟩ w R :=
  caB (fn := Tryd.f25) (pl := pl25) (ls := ls25) Tryd.func25 (by kernel_rfl) (by kernel_rfl) h

/-- maps.Keys[map[staith/api.Binding]struct{},staith/api.Binding,struct{}] -/
noncomputable def C26 : Code := (Tryd.f26.body).getD .skip
def pl26 : Nat → Plan := fun _ => .done
def ls26 : Nat → List (Nat × LT) := fun _ => []
def W26 (m : Option Nat) (w : World) (R : Value → World → Prop) : Prop :=
  (atW (alloc w (cells (Array.mk [map m]) 44 (0, 0))) (fun w0 =>
(R (func (Fn.func 49) (Array.mk []) (Array.mk [pointer (some (nw w))])) (w0))))
theorem ca26 (m : Option Nat) (w : World) (R : Value → World → Prop) (h : W26 m w R) : Ca Tryd.prog 26 ⟨[(.map m)]⟩ w R :=
  caB (fn := Tryd.f26) (pl := pl26) (ls := ls26) Tryd.func26 (by kernel_rfl) (by kernel_rfl) h

/-- slices.Collect[staith/api.Exchange] -/
noncomputable def C53 : Code := (Tryd.f53.body).getD .skip
def pl53 : Nat → Plan := fun _ => .done
def ls53 : Nat → List (Nat × LT) := fun _ => []
def W53 (seq : Value) (w : World) (R : Value → World → Prop) : Prop :=
  (Ca Tryd.prog (69) (Array.mk [slice none 0 0, seq]) (w) (fun v0 => (fun w1 =>
(∃ p2 : Option Addr, (∃ n3 : Nat, (∃ n4 : Nat, ((v0 = slice p2 n3 n4) ∧ (R (slice p2 n3 n4) (w1)))))))))
theorem ca53 (seq : Value) (w : World) (R : Value → World → Prop) (h : W53 seq w R) : Ca Tryd.prog 53 ⟨[seq]⟩ w R :=
  caB (fn := Tryd.f53) (pl := pl53) (ls := ls53) Tryd.func53 (by kernel_rfl) (by kernel_rfl) h

/-- maps.Values[map[string]staith/api.Exchange,string,staith/api.Exchange]$1 -/
noncomputable def C55 : Code := (Tryd.f55.body).getD .skip
def pl55 : Nat → Plan := fun _ => .done
def ls55 : Nat → List (Nat × LT)
  | 1 => []
  | _ => []
def W55 (yield : Value) (c0 : Option Addr) (w : World) (R : Value → World → Prop) : Prop :=
  (onP (c0) (fun a0 =>
(∃ p1 : Option Nat, ((cell? w a0 = some (map p1)) ∧ (rngM (p1) (w) (fun v2 => (fun w3 =>
(∃ z4 : World → Prop, (∃ z5 : World → Nat, ((z4 (w3)) ∧ (∀ (_ : Nat → Value), (∀ (w7 : World), ((z4 (w7)) → (nxtM Tryd.prog (0) (v2) (w7) (fun _ => (fun _ => (fun w10 =>
(∃ v11 : Value, (∃ v12 : Value, ((Sem.run Tryd.prog (Instr.entry v2) w10 = Result.ok (tuple #[v11, v12]) w10) ∧ (atW (alloc w10 (cells (Array.mk [string (ByteArray.mk #[]), int i64 0, bool false]) 29 (0, 0))) (fun w13 =>
(bif Nat.beq (Array.size (Value.cells v12)) 3 then
(stCells (Array.toList (Value.cells v12)) (nw w10) 0 w13 fun x => ∃ s, cell? x (add (nw w10) 0) = some (string s) ∧ ∃ x_1, cell? x (add (nw w10) 1) = some (int i64 x_1) ∧ ∃ b, cell? x (add (nw w10) 2) = some (bool b) ∧ CaV Tryd.prog yield (Array.mk [agg (Array.mk (List.reverse [bool b, int i64 x_1, string s]))]) x fun v w' => ∃ b, v = bool b ∧ ifK (!b) (R (tuple (Array.mk (List.reverse []))) w') (z4 w' ∧ z5 w' < z5 w7))
else
False))))))))) (fun w14 =>
(R (tuple (Array.mk (List.reverse []))) (w14)))))))))))))))))
theorem ca55 (yield : Value) (c0 : Option Addr) (w : World) (R : Value → World → Prop) (h : W55 yield c0 w R) : Ca Tryd.prog 55 ⟨[yield, (.pointer c0)]⟩ w R :=
  caB (fn := Tryd.f55) (pl := pl55) (ls := ls55) Tryd.func55 (by kernel_rfl) (by kernel_rfl) h

/-- slices.Collect[staith/api.Binding] -/
noncomputable def C47 : Code := (Tryd.f47.body).getD .skip
def pl47 : Nat → Plan := fun _ => .done
def ls47 : Nat → List (Nat × LT) := fun _ => []
def W47 (seq : Value) (w : World) (R : Value → World → Prop) : Prop :=
  (Ca Tryd.prog (66) (Array.mk [slice none 0 0, seq]) (w) (fun v0 => (fun w1 =>
(∃ p2 : Option Addr, (∃ n3 : Nat, (∃ n4 : Nat, ((v0 = slice p2 n3 n4) ∧ (R (slice p2 n3 n4) (w1)))))))))
theorem ca47 (seq : Value) (w : World) (R : Value → World → Prop) (h : W47 seq w R) : Ca Tryd.prog 47 ⟨[seq]⟩ w R :=
  caB (fn := Tryd.f47) (pl := pl47) (ls := ls47) Tryd.func47 (by kernel_rfl) (by kernel_rfl) h

/-- maps.Keys[map[staith/api.Binding]struct{},staith/api.Binding,struct{}]$1 -/
noncomputable def C49 : Code := (Tryd.f49.body).getD .skip
def pl49 : Nat → Plan := fun _ => .done
def ls49 : Nat → List (Nat × LT)
  | 1 => []
  | _ => []
def W49 (yield : Value) (c0 : Option Addr) (w : World) (R : Value → World → Prop) : Prop :=
  (onP (c0) (fun a0 =>
(∃ p1 : Option Nat, ((cell? w a0 = some (map p1)) ∧ (rngM (p1) (w) (fun v2 => (fun w3 =>
(∃ z4 : World → Prop, (∃ z5 : World → Nat, ((z4 (w3)) ∧ (∀ (_ : Nat → Value), (∀ (w7 : World), ((z4 (w7)) → (nxtM Tryd.prog (0) (v2) (w7) (fun _ => (fun _ => (fun w10 =>
(∃ v11 : Value, (∃ v12 : Value, ((Sem.run Tryd.prog (Instr.entry v2) w10 = Result.ok (tuple #[v11, v12]) w10) ∧ (atW (alloc w10 (cells (Array.mk [string (ByteArray.mk #[]), string (ByteArray.mk #[]), string (ByteArray.mk #[])]) 31 (0, 0))) (fun w13 =>
(bif Nat.beq (Array.size (Value.cells v11)) 3 then
(stCells (Array.toList (Value.cells v11)) (nw w10) 0 w13 fun x => ∃ s, cell? x (add (nw w10) 0) = some (string s) ∧ ∃ s_1, cell? x (add (nw w10) 1) = some (string s_1) ∧ ∃ s_2, cell? x (add (nw w10) 2) = some (string s_2) ∧ CaV Tryd.prog yield (Array.mk [agg (Array.mk (List.reverse [string s_2, string s_1, string s]))]) x fun v w' => ∃ b, v = bool b ∧ ifK (!b) (R (tuple (Array.mk (List.reverse []))) w') (z4 w' ∧ z5 w' < z5 w7))
else
False))))))))) (fun w14 =>
(R (tuple (Array.mk (List.reverse []))) (w14)))))))))))))))))
theorem ca49 (yield : Value) (c0 : Option Addr) (w : World) (R : Value → World → Prop) (h : W49 yield c0 w R) : Ca Tryd.prog 49 ⟨[yield, (.pointer c0)]⟩ w R :=
  caB (fn := Tryd.f49) (pl := pl49) (ls := ls49) Tryd.func49 (by kernel_rfl) (by kernel_rfl) h

/-- slices.AppendSeq[[]staith/api.Exchange,staith/api.Exchange] -/
noncomputable def C69 : Code := (Tryd.f69.body).getD .skip
def pl69 : Nat → Plan := fun _ => .done
def ls69 : Nat → List (Nat × LT) := fun _ => []
def W69 (sa : Option Addr) (sl : Nat) (sc : Nat) (seq : Value) (w : World) (R : Value → World → Prop) : Prop :=
  (atW (alloc w (cells (Array.mk [slice sa sl sc]) 37 (0, 0))) (fun w0 =>
(rfW Tryd.prog (seq) (w0) (fun v1 => (fun w2 => (fun z3 => (fun z4 =>
(atW (alloc w2 (cells (Array.mk [string (ByteArray.mk #[]), int i64 0, bool false]) 29 (0, 0))) (fun w5 =>
(bif Nat.beq (Array.size (Value.cells v1)) 3 then
(stCells (Array.toList (Value.cells v1)) (nw w2) 0 w5 fun x => z3 (fun x => ∃ a l c, cell? x (nw w) = some (slice a l c) ∧ (fun v w' => ∃ s, cell? w' (add (nw w2) 0) = some (string s) ∧ ∃ x, cell? w' (add (nw w2) 1) = some (int i64 x) ∧ ∃ b, cell? w' (add (nw w2) 2) = some (bool b) ∧ atW (alloc w' (cells (Array.mk [string s, int i64 x, bool b]) 29 (0, 0))) fun w'_1 => ∃ v_1 w'_2, Sem.run Tryd.prog (Builtin.append_ (Array.mk [37, 37]) 37 (Array.mk [v, slice (some (Addr.mk (Array.size (World.heap w')) 0 none)) 1 1])) w'_1 = Result.ok v_1 w'_2 ∧ ∃ a l c, v_1 = slice a l c ∧ (∃ old, cell? w'_2 (add (nw w) 0) = some old) ∧ frozen? w'_2 (add (nw w) 0) = false ∧ atW (setCell w'_2 (add (nw w) 0) (slice a l c)) fun w' => z4 w') (slice a l c) x) x)
else
False))))))) (fun w6 =>
(∃ p7 : Option Addr, (∃ n8 : Nat, (∃ n9 : Nat, ((cell? w6 (nw w) = some (slice p7 n8 n9)) ∧ (((World.heap w6)[Array.size (World.heap w0)]? = some (Obj.deferred (some []))) ∧ (atW (World.putObj w6 (Array.size (World.heap w0)) (Obj.deferred none)) (fun w10 =>
(R (slice p7 n8 n9) (w10)))))))))))))
theorem ca69 (sa : Option Addr) (sl : Nat) (sc : Nat) (seq : Value) (w : World) (R : Value → World → Prop) (h : W69 sa sl sc seq w R) : Ca Tryd.prog 69 ⟨[(.slice sa sl sc), seq]⟩ w R :=
  caB (fn := Tryd.f69) (pl := pl69) (ls := ls69) Tryd.func69 (by kernel_rfl) (by kernel_rfl) h

/-- slices.AppendSeq[[]staith/api.Binding,staith/api.Binding] -/
noncomputable def C66 : Code := (Tryd.f66.body).getD .skip
def pl66 : Nat → Plan := fun _ => .done
def ls66 : Nat → List (Nat × LT) := fun _ => []
def W66 (sa : Option Addr) (sl : Nat) (sc : Nat) (seq : Value) (w : World) (R : Value → World → Prop) : Prop :=
  (atW (alloc w (cells (Array.mk [slice sa sl sc]) 33 (0, 0))) (fun w0 =>
(rfW Tryd.prog (seq) (w0) (fun v1 => (fun w2 => (fun z3 => (fun z4 =>
(atW (alloc w2 (cells (Array.mk [string (ByteArray.mk #[]), string (ByteArray.mk #[]), string (ByteArray.mk #[])]) 31 (0, 0))) (fun w5 =>
(bif Nat.beq (Array.size (Value.cells v1)) 3 then
(stCells (Array.toList (Value.cells v1)) (nw w2) 0 w5 fun x => z3 (fun x => ∃ a l c, cell? x (nw w) = some (slice a l c) ∧ (fun v w' => ∃ s, cell? w' (add (nw w2) 0) = some (string s) ∧ ∃ s_1, cell? w' (add (nw w2) 1) = some (string s_1) ∧ ∃ s_2, cell? w' (add (nw w2) 2) = some (string s_2) ∧ atW (alloc w' (cells (Array.mk [string s, string s_1, string s_2]) 31 (0, 0))) fun w'_1 => ∃ v_1 w'_2, Sem.run Tryd.prog (Builtin.append_ (Array.mk [33, 33]) 33 (Array.mk [v, slice (some (Addr.mk (Array.size (World.heap w')) 0 none)) 1 1])) w'_1 = Result.ok v_1 w'_2 ∧ ∃ a l c, v_1 = slice a l c ∧ (∃ old, cell? w'_2 (add (nw w) 0) = some old) ∧ frozen? w'_2 (add (nw w) 0) = false ∧ atW (setCell w'_2 (add (nw w) 0) (slice a l c)) fun w' => z4 w') (slice a l c) x) x)
else
False))))))) (fun w6 =>
(∃ p7 : Option Addr, (∃ n8 : Nat, (∃ n9 : Nat, ((cell? w6 (nw w) = some (slice p7 n8 n9)) ∧ (((World.heap w6)[Array.size (World.heap w0)]? = some (Obj.deferred (some []))) ∧ (atW (World.putObj w6 (Array.size (World.heap w0)) (Obj.deferred none)) (fun w10 =>
(R (slice p7 n8 n9) (w10)))))))))))))
theorem ca66 (sa : Option Addr) (sl : Nat) (sc : Nat) (seq : Value) (w : World) (R : Value → World → Prop) (h : W66 sa sl sc seq w R) : Ca Tryd.prog 66 ⟨[(.slice sa sl sc), seq]⟩ w R :=
  caB (fn := Tryd.f66) (pl := pl66) (ls := ls66) Tryd.func66 (by kernel_rfl) (by kernel_rfl) h
end Go.Proofs.YtehhhkcemmfjpaaDoor

/- The library's AppendSeq, Collect: of structs of three cells. Exc, excL: their values; 29, 37: their type, and their row's. -/
namespace Go.Proofs.YtehhhkcemmfjpaaDoor.SeqX
open Go Go.Proofs.YtehhhkcemmfjpaaDoor Go.Proofs.YtehhhkcemmfjpaaDoor.St

abbrev aggs (xs : List Exc) : List Value := xs.map fun x => .agg ⟨(excL).cs x⟩
/-- What AppendSeq has gathered: in a box that is the block w.heap.size, in a row of its own. -/
def Got (w : World) (Rdy : World → Prop) (vs : List Value) (w' : World) : Prop :=
  Rdy w' ∧ ∃ (xs : List Exc) (a : Option Addr) (l c : Nat), vs = aggs xs ∧ w'.heap[w.heap.size]? = some (.cells #[.slice a l c] 37 (0, 0)) ∧ Rx excL 29 w' a l c xs ∧ (∀ k, rowB a k → w.heap.size + 3 ≤ k) ∧ w.heap.size + 3 ≤ w'.heap.size
theorem appendSeq_ok (seq : Value) (N : Nat) (S : List Value → Prop) (w : World) (hN : N ≤ 1099511627775) (hseq : SeqOf Tryd.prog seq w.heap.size w N (fun v => ∃ x : Exc, v = .agg ⟨(excL).cs x⟩) S) (R : Value → World → Prop)
    (h : ∀ w' a l c xs, S (aggs xs) → Rx excL 29 w' a l c xs → Mod no w w' → (∀ k, rowB a k → w.heap.size < k) → R (.slice a l c) w') :
    Ca Tryd.prog 69 #[.slice none 0 0, seq] w R := by
  refine ca69 none 0 0 seq w R ?_
  intro w0 e0
  have m0 : Mod no w w0 := by subst e0; exact Mod.alloc _ _
  have b0 : w0.heap[w.heap.size]? = some (.cells #[.slice none 0 0] 37 (0, 0)) := by subst e0; exact new_at _ _
  have s0 : w0.heap.size = w.heap.size + 1 := by subst e0; simp
  clear e0
  refine ⟨hseq.1, ?_⟩
  intro Rdy Bsy hrs hbs hrb w1 m1 s1 hr1 hy
  have b1 := Mod.at' m1 b0
  have hstab : Stab (Got w Rdy) := by
    constructor
    · rintro vs w1 w2 ⟨hr, xs, a, l, c, rfl, hb, hx, hn, hz⟩ hm
      obtain ⟨h1, r, h2⟩ := hrb w1 (.inl hr)
      exact ⟨hrs w1 w2 hr (by rw [hm.at' h1, h1]) (by rw [hm.at' h2, h2]), xs, a, l, c, rfl, hm.at' hb, hx.no hm, hn, Nat.le_trans hz hm.size⟩
    · rintro vs w1 w2 b o ⟨hr, xs, a, l, c, rfl, hb, hx, hn, hz⟩ hbo hit hm
      obtain ⟨h1, r, h2⟩ := hrb w1 (.inl hr)
      have hne : ∀ k o', w1.heap[k]? = some o' → isIt o' = false → ¬ on b k := by
        intro k o' hk hf e
        cases e
        rw [hbo] at hk
        cases hk
        rw [hit] at hf
        cases hf
      refine ⟨hrs w1 w2 hr (by rw [hm.at h1 (hne _ _ h1 rfl), h1]) (by rw [hm.at h2 (hne _ _ h2 rfl), h2]), xs, a, l, c, rfl, hm.at hb (hne _ _ hb rfl), hx.mod hm ?_, hn, Nat.le_trans hz hm.size⟩
      intro k hk2
      rcases Row.block hx with ⟨h0, _⟩ | ⟨g, cur, h0, hg, _⟩
      · subst h0; cases hk2
      · subst h0; cases hk2; exact hne _ _ hg rfl
  refine hseq.2 (Got w Rdy) _ w1 _ (Kp.of_no (m0.trans m1)) hstab ⟨hr1, [], none, 0, 0, rfl, b1, Row.empty _ _ _, (fun k hk => by cases hk), by omega⟩ ?_ ?_
  · rintro pre v w2 hk2 ⟨hr2, xs, a, l, c, rfl, hb2, hx2, hn2, hz2⟩ hlen ⟨x, rfl⟩ R' hR'
    refine (hy (.agg ⟨(excL).cs x⟩) w2 (fun w3 => R' (.bool true) w3) hr2 ?_).mono fun v w3 ⟨hv, hR⟩ => by rw [hv]; exact hR
    intro w5 e5
    have n5 : Mod no w2 w5 := by subst e5; exact Mod.alloc _ _
    have b5 : w5.heap[w2.heap.size]? = some (.cells ([Value.string (ByteArray.mk #[]), Value.int .i64 0, Value.bool false]).toArray 29 (0, 0)) := by subst e5; exact new_at _ _
    clear e5
    refine (stCells_var (vs := (excL).cs x) b5 rfl (fun v hv => (excL).one x v hv) fun wx nx bx => ?_ : stCells _ _ _ _ _)
    have n2x : Mod no w2 wx := n5.new nx fun k hk => by cases hk; exact Nat.le_refl _
    obtain ⟨g1, r, g2⟩ := hrb w2 (.inl hr2)
    refine ⟨hrs w2 wx hr2 (by rw [n2x.at' g1, g1]) (by rw [n2x.at' g2, g2]), fun w6 hbz m6 s6 => ?_⟩
    have hz5 := lt_of_heap bx
    have m26 : Mod (on (w0.heap.size + 1)) w2 w6 := n2x.no_trans m6
    have b6 := m26.at hb2 (show ¬ w.heap.size = w0.heap.size + 1 by omega)
    have v6 := m6.at bx (show ¬ w2.heap.size = w0.heap.size + 1 by omega)
    have x6 : Rx excL 29 w6 a l c xs := hx2.mod m26 fun k hk hS => by cases hS; have := hn2 _ hk; omega
    have hxl := x6.len.1
    have hpl : (aggs xs).length = xs.length := List.length_map ..
    refine ⟨a, l, c, by rw [cl b6]; rfl, _, by rw [cl1 v6]; rfl, _, by rw [cl1 v6]; rfl, _, by rw [cl1 v6]; rfl, ?_⟩
    intro w10 e10
    have m10 : Mod no w6 w10 := by subst e10; exact Mod.alloc _ _
    have b10 : w10.heap[w6.heap.size]? = some (.cells ((excL).cs x).toArray 29 (0, 0)) := by subst e10; exact new_at _ _
    clear e10
    obtain ⟨a', c', w12, hrun, x12, m12, hnew⟩ := Row.push (P := Tryd.prog) (t := 37) (ty := 37) (by kernel_rfl) (x6.no m10) (b := some ⟨w6.heap.size, 0, none⟩) (m := 1) (cc := 1) (ys := [x]) rfl
      (fun ad had j v hj => by cases had; rw [cl1 b10]; simpa using hj) (fun h => by cases h) (by omega)
    have hbox : ¬ rowB a w.heap.size := fun hk => by have := hn2 _ hk; omega
    have b12 := m12.at (m10.at' b6) hbox
    refine ⟨_, w12, hrun, _, _, _, rfl, ⟨_, by rw [cl1 b12]; rfl⟩, fz1 b12 _, ?_⟩
    intro w17 e17
    have m17 : Mod (on w.heap.size) w12 w17 := by subst e17; exact Mod.set1 _ _ _ _
    have b17 : w17.heap[w.heap.size]? = some (.cells #[.slice a' (l + 1) c'] 37 (0, 0)) := by subst e17; rw [set1 b12]; rfl
    clear e17
    have hs6 := m26.size
    have hs10 := m10.size
    have hnew' : ∀ k, rowB a' k → w.heap.size + 3 ≤ k := fun k hk => (hnew k hk).elim (hn2 k) fun h => by omega
    have x17 : Rx excL 29 w17 a' (l + 1) c' (xs ++ [x]) := Rx.mod x12 m17 fun k hk e => by cases e; have := hnew' _ hk; omega
    have mA : Mod (fun k => rowB a k ∨ k = w.heap.size) w6 w17 := (m10.no_trans (m12.mono fun k _ hk => .inl hk)).trans' m17 fun k _ hk => .inr hk
    obtain ⟨h1, r', h2⟩ := hrb w6 (.inr hbz)
    have k1 : ¬ (rowB a w0.heap.size ∨ w0.heap.size = w.heap.size) := fun h => h.elim (fun h => by have := hn2 _ h; omega) (by omega)
    have k2 : ¬ (rowB a (w0.heap.size + 1) ∨ w0.heap.size + 1 = w.heap.size) := fun h => h.elim (fun h => by have := hn2 _ h; omega) (by omega)
    refine ⟨hbs w6 w17 hbz (by rw [mA.at h1 k1, h1]) (by rw [mA.at h2 k2, h2]), fun w3 hr3 m3 s3 => hR' w3 ?_ ?_⟩
    · have mB : Mod (fun k => k = w0.heap.size + 1 ∨ (rowB a k ∨ k = w.heap.size)) w2 w3 := ((m26.mono fun k _ hk => .inl hk).trans' mA fun k _ hk => .inr hk).trans' m3 fun k _ hk => .inl hk
      refine Kp.of_mod mB fun k o ho hk hS => ?_
      rcases hS with rfl | hS | rfl
      · rw [g2] at ho
        cases ho
        rcases hk with hk | hk
        · omega
        · cases hk
      · have := hn2 _ hS
        rcases hk with hk | hk
        · omega
        rcases Row.block hx2 with ⟨h0, _⟩ | ⟨g, cur, h0, hg, _⟩
        · subst h0; cases hS
        · subst h0
          cases hS
          rw [hg] at ho
          cases ho
          cases hk
      · rw [hb2] at ho
        cases ho
        rcases hk with hk | hk
        · omega
        · cases hk
    · refine ⟨hr3, xs ++ [x], a', l + 1, c', by simp [aggs], m3.at b17 (show ¬ w.heap.size = w0.heap.size + 1 by omega), x17.mod m3 fun k hk hS => by cases hS; have := hnew' _ hk; omega, hnew', ?_⟩
      have := mA.size
      omega
  · rintro w2 vs hS ⟨hr2, xs, a, l, c, rfl, hb2, hx2, hn2, hz2⟩ hk2
    refine ⟨hr2, fun w3 m3 s3 hd3 => ?_⟩
    have b3 := m3.at hb2 (by omega)
    have x3 : Rx excL 29 w3 a l c xs := hx2.mod m3 fun k hk hS => by have := hn2 _ hk; omega
    refine ⟨a, l, c, by rw [cl b3]; rfl, hd3, ?_⟩
    intro w4 e4
    have m4 : Mod (on w0.heap.size) w3 w4 := by subst e4; exact Mod.putObj _ _ _
    refine h w4 a l c xs hS (x3.mod m4 fun k hk hS => by cases hS; have := hn2 _ hk; omega) ?_ fun k hk => by have := hn2 _ hk; omega
    exact (hk2.mod.new m3 fun k hS => by omega).new m4 fun k hS => by cases hS; omega
end Go.Proofs.YtehhhkcemmfjpaaDoor.SeqX

/- The library's AppendSeq, Collect: of structs of three cells. Bnd, bndL: their values; 31, 33: their type, and their row's. -/
namespace Go.Proofs.YtehhhkcemmfjpaaDoor.SeqB
open Go Go.Proofs.YtehhhkcemmfjpaaDoor Go.Proofs.YtehhhkcemmfjpaaDoor.St

abbrev aggs (xs : List Bnd) : List Value := xs.map fun x => .agg ⟨(bndL).cs x⟩
/-- What AppendSeq has gathered: in a box that is the block w.heap.size, in a row of its own. -/
def Got (w : World) (Rdy : World → Prop) (vs : List Value) (w' : World) : Prop :=
  Rdy w' ∧ ∃ (xs : List Bnd) (a : Option Addr) (l c : Nat), vs = aggs xs ∧ w'.heap[w.heap.size]? = some (.cells #[.slice a l c] 33 (0, 0)) ∧ Rx bndL 31 w' a l c xs ∧ (∀ k, rowB a k → w.heap.size + 3 ≤ k) ∧ w.heap.size + 3 ≤ w'.heap.size
theorem appendSeq_ok (seq : Value) (N : Nat) (S : List Value → Prop) (w : World) (hN : N ≤ 1099511627775) (hseq : SeqOf Tryd.prog seq w.heap.size w N (fun v => ∃ x : Bnd, v = .agg ⟨(bndL).cs x⟩) S) (R : Value → World → Prop)
    (h : ∀ w' a l c xs, S (aggs xs) → Rx bndL 31 w' a l c xs → Mod no w w' → (∀ k, rowB a k → w.heap.size < k) → R (.slice a l c) w') :
    Ca Tryd.prog 66 #[.slice none 0 0, seq] w R := by
  refine ca66 none 0 0 seq w R ?_
  intro w0 e0
  have m0 : Mod no w w0 := by subst e0; exact Mod.alloc _ _
  have b0 : w0.heap[w.heap.size]? = some (.cells #[.slice none 0 0] 33 (0, 0)) := by subst e0; exact new_at _ _
  have s0 : w0.heap.size = w.heap.size + 1 := by subst e0; simp
  clear e0
  refine ⟨hseq.1, ?_⟩
  intro Rdy Bsy hrs hbs hrb w1 m1 s1 hr1 hy
  have b1 := Mod.at' m1 b0
  have hstab : Stab (Got w Rdy) := by
    constructor
    · rintro vs w1 w2 ⟨hr, xs, a, l, c, rfl, hb, hx, hn, hz⟩ hm
      obtain ⟨h1, r, h2⟩ := hrb w1 (.inl hr)
      exact ⟨hrs w1 w2 hr (by rw [hm.at' h1, h1]) (by rw [hm.at' h2, h2]), xs, a, l, c, rfl, hm.at' hb, hx.no hm, hn, Nat.le_trans hz hm.size⟩
    · rintro vs w1 w2 b o ⟨hr, xs, a, l, c, rfl, hb, hx, hn, hz⟩ hbo hit hm
      obtain ⟨h1, r, h2⟩ := hrb w1 (.inl hr)
      have hne : ∀ k o', w1.heap[k]? = some o' → isIt o' = false → ¬ on b k := by
        intro k o' hk hf e
        cases e
        rw [hbo] at hk
        cases hk
        rw [hit] at hf
        cases hf
      refine ⟨hrs w1 w2 hr (by rw [hm.at h1 (hne _ _ h1 rfl), h1]) (by rw [hm.at h2 (hne _ _ h2 rfl), h2]), xs, a, l, c, rfl, hm.at hb (hne _ _ hb rfl), hx.mod hm ?_, hn, Nat.le_trans hz hm.size⟩
      intro k hk2
      rcases Row.block hx with ⟨h0, _⟩ | ⟨g, cur, h0, hg, _⟩
      · subst h0; cases hk2
      · subst h0; cases hk2; exact hne _ _ hg rfl
  refine hseq.2 (Got w Rdy) _ w1 _ (Kp.of_no (m0.trans m1)) hstab ⟨hr1, [], none, 0, 0, rfl, b1, Row.empty _ _ _, (fun k hk => by cases hk), by omega⟩ ?_ ?_
  · rintro pre v w2 hk2 ⟨hr2, xs, a, l, c, rfl, hb2, hx2, hn2, hz2⟩ hlen ⟨x, rfl⟩ R' hR'
    refine (hy (.agg ⟨(bndL).cs x⟩) w2 (fun w3 => R' (.bool true) w3) hr2 ?_).mono fun v w3 ⟨hv, hR⟩ => by rw [hv]; exact hR
    intro w5 e5
    have n5 : Mod no w2 w5 := by subst e5; exact Mod.alloc _ _
    have b5 : w5.heap[w2.heap.size]? = some (.cells ([Value.string (ByteArray.mk #[]), Value.string (ByteArray.mk #[]), Value.string (ByteArray.mk #[])]).toArray 31 (0, 0)) := by subst e5; exact new_at _ _
    clear e5
    refine (stCells_var (vs := (bndL).cs x) b5 rfl (fun v hv => (bndL).one x v hv) fun wx nx bx => ?_ : stCells _ _ _ _ _)
    have n2x : Mod no w2 wx := n5.new nx fun k hk => by cases hk; exact Nat.le_refl _
    obtain ⟨g1, r, g2⟩ := hrb w2 (.inl hr2)
    refine ⟨hrs w2 wx hr2 (by rw [n2x.at' g1, g1]) (by rw [n2x.at' g2, g2]), fun w6 hbz m6 s6 => ?_⟩
    have hz5 := lt_of_heap bx
    have m26 : Mod (on (w0.heap.size + 1)) w2 w6 := n2x.no_trans m6
    have b6 := m26.at hb2 (show ¬ w.heap.size = w0.heap.size + 1 by omega)
    have v6 := m6.at bx (show ¬ w2.heap.size = w0.heap.size + 1 by omega)
    have x6 : Rx bndL 31 w6 a l c xs := hx2.mod m26 fun k hk hS => by cases hS; have := hn2 _ hk; omega
    have hxl := x6.len.1
    have hpl : (aggs xs).length = xs.length := List.length_map ..
    refine ⟨a, l, c, by rw [cl b6]; rfl, _, by rw [cl1 v6]; rfl, _, by rw [cl1 v6]; rfl, _, by rw [cl1 v6]; rfl, ?_⟩
    intro w10 e10
    have m10 : Mod no w6 w10 := by subst e10; exact Mod.alloc _ _
    have b10 : w10.heap[w6.heap.size]? = some (.cells ((bndL).cs x).toArray 31 (0, 0)) := by subst e10; exact new_at _ _
    clear e10
    obtain ⟨a', c', w12, hrun, x12, m12, hnew⟩ := Row.push (P := Tryd.prog) (t := 33) (ty := 33) (by kernel_rfl) (x6.no m10) (b := some ⟨w6.heap.size, 0, none⟩) (m := 1) (cc := 1) (ys := [x]) rfl
      (fun ad had j v hj => by cases had; rw [cl1 b10]; simpa using hj) (fun h => by cases h) (by omega)
    have hbox : ¬ rowB a w.heap.size := fun hk => by have := hn2 _ hk; omega
    have b12 := m12.at (m10.at' b6) hbox
    refine ⟨_, w12, hrun, _, _, _, rfl, ⟨_, by rw [cl1 b12]; rfl⟩, fz1 b12 _, ?_⟩
    intro w17 e17
    have m17 : Mod (on w.heap.size) w12 w17 := by subst e17; exact Mod.set1 _ _ _ _
    have b17 : w17.heap[w.heap.size]? = some (.cells #[.slice a' (l + 1) c'] 33 (0, 0)) := by subst e17; rw [set1 b12]; rfl
    clear e17
    have hs6 := m26.size
    have hs10 := m10.size
    have hnew' : ∀ k, rowB a' k → w.heap.size + 3 ≤ k := fun k hk => (hnew k hk).elim (hn2 k) fun h => by omega
    have x17 : Rx bndL 31 w17 a' (l + 1) c' (xs ++ [x]) := Rx.mod x12 m17 fun k hk e => by cases e; have := hnew' _ hk; omega
    have mA : Mod (fun k => rowB a k ∨ k = w.heap.size) w6 w17 := (m10.no_trans (m12.mono fun k _ hk => .inl hk)).trans' m17 fun k _ hk => .inr hk
    obtain ⟨h1, r', h2⟩ := hrb w6 (.inr hbz)
    have k1 : ¬ (rowB a w0.heap.size ∨ w0.heap.size = w.heap.size) := fun h => h.elim (fun h => by have := hn2 _ h; omega) (by omega)
    have k2 : ¬ (rowB a (w0.heap.size + 1) ∨ w0.heap.size + 1 = w.heap.size) := fun h => h.elim (fun h => by have := hn2 _ h; omega) (by omega)
    refine ⟨hbs w6 w17 hbz (by rw [mA.at h1 k1, h1]) (by rw [mA.at h2 k2, h2]), fun w3 hr3 m3 s3 => hR' w3 ?_ ?_⟩
    · have mB : Mod (fun k => k = w0.heap.size + 1 ∨ (rowB a k ∨ k = w.heap.size)) w2 w3 := ((m26.mono fun k _ hk => .inl hk).trans' mA fun k _ hk => .inr hk).trans' m3 fun k _ hk => .inl hk
      refine Kp.of_mod mB fun k o ho hk hS => ?_
      rcases hS with rfl | hS | rfl
      · rw [g2] at ho
        cases ho
        rcases hk with hk | hk
        · omega
        · cases hk
      · have := hn2 _ hS
        rcases hk with hk | hk
        · omega
        rcases Row.block hx2 with ⟨h0, _⟩ | ⟨g, cur, h0, hg, _⟩
        · subst h0; cases hS
        · subst h0
          cases hS
          rw [hg] at ho
          cases ho
          cases hk
      · rw [hb2] at ho
        cases ho
        rcases hk with hk | hk
        · omega
        · cases hk
    · refine ⟨hr3, xs ++ [x], a', l + 1, c', by simp [aggs], m3.at b17 (show ¬ w.heap.size = w0.heap.size + 1 by omega), x17.mod m3 fun k hk hS => by cases hS; have := hnew' _ hk; omega, hnew', ?_⟩
      have := mA.size
      omega
  · rintro w2 vs hS ⟨hr2, xs, a, l, c, rfl, hb2, hx2, hn2, hz2⟩ hk2
    refine ⟨hr2, fun w3 m3 s3 hd3 => ?_⟩
    have b3 := m3.at hb2 (by omega)
    have x3 : Rx bndL 31 w3 a l c xs := hx2.mod m3 fun k hk hS => by have := hn2 _ hk; omega
    refine ⟨a, l, c, by rw [cl b3]; rfl, hd3, ?_⟩
    intro w4 e4
    have m4 : Mod (on w0.heap.size) w3 w4 := by subst e4; exact Mod.putObj _ _ _
    refine h w4 a l c xs hS (x3.mod m4 fun k hk hS => by cases hS; have := hn2 _ hk; omega) ?_ fun k hk => by have := hn2 _ hk; omega
    exact (hk2.mod.new m3 fun k hS => by omega).new m4 fun k hS => by cases hS; omega
end Go.Proofs.YtehhhkcemmfjpaaDoor.SeqB

/- The table's Exchanges and Bindings: sorted. -/
namespace Go.Proofs.YtehhhkcemmfjpaaDoor
open Go Go.Proofs.YtehhhkcemmfjpaaDoor Go.Proofs.YtehhhkcemmfjpaaDoor.St

/-- The entries of a map, handed out one by one. -/
theorem values_seq (B : Nat) (w0 : World) (bx m : Nat) (t : TypeId) (D : List Exc) (hbx : w0.heap[bx]? = some (.cells #[.map (some m)] t (0, 0))) (hB : bx < B) (hm : XMap w0 m D) (hmB : m < B) (N : Nat) (hN : D.length ≤ N) :
    SeqOf Tryd.prog (.func (.func 55) #[] #[.pointer (some ⟨bx, 0, none⟩)]) B w0 N (fun v => ∃ x : Exc, v = .agg ⟨excL.cs x⟩) (fun xs => xs.Perm (SeqX.aggs D)) := by
  refine ⟨⟨_, _, _, rfl⟩, ?_⟩
  intro J y w R hk hst hJ hy hend
  refine (ca55 y (some ⟨bx, 0, none⟩) w R ?_ : Ca _ _ _ _ _)
  obtain ⟨es, clock, hes, hkv, hn, hc⟩ := hm
  have hes' := hk.old m _ hes (.inl hmB)
  refine ⟨some m, by rw [cl (hk.old bx _ hbx (.inl hB))]; rfl, es, clock, hes', ?_⟩
  intro w3 e3
  have m3 : Mod no w w3 := by subst e3; exact Mod.alloc _ _
  have b3 : w3.heap[w.heap.size]? = some (.mapIter (some m) clock #[] clock) := by subst e3; exact new_at _ _
  clear e3
  have hlen : D.length = es.toList.length := by
    have := congrArg List.length hkv
    simpa [kvL, exL] using this.symm
  have hkeys : es.toList.map (·.val) = SeqX.aggs D := by
    have := congrArg (List.map Prod.snd) hkv
    rw [List.map_map, kvL, exL, List.map_map, List.map_map] at this
    exact this
  have hkey : ∀ e ∈ es.toList, ∃ x : Exc, e.val = .agg ⟨excL.cs x⟩ := by
    intro e he
    have : e.val ∈ SeqX.aggs D := by rw [← hkeys]; exact List.mem_map_of_mem he
    obtain ⟨p, _, hp⟩ := List.mem_map.1 this
    exact ⟨p, hp.symm⟩
  refine ⟨fun w' => ∃ (seen : Array Nat) (c0 : Nat) (got : List MapEntry), w'.heap[w.heap.size]? = some (.mapIter (some m) clock seen c0) ∧ clock ≤ c0 ∧ (got ++ (leftOf es seen).toList).Perm es.toList ∧ J (got.map (·.val)) w' ∧ Kp B w0 w',
    fun w' => match w'.heap[w.heap.size]? with | some (.mapIter _ _ seen _) => (leftOf es seen).size | _ => 0, ⟨#[], clock, [], b3, Nat.le_refl _, by simp only [leftOf, Array.toList_filter, List.nil_append]; exact .of_eq (List.filter_eq_self.2 (by simp)), hst.1 _ _ _ hJ m3, hk.trans (Kp.of_no m3)⟩, ?_⟩
  rintro _ w7 ⟨seen, c0, got, hit, hcc, hperm, hJ7, hk7⟩
  have hm7 := hk7.old m _ hes (.inl hmB)
  rcases next_at (P := Tryd.prog) (ty := 0) hit hm7 hc hcc with ⟨h0, hrun⟩ | ⟨e, he, w8, hrun, m8, hit8⟩
  · refine ⟨_, w7, hrun, .inl ⟨rfl, hend w7 _ ?_ hJ7 hk7⟩⟩
    have : (leftOf es seen).toList = [] := List.eq_nil_of_length_eq_zero (by simpa using h0)
    rw [this, List.append_nil] at hperm
    rw [← hkeys]
    exact hperm.map _
  · refine ⟨_, w8, hrun, .inr ⟨_, _, rfl, ?_⟩⟩
    have hmem := (mem_left he).1
    have hk8 : Kp B w0 w8 := by
      refine ⟨m8.os.trans hk7.os, m8.tape.trans hk7.tape, m8.output.trans hk7.output, Nat.le_trans hk7.size m8.size, fun k o ho hko => m8.at (hk7.old k o ho hko) fun hS => ?_⟩
      cases hS
      have := lt_of_heap ho
      have := hk.size
      omega
    have hm8 := hk8.old m _ hes (.inl hmB)
    refine ⟨e.key, e.val, entry_at hit8 hm8 hmem hn, ?_⟩
    obtain ⟨x, hkk⟩ := hkey e hmem
    rw [hkk]
    have hJ8 := hst.2 _ _ _ _ _ hJ7 hit rfl m8
    have hll : got.length < D.length := by
      have h1 := hperm.length_eq
      have h2 : 0 < (leftOf es seen).toList.length := List.length_pos_of_mem he
      rw [List.length_append] at h1
      omega
    intro w11 e11
    have m11 : Mod no w8 w11 := by subst e11; exact Mod.alloc _ _
    have b11 : w11.heap[w8.heap.size]? = some (.cells [Value.string (ByteArray.mk #[]), Value.int .i64 0, Value.bool false].toArray 29 (0, 0)) := by subst e11; exact new_at _ _
    clear e11
    refine (stCells_var (vs := excL.cs x) b11 rfl (fun v hv => excL.one x v hv) fun w13 m13 b13 => ?_ : stCells _ _ _ _ _)
    have m813 : Mod no w8 w13 := m11.new m13 fun k hk => by cases hk; exact Nat.le_refl _
    refine ⟨_, by rw [cl1 b13]; rfl, _, by rw [cl1 b13]; rfl, _, by rw [cl1 b13]; rfl, ?_⟩
    refine hy _ (.agg ⟨excL.cs x⟩) w13 (hk8.trans (Kp.of_no m813)) (hst.1 _ _ _ hJ8 m813) (by simpa using (by omega : got.length < N)) ⟨x, rfl⟩ _ fun w15 hk15 hJ15 => ⟨true, rfl, ?_⟩
    refine ifK_of (fun h => by cases h) fun _ => ?_
    have hit15 := hk15.old _ _ (m813.at' hit8) (.inr rfl)
    refine ⟨⟨seen.push e.born, clock, got ++ [e], hit15, Nat.le_refl _, ?_, by rw [List.map_append]; simpa [hkk] using hJ15, (hk8.trans (Kp.of_no m813)).trans hk15⟩, ?_⟩
    · rw [List.append_assoc]
      exact ((List.Perm.append_left got (left_perm hn he)).symm).trans hperm
    · simp only [hit15, hit]
      exact left_shrinks es seen e he
/-- The entries of a map, handed out one by one. -/
theorem bkeys_seq (B : Nat) (w0 : World) (bx m : Nat) (t : TypeId) (D : List Bnd) (hbx : w0.heap[bx]? = some (.cells #[.map (some m)] t (0, 0))) (hB : bx < B) (hm : BMap w0 m D) (hmB : m < B) (N : Nat) (hN : D.length ≤ N) :
    SeqOf Tryd.prog (.func (.func 49) #[] #[.pointer (some ⟨bx, 0, none⟩)]) B w0 N (fun v => ∃ x : Bnd, v = .agg ⟨bndL.cs x⟩) (fun xs => xs.Perm (SeqB.aggs D)) := by
  refine ⟨⟨_, _, _, rfl⟩, ?_⟩
  intro J y w R hk hst hJ hy hend
  refine (ca49 y (some ⟨bx, 0, none⟩) w R ?_ : Ca _ _ _ _ _)
  obtain ⟨es, clock, hes, hkv, hn, hc⟩ := hm
  have hes' := hk.old m _ hes (.inl hmB)
  refine ⟨some m, by rw [cl (hk.old bx _ hbx (.inl hB))]; rfl, es, clock, hes', ?_⟩
  intro w3 e3
  have m3 : Mod no w w3 := by subst e3; exact Mod.alloc _ _
  have b3 : w3.heap[w.heap.size]? = some (.mapIter (some m) clock #[] clock) := by subst e3; exact new_at _ _
  clear e3
  have hlen : D.length = es.toList.length := by
    have := congrArg List.length hkv
    simpa [kvL, bnL] using this.symm
  have hkeys : es.toList.map (·.key) = SeqB.aggs D := by
    have := congrArg (List.map Prod.fst) hkv
    rw [List.map_map, kvL, bnL, List.map_map, List.map_map] at this
    exact this
  have hkey : ∀ e ∈ es.toList, ∃ x : Bnd, e.key = .agg ⟨bndL.cs x⟩ := by
    intro e he
    have : e.key ∈ SeqB.aggs D := by rw [← hkeys]; exact List.mem_map_of_mem he
    obtain ⟨p, _, hp⟩ := List.mem_map.1 this
    exact ⟨p, hp.symm⟩
  refine ⟨fun w' => ∃ (seen : Array Nat) (c0 : Nat) (got : List MapEntry), w'.heap[w.heap.size]? = some (.mapIter (some m) clock seen c0) ∧ clock ≤ c0 ∧ (got ++ (leftOf es seen).toList).Perm es.toList ∧ J (got.map (·.key)) w' ∧ Kp B w0 w',
    fun w' => match w'.heap[w.heap.size]? with | some (.mapIter _ _ seen _) => (leftOf es seen).size | _ => 0, ⟨#[], clock, [], b3, Nat.le_refl _, by simp only [leftOf, Array.toList_filter, List.nil_append]; exact .of_eq (List.filter_eq_self.2 (by simp)), hst.1 _ _ _ hJ m3, hk.trans (Kp.of_no m3)⟩, ?_⟩
  rintro _ w7 ⟨seen, c0, got, hit, hcc, hperm, hJ7, hk7⟩
  have hm7 := hk7.old m _ hes (.inl hmB)
  rcases next_at (P := Tryd.prog) (ty := 0) hit hm7 hc hcc with ⟨h0, hrun⟩ | ⟨e, he, w8, hrun, m8, hit8⟩
  · refine ⟨_, w7, hrun, .inl ⟨rfl, hend w7 _ ?_ hJ7 hk7⟩⟩
    have : (leftOf es seen).toList = [] := List.eq_nil_of_length_eq_zero (by simpa using h0)
    rw [this, List.append_nil] at hperm
    rw [← hkeys]
    exact hperm.map _
  · refine ⟨_, w8, hrun, .inr ⟨_, _, rfl, ?_⟩⟩
    have hmem := (mem_left he).1
    have hk8 : Kp B w0 w8 := by
      refine ⟨m8.os.trans hk7.os, m8.tape.trans hk7.tape, m8.output.trans hk7.output, Nat.le_trans hk7.size m8.size, fun k o ho hko => m8.at (hk7.old k o ho hko) fun hS => ?_⟩
      cases hS
      have := lt_of_heap ho
      have := hk.size
      omega
    have hm8 := hk8.old m _ hes (.inl hmB)
    refine ⟨e.key, e.val, entry_at hit8 hm8 hmem hn, ?_⟩
    obtain ⟨x, hkk⟩ := hkey e hmem
    rw [hkk]
    have hJ8 := hst.2 _ _ _ _ _ hJ7 hit rfl m8
    have hll : got.length < D.length := by
      have h1 := hperm.length_eq
      have h2 : 0 < (leftOf es seen).toList.length := List.length_pos_of_mem he
      rw [List.length_append] at h1
      omega
    intro w11 e11
    have m11 : Mod no w8 w11 := by subst e11; exact Mod.alloc _ _
    have b11 : w11.heap[w8.heap.size]? = some (.cells [Value.string (ByteArray.mk #[]), Value.string (ByteArray.mk #[]), Value.string (ByteArray.mk #[])].toArray 31 (0, 0)) := by subst e11; exact new_at _ _
    clear e11
    refine (stCells_var (vs := bndL.cs x) b11 rfl (fun v hv => bndL.one x v hv) fun w13 m13 b13 => ?_ : stCells _ _ _ _ _)
    have m813 : Mod no w8 w13 := m11.new m13 fun k hk => by cases hk; exact Nat.le_refl _
    refine ⟨_, by rw [cl1 b13]; rfl, _, by rw [cl1 b13]; rfl, _, by rw [cl1 b13]; rfl, ?_⟩
    refine hy _ (.agg ⟨bndL.cs x⟩) w13 (hk8.trans (Kp.of_no m813)) (hst.1 _ _ _ hJ8 m813) (by simpa using (by omega : got.length < N)) ⟨x, rfl⟩ _ fun w15 hk15 hJ15 => ⟨true, rfl, ?_⟩
    refine ifK_of (fun h => by cases h) fun _ => ?_
    have hit15 := hk15.old _ _ (m813.at' hit8) (.inr rfl)
    refine ⟨⟨seen.push e.born, clock, got ++ [e], hit15, Nat.le_refl _, ?_, by rw [List.map_append]; simpa [hkk] using hJ15, (hk8.trans (Kp.of_no m813)).trans hk15⟩, ?_⟩
    · rw [List.append_assoc]
      exact ((List.Perm.append_left got (left_perm hn he)).symm).trans hperm
    · simp only [hit15, hit]
      exact left_shrinks es seen e he

theorem perm_of {α β : Type} (f : α → β) (g : β → α) (hg : ∀ x, g (f x) = x) {xs ys : List α} (h : (xs.map f).Perm (ys.map f)) : xs.Perm ys := by
  have := h.map g
  rw [List.map_map, List.map_map, show g ∘ f = id from funext hg, List.map_id, List.map_id] at this
  exact this
def ke : Value → Exc
  | .agg ⟨[.string a, .int .i64 b, .bool c]⟩ => ⟨a, b, c⟩
  | _ => default
section
variable {w : World} {t m1 m2 : Nat} {D : List Exc} {B : List Bnd} (hT : Tbl w t m1 m2 D B)
include hT
theorem exchanges_ok (hl : D.length < 1000000000) (R : Value → World → Prop) (h : ∀ w' a l c xs, Rx excL 29 w' a l c xs → xs.Perm D → Srt xs 0 l → Mod no w w' → (∀ k, rowB a k → w.heap.size ≤ k) → R (.slice a l c) w') :
    Ca Tryd.prog 12 #[.pointer (some ⟨t, 0, none⟩)] w R := by
  refine ca12 (some ⟨t, 0, none⟩) w R ?_
  refine made_ok hT _ ⟨true, rfl, ifK_of (fun h => by cases h) fun _ => ?_⟩
  refine ⟨some m1, by rw [cl1 hT.cell]; rfl, ?_⟩
  refine ca34 (some m1) w _ ?_
  intro w1 e1
  have n1 : Mod no w w1 := by subst e1; exact Mod.alloc _ _
  have b1 : ∃ t, w1.heap[w.heap.size]? = some (.cells #[.map (some m1)] t (0, 0)) := by subst e1; exact ⟨_, new_at _ _⟩
  have s1 : w1.heap.size = w.heap.size + 1 := by subst e1; simp
  clear e1
  obtain ⟨t1, b1⟩ := b1
  have hT1 := hT.no n1
  have hm1 : m1 < w.heap.size := by obtain ⟨_, _, hh, _⟩ := hT.x; exact lt_of_heap hh
  refine ⟨_, rfl, ?_⟩
  refine ca33 _ _ w1 _ ?_
  refine ca53 _ w1 _ ?_
  refine SeqX.appendSeq_ok _ D.length _ w1 (by omega) (values_seq w1.heap.size w1 w.heap.size m1 t1 D b1 (by omega) hT1.x (by omega) D.length (Nat.le_refl _)) _ ?_
  intro w2 a l c xs hp hx n2 hn
  have hp : xs.Perm D := perm_of _ ke (fun _ => rfl) hp
  have hxl := hx.len.1
  have hpl := hp.length_eq
  refine ⟨a, l, c, rfl, a, l, c, rfl, ?_⟩
  refine SrtX.sort_ok _ cmpX a l c xs w2 hx (by omega) _ fun w3 ys hy hyp hsrt n3 => ⟨rfl, a, l, c, rfl, ?_⟩
  exact h w3 a l c ys hy (hyp.trans hp) hsrt (n1.trans (n2.new n3 fun k hk => by have := hn k hk; omega)) fun k hk => by have := hn k hk; omega
theorem bindings_ok (hl : B.length < 1000000000) (R : Value → World → Prop) (h : ∀ w' a l c xs, Rx bndL 31 w' a l c xs → xs.Perm B → Srt xs 0 l → Mod no w w' → (∀ k, rowB a k → w.heap.size ≤ k) → R (.slice a l c) w') :
    Ca Tryd.prog 9 #[.pointer (some ⟨t, 0, none⟩)] w R := by
  refine ca9 (some ⟨t, 0, none⟩) w R ?_
  refine made_ok hT _ ⟨true, rfl, ifK_of (fun h => by cases h) fun _ => ?_⟩
  refine ⟨some m2, by rw [cl1 hT.cell]; rfl, ?_⟩
  refine ca26 (some m2) w _ ?_
  intro w1 e1
  have n1 : Mod no w w1 := by subst e1; exact Mod.alloc _ _
  have b1 : ∃ t, w1.heap[w.heap.size]? = some (.cells #[.map (some m2)] t (0, 0)) := by subst e1; exact ⟨_, new_at _ _⟩
  have s1 : w1.heap.size = w.heap.size + 1 := by subst e1; simp
  clear e1
  obtain ⟨t1, b1⟩ := b1
  have hT1 := hT.no n1
  have hm1 : m2 < w.heap.size := by obtain ⟨_, _, hh, _⟩ := hT.b; exact lt_of_heap hh
  refine ⟨_, rfl, ?_⟩
  refine ca25 _ _ w1 _ ?_
  refine ca47 _ w1 _ ?_
  refine SeqB.appendSeq_ok _ B.length _ w1 (by omega) (bkeys_seq w1.heap.size w1 w.heap.size m2 t1 B b1 (by omega) hT1.b (by omega) B.length (Nat.le_refl _)) _ ?_
  intro w2 a l c xs hp hx n2 hn
  have hp : xs.Perm B := perm_of _ kb (fun _ => rfl) hp
  have hxl := hx.len.1
  have hpl := hp.length_eq
  refine ⟨a, l, c, rfl, a, l, c, rfl, ?_⟩
  refine SrtB.sort_ok _ cmpB a l c xs w2 hx (by omega) _ fun w3 ys hy hyp hsrt n3 => ⟨rfl, a, l, c, rfl, ?_⟩
  exact h w3 a l c ys hy (hyp.trans hp) hsrt (n1.trans (n2.new n3 fun k hk => by have := hn k hk; omega)) fun k hk => by have := hn k hk; omega
end
end Go.Proofs.YtehhhkcemmfjpaaDoor

/- The formulas of functions, printed by a program of mine (gen.py) out of the translation. -/
namespace Go.Proofs.YtehhhkcemmfjpaaDoor
open Go Go.Proofs.YtehhhkcemmfjpaaDoor.St
open _root_.Go.Value (string int bool slice pointer agg tuple map func nilFunc iface)
open _root_.Go.World (cell? frozen? setCell alloc drew)
open _root_.Go.Addr (add)
open _root_.Go.Obj (cells)
open _root_.Go.IntKind (wrap i64 u64 i32 u32 u8)
set_option maxRecDepth 100000

/-- staith/staithlaw07.lives -/
noncomputable def C13 : Code := (Tryd.f13.body).getD .skip
def pl13 : Nat → Plan := fun _ => .done
def ls13 : Nat → List (Nat × LT) := fun _ => []
def W13 (w : World) (R : Value → World → Prop) : Prop :=
  (Ca Tryd.prog (6) (Array.mk []) (w) (fun v0 => (fun w1 =>
(∃ p2 : Option Addr, ((v0 = pointer p2) ∧ (atW (alloc w1 (cells (Array.mk [string (ByteArray.mk #[]), int i64 0, bool false]) 29 (0, 0))) (fun w3 =>
(st1 (add (nw w1) 0) (string (ByteArray.mk #[120])) w3 (fun w5 =>
(st1 (add (nw w1) 1) (int i64 3) w5 (fun w7 =>
(st1 (add (nw w1) 2) (bool false) w7 (fun w9 =>
(atW (alloc w9 (cells (Array.mk [string (ByteArray.mk #[]), string (ByteArray.mk #[]), string (ByteArray.mk #[])]) 31 (0, 0))) (fun w10 =>
(st1 (add (nw w9) 0) (string (ByteArray.mk #[120])) w10 (fun w12 =>
(st1 (add (nw w9) 1) (string (ByteArray.mk #[113])) w12 (fun w14 =>
(st1 (add (nw w9) 2) (string (ByteArray.mk #[97, 46, 42])) w14 (fun w16 =>
(ifK (Option.isNone p2)
(R (bool false) (w16))
(∃ s17 : ByteArray, ((cell? w16 (add (nw w1) 0) = some (string s17)) ∧ (∃ x18 : Int, ((cell? w16 (add (nw w1) 1) = some (int i64 x18)) ∧ (∃ b19 : Bool, ((cell? w16 (add (nw w1) 2) = some (bool b19)) ∧ (Ca Tryd.prog (7) (Array.mk [pointer p2, agg (Array.mk (List.reverse [bool b19, int i64 x18, string s17]))]) (w16) (fun v20 => (fun w21 =>
(∃ x22 : Int, ((v20 = int i64 x22) ∧ (ifK (x22 != 0)
(R (bool false) (w21))
(∃ s23 : ByteArray, ((cell? w21 (add (nw w9) 0) = some (string s23)) ∧ (∃ s24 : ByteArray, ((cell? w21 (add (nw w9) 1) = some (string s24)) ∧ (∃ s25 : ByteArray, ((cell? w21 (add (nw w9) 2) = some (string s25)) ∧ (Ca Tryd.prog (8) (Array.mk [pointer p2, agg (Array.mk (List.reverse [string s25, string s24, string s23]))]) (w21) (fun v26 => (fun w27 =>
(∃ x28 : Int, ((v26 = int i64 x28) ∧ (ifK (x28 != 0)
(R (bool false) (w27))
(∃ s29 : ByteArray, ((cell? w27 (add (nw w9) 0) = some (string s29)) ∧ (∃ s30 : ByteArray, ((cell? w27 (add (nw w9) 1) = some (string s30)) ∧ (∃ s31 : ByteArray, ((cell? w27 (add (nw w9) 2) = some (string s31)) ∧ (Ca Tryd.prog (8) (Array.mk [pointer p2, agg (Array.mk (List.reverse [string s31, string s30, string s29]))]) (w27) (fun v32 => (fun w33 =>
(∃ x34 : Int, ((v32 = int i64 x34) ∧ (ifK (x34 != 0)
(R (bool false) (w33))
(Ca Tryd.prog (9) (Array.mk [pointer p2]) (w33) (fun v35 => (fun w36 =>
(∃ p37 : Option Addr, (∃ n38 : Nat, (∃ n39 : Nat, ((v35 = slice p37 n38 n39) ∧ (ifK ((↑n38 : Int) != 1)
(R (bool false) (w36))
(Ca Tryd.prog (14) (Array.mk [pointer p2, string (ByteArray.mk #[120])]) (w36) (fun v40 => (fun w41 =>
(∃ s42 : ByteArray, (∃ x43 : Int, (∃ b44 : Bool, (∃ b45 : Bool, ((v40 = tuple (Array.mk (List.reverse [bool b45, agg (Array.mk (List.reverse [bool b44, int i64 x43, string s42]))]))) ∧ (atW (alloc w41 (cells (Array.mk [string (ByteArray.mk #[]), int i64 0, bool false]) 29 (0, 0))) (fun w46 =>
(st1 (add (nw w41) 0) (string s42) w46 (fun w48 =>
(st1 (add (nw w41) 1) (int i64 x43) w48 (fun w50 =>
(st1 (add (nw w41) 2) (bool b44) w50 (fun w52 =>
(ifK (b45)
(∃ s53 : ByteArray, ((cell? w52 (add (nw w41) 0) = some (string s53)) ∧ (∃ x54 : Int, ((cell? w52 (add (nw w41) 1) = some (int i64 x54)) ∧ (∃ b55 : Bool, ((cell? w52 (add (nw w41) 2) = some (bool b55)) ∧ (∃ s56 : ByteArray, ((cell? w52 (add (nw w1) 0) = some (string s56)) ∧ (∃ x57 : Int, ((cell? w52 (add (nw w1) 1) = some (int i64 x57)) ∧ (∃ b58 : Bool, ((cell? w52 (add (nw w1) 2) = some (bool b58)) ∧ (eqA Tryd.prog 29 (agg (Array.mk (List.reverse [bool b55, int i64 x54, string s53]))) (agg (Array.mk (List.reverse [bool b58, int i64 x57, string s56]))) (w52) (fun b59 => (fun w60 =>
(ifK (b59)
(Ca Tryd.prog (11) (Array.mk [pointer p2, string (ByteArray.mk #[120])]) (w60) (fun v61 => (fun w62 =>
(∃ x63 : Int, ((v61 = int i64 x63) ∧ (ifK (x63 == 0)
(Ca Tryd.prog (9) (Array.mk [pointer p2]) (w62) (fun v64 => (fun w65 =>
(∃ p66 : Option Addr, (∃ n67 : Nat, (∃ n68 : Nat, ((v64 = slice p66 n67 n68) ∧ (ifK ((↑n67 : Int) == 0)
(Ca Tryd.prog (11) (Array.mk [pointer p2, string (ByteArray.mk #[120])]) (w65) (fun v69 => (fun w70 =>
(∃ x71 : Int, ((v69 = int i64 x71) ∧ (R (bool (x71 == 3)) (w70)))))))
(R (bool false) (w65))))))))))
(R (bool false) (w62))))))))
(R (bool false) (w60))))))))))))))))))
(R (bool false) (w52)))))))))))))))))))))))))))))))))))))))))))))))))))))))))))))))))))))))))))))))))))))
theorem ca13 (w : World) (R : Value → World → Prop) (h : W13  w R) : Ca Tryd.prog 13 ⟨[]⟩ w R :=
  caB (fn := Tryd.f13) (pl := pl13) (ls := ls13) Tryd.func13 (by kernel_rfl) (by kernel_rfl) h
end Go.Proofs.YtehhhkcemmfjpaaDoor

/- The examples of chapter 07. -/
namespace Go.Proofs.YtehhhkcemmfjpaaDoor
open Go Go.Proofs.YtehhhkcemmfjpaaDoor Go.Proofs.YtehhhkcemmfjpaaDoor.St

theorem _root_.Eq.no {w w' : World} {k : Nat} {o : Obj} (h : w.heap[k]? = some o) (m : Mod St.no w w') : w'.heap[k]? = some o := m.at' h
/-! ### The examples -/
def exX : Exc := ⟨⟨#[120]⟩, 3, false⟩
def exB : Bnd := ⟨⟨#[120]⟩, ⟨#[113]⟩, ⟨#[97, 46, 42]⟩⟩
theorem ex_declR : declR exX [] = 0 := by decide +kernel
theorem ex_declD : declD exX [] = [exX] := by decide +kernel
theorem ex_bindR : bindR exB [exX] [] = 0 := by decide +kernel
theorem ex_bindB : bindB exB [exX] [] = [exB] := by decide +kernel
theorem ex_bindR2 : bindR exB [exX] [exB] = 0 := by decide +kernel
theorem ex_bindB2 : bindB exB [exX] [exB] = [exB] := by decide +kernel
theorem ex_fx : fx ⟨#[120]⟩ [exX] = exX := by decide +kernel
theorem ex_hx : hx ⟨#[120]⟩ [exX] = true := by decide +kernel
theorem ex_dropD : ([exX].filter fun e => !(e.n == ⟨#[120]⟩)) = [] := by decide +kernel
theorem ex_dropB : ([exB].filter fun b => !decide (b.x = ⟨#[120]⟩)) = [] := by decide +kernel
theorem lives_ok (w : World) (R : Value → World → Prop) (h : ∀ w', Mod St.no w w' → R (.bool true) w') : Ca Tryd.prog 13 #[] w R := by
  refine ca13 w R ?_
  refine new_ok w _ fun w1 t m1 m2 hT n1 ht hm1 hm2 => ⟨_, rfl, ?_⟩
  intro w3 e0
  have n3 : Mod no w1 w3 := by subst e0; exact Mod.alloc _ _
  have b3 : Xc w3 w1.heap.size exc0 := by subst e0; exact new_at _ _
  clear e0
  refine put3 b3 fun w9 n9 b9 => ?_
  have n19 : Mod St.no w1 w9 := n3.new n9 fun k hk => by cases hk; exact Nat.le_refl _
  have b9 : Xc w9 w1.heap.size exX := b9
  intro w10 e0
  have n10 : Mod no w9 w10 := by subst e0; exact Mod.alloc _ _
  have b10 : w10.heap[w9.heap.size]? = some (.cells #[.string (ByteArray.mk #[]), .string (ByteArray.mk #[]), .string (ByteArray.mk #[])] 31 (0, 0)) := by subst e0; exact new_at _ _
  clear e0
  refine put3 b10 fun w16 n16 b16 => ?_
  have b16 : Bc w16 w9.heap.size exB := b16
  have n916 : Mod St.no w9 w16 := n10.new n16 fun k hk => by cases hk; exact Nat.le_refl _
  have b9 := b9.no n916
  have hT := (hT.no n19).no n916
  have g1 := n1.size
  have g2 := n19.size
  have g3 := n916.size
  have l9 := lt_of_heap b9
  have l16 := lt_of_heap b16
  have m16 := (n1.trans n19).trans n916
  have nx : w1.heap.size ≠ m1 ∧ w1.heap.size ≠ m2 ∧ w9.heap.size ≠ m1 ∧ w9.heap.size ≠ m2 := by
    obtain ⟨_, _, q1, _⟩ := hT.x
    obtain ⟨_, _, q2, _⟩ := hT.b
    refine ⟨?_, ?_, ?_, ?_⟩ <;> intro e
    · rw [← e, b9] at q1; cases q1
    · rw [← e, b9] at q2; cases q2
    · rw [← e, b16] at q1; cases q1
    · rw [← e, b16] at q2; cases q2
  refine (ifK_of (fun h => by cases h) (fun _ => ?_) : ifK false _ _)
  refine ⟨_, by rw [cl1 b9]; rfl, _, by rw [cl1 b9]; rfl, _, by rw [cl1 b9]; rfl, ?_⟩
  refine (declare_ok hT exX _ fun w21 hT21 n21 => ?_ : Ca _ _ _ _ _)
  rw [ex_declR]
  rw [ex_declD] at hT21
  have m21 := m16.new n21 fun k hk => by cases hk; exact hm1
  have b9 := n21.at b9 nx.1
  have b16 := n21.at b16 nx.2.2.1
  refine ⟨_, rfl, (ifK_of (fun h => by cases h) (fun _ => ?_) : ifK false _ _)⟩
  refine ⟨_, by rw [cl1 b16]; rfl, _, by rw [cl1 b16]; rfl, _, by rw [cl1 b16]; rfl, ?_⟩
  refine (bind_ok hT21 exB (by decide) _ fun w27 hT27 n27 => ?_ : Ca _ _ _ _ _)
  rw [ex_bindR]
  rw [ex_bindB] at hT27
  have m27 := m21.new n27 fun k hk => by cases hk; exact hm2
  have b9 := n27.at b9 nx.2.1
  have b16 := n27.at b16 nx.2.2.2
  refine ⟨_, rfl, (ifK_of (fun h => by cases h) (fun _ => ?_) : ifK false _ _)⟩
  refine ⟨_, by rw [cl1 b16]; rfl, _, by rw [cl1 b16]; rfl, _, by rw [cl1 b16]; rfl, ?_⟩
  refine (bind_ok hT27 exB (by decide) _ fun w33 hT33 n33 => ?_ : Ca _ _ _ _ _)
  rw [ex_bindR2]
  rw [ex_bindB2] at hT33
  have m33 := m27.new n33 fun k hk => by cases hk; exact hm2
  have b9 := n33.at b9 nx.2.1
  refine ⟨_, rfl, (ifK_of (fun h => by cases h) (fun _ => ?_) : ifK false _ _)⟩
  refine bindings_ok hT33 (by decide) _ fun w36 p l c bs hbs hp _ n36 _ => ⟨_, _, _, rfl, ?_⟩
  have hl : l = 1 := by have := hbs.len.1; have := hp.length_eq; simp at this; omega
  subst hl
  refine (ifK_of (fun h => by cases h) (fun _ => ?_) : ifK false _ _)
  have hT36 := hT33.no n36
  refine find_ok hT36 _ _ fun w41 n41 => ?_
  rw [ex_fx, ex_hx]
  refine ⟨_, _, _, _, rfl, ?_⟩
  intro w46 e0
  have n46 : Mod no w41 w46 := by subst e0; exact Mod.alloc _ _
  have b46 : Xc w46 w41.heap.size exc0 := by subst e0; exact new_at _ _
  clear e0
  refine put3 b46 fun w52 n52 b52 => ?_
  have n4152 : Mod St.no w41 w52 := n46.new n52 fun k hk => by cases hk; exact Nat.le_refl _
  have b52 : Xc w52 w41.heap.size exX := b52
  have n3652 := n41.trans n4152
  have b9 := n3652.at' (n36.at' b9)
  refine (ifK_of (fun _ => ?_) (fun h => by cases h) : ifK true _ _)
  refine ⟨_, by rw [cl1 b52]; rfl, _, by rw [cl1 b52]; rfl, _, by rw [cl1 b52]; rfl, _, by rw [cl1 b9]; rfl, _, by rw [cl1 b9]; rfl, _, by rw [cl1 b9]; rfl, ?_⟩
  refine eqA_agg exc_s.guard (exc_s.eq exX exX) ?_
  rw [decide_eq_true rfl]
  refine (ifK_of (fun _ => ?_) (fun h => by cases h) : ifK true _ _)
  have m52 := (m33.trans n36).trans n3652
  refine drop_ok (hT36.no n3652) _ (by decide) _ fun w62 hT62 n62 => ?_
  rw [ex_hx] at hT62 ⊢
  simp only [if_true, ex_dropD, ex_dropB] at hT62
  have m62 := m52.new n62 fun k hk => by rcases hk with rfl | rfl <;> assumption
  refine ⟨_, rfl, (ifK_of (fun _ => ?_) (fun h => by cases h) : ifK true _ _)⟩
  refine bindings_ok hT62 (by decide) _ fun w65 p l c bs hbs hp _ n65 _ => ⟨_, _, _, rfl, ?_⟩
  have hl : l = 0 := by have h1 := hbs.len.1; have h2 : bs.length = 0 := hp.length_eq; omega
  subst hl
  refine (ifK_of (fun _ => ?_) (fun h => by cases h) : ifK true _ _)
  refine drop_ok (hT62.no n65) _ (by decide) _ fun w70 _ n70 => ?_
  exact ⟨_, rfl, h w70 ((m62.trans n65).new n70 fun k hk => by rcases hk with rfl | rfl <;> assumption)⟩
end Go.Proofs.YtehhhkcemmfjpaaDoor

/- The formulas of functions, printed by a program of mine (gen.py) out of the translation. -/
namespace Go.Proofs.YtehhhkcemmfjpaaDoor
open Go Go.Proofs.YtehhhkcemmfjpaaDoor.St
open _root_.Go.Value (string int bool slice pointer agg tuple map func nilFunc iface)
open _root_.Go.World (cell? frozen? setCell alloc drew)
open _root_.Go.Addr (add)
open _root_.Go.Obj (cells)
open _root_.Go.IntKind (wrap i64 u64 i32 u32 u8)
set_option maxRecDepth 100000

/-- (*staith/bind.Table).Copy -/
noncomputable def C16 : Code := (Tryd.f16.body).getD .skip
def pl16 : Nat → Plan
  | 3 => (.quiet 0 (.quiet 1 (.quiet 2 (.quiet 3 (.quiet 5 (.quiet 6 (.quiet 7 (.quiet 8 (.eff 4 [8] (.eff 9 [] (.quiet 10 (.eff 11 [] (.quiet 12 .done)))))))))))))
  | _ => .done
def ls16 : Nat → List (Nat × LT) := fun _ => []
def W16 (t : Option Addr) (w : World) (R : Value → World → Prop) : Prop :=
  (Ca Tryd.prog (21) (Array.mk [pointer t]) (w) (fun v0 => (fun w1 =>
(∃ b2 : Bool, ((v0 = bool b2) ∧ (ifK (!b2)
(R (pointer none) (w1))
(atW (drew w1) (fun w3 =>
(onP (t) (fun a4 =>
(∃ p5 : Option Nat, ((cell? w3 (add a4 0) = some (map p5)) ∧ (onP (t) (fun a6 =>
(∃ p7 : Option Nat, ((cell? w3 (add a6 1) = some (map p7)) ∧ (Ca Tryd.prog (37) (Array.mk [map p5]) (w3) (fun v8 => (fun w9 =>
(∃ p10 : Option Nat, ((v8 = map p10) ∧ ((cell? w9 (add (add a6 1) 0) = some (map p7)) ∧ (Ca Tryd.prog (38) (Array.mk [map p7]) (w9) (fun v11 => (fun w12 =>
(∃ p13 : Option Nat, ((v11 = map p13) ∧ (atW (alloc w12 (cells (Array.mk [map p10, map p13]) 46 (0, 0))) (fun w14 =>
(R (pointer (some (nw w12))) (w14)))))))))))))))))))))))))))))))
theorem ca16 (t : Option Addr) (w : World) (R : Value → World → Prop) (h : W16 t w R) : Ca Tryd.prog 16 ⟨[(.pointer t)]⟩ w R :=
  caB (fn := Tryd.f16) (pl := pl16) (ls := ls16) Tryd.func16 (by kernel_rfl) (by kernel_rfl) h

/-- maps.Clone[map[string]staith/api.Exchange,string,staith/api.Exchange] -/
noncomputable def C37 : Code := (Tryd.f37.body).getD .skip
def pl37 : Nat → Plan := fun _ => .done
def ls37 : Nat → List (Nat × LT) := fun _ => []
def W37 (m : Option Nat) (w : World) (R : Value → World → Prop) : Prop :=
  (ifK (Option.isNone m)
(R (map none) (w))
False)
theorem ca37 (m : Option Nat) (w : World) (R : Value → World → Prop) (h : W37 m w R) : Ca Tryd.prog 37 ⟨[(.map m)]⟩ w R :=
  caB (fn := Tryd.f37) (pl := pl37) (ls := ls37) Tryd.func37 (by kernel_rfl) (by kernel_rfl) h

/-- maps.Clone[map[staith/api.Binding]struct{},staith/api.Binding,struct{}] -/
noncomputable def C38 : Code := (Tryd.f38.body).getD .skip
def pl38 : Nat → Plan := fun _ => .done
def ls38 : Nat → List (Nat × LT) := fun _ => []
def W38 (m : Option Nat) (w : World) (R : Value → World → Prop) : Prop :=
  (ifK (Option.isNone m)
(R (map none) (w))
False)
theorem ca38 (m : Option Nat) (w : World) (R : Value → World → Prop) (h : W38 m w R) : Ca Tryd.prog 38 ⟨[(.map m)]⟩ w R :=
  caB (fn := Tryd.f38) (pl := pl38) (ls := ls38) Tryd.func38 (by kernel_rfl) (by kernel_rfl) h
end Go.Proofs.YtehhhkcemmfjpaaDoor

/- The library's maps.Clone of the table's maps; Copy. -/
namespace Go.Proofs.YtehhhkcemmfjpaaDoor
open Go Go.RowKit Go.Proofs.YtehhhkcemmfjpaaDoor.St

theorem run_eqlIn_map {P : Program} (w : World) (d : Nat) (t k e : TypeId) (p : Option Nat) (h : P.underlying t = some (.map k e)) : (Op.equalIn (d + 1) t (.map p) (.map none)).run P w = .ok p.isNone w := by
  cases p <;> simp [Op.equalIn, run_underlying h]
theorem run_eql_map {P : Program} (w : World) (t k e : TypeId) (p : Option Nat) (h : P.underlying t = some (.map k e)) : (binOp .eql t (.map p) (.map none)).run P w = .ok (.bool p.isNone) w := by
  simp only [binOp]
  simp [show Op.equal t (.map p) (.map none) = Op.equalIn (9999 + 1) t (.map p) (.map none) from rfl, run_eqlIn_map w 9999 t k e p h]
theorem run_assert_map {P : Program} (w : World) (t xT k e : TypeId) (v : Value) (h : P.underlying t = some (.map k e)) : (Instr.typeAssert (.iface t v) xT t false).run P w = .ok v w := by
  simp [Instr.typeAssert, run_underlying h, go_sem, Result.andThen]
theorem run_clone {P : Program} (w : World) {r : Nat} {es : Array MapEntry} {clock : Nat} (t : TypeId) (hb : w.heap[r]? = some (.map es clock)) :
    (Extern.MapsClone.clone #[.iface t (.map (some r))]).run P w = .ok (.iface t (.map (some w.heap.size))) (w.alloc (.map es clock)) := by
  have e : Extern.MapsClone.clone #[.iface t (.map (some r))] = (getObj r >>= fun o => match o with
      | .map entries clock => (newObj (.map entries clock) >>= fun n => pure (.iface t (.map (some n))))
      | _ => stuck "maps.clone: a map expected") := rfl
  rw [e]
  simp [MapKept.run_getObj_map hb, Result.andThen, go_sem]

set_option maxRecDepth 100000 in
set_option maxHeartbeats 2000000 in
theorem cloneX_calls (b : Nat) (es : Array MapEntry) (clock : Nat) (w : World) (hb : w.heap[b]? = some (.map es clock)) :
    Calls Tryd.prog 37 #[.map (some b)] w fun e w' => e = .returned (.map (some w.heap.size)) ∧ w' = w.alloc (.map es clock) := by
  have mixed : Tryd.prog.follows .mixedOrders = true := by kernel_rfl
  have t4 := Tryd.underlying4
  have t20 := Tryd.underlying20
  have t63 := Tryd.underlying43
  have hq := fun w => run_eql_map (P := Tryd.prog) w 43 _ _ (some b) Tryd.underlying43
  go_enter Tryd.func37, Tryd.ntmps37
  go_wp2
  rw [run_callFunc_extern Tryd.func56 (by kernel_rfl) (by kernel_rfl) (by kernel_rfl) (e := Extern.MapsClone.clone) (by kernel_rfl), run_clone w 43 hb]
  simp only [Result.andThen]
  rw [Oper.upon_value]
  go_wp2
  rw [run_assert_map _ 43 20 _ _ _ Tryd.underlying43]
  simp only [Result.andThen]
  rw [Oper.upon_value]
  go_wp2
  go_ret
  exact ⟨rfl, rfl⟩
/-- A new map of the same entries. -/
theorem cloneX_ok (m : Nat) (w : World) (R : Value → World → Prop) (kvs : List (Value × Value)) (hm : MapAt w m kvs) (h : ∀ w', MapAt w' w.heap.size kvs → Mod no w w' → R (.map (some w.heap.size)) w') :
    Ca Tryd.prog 37 #[.map (some m)] w R := by
  obtain ⟨es, clock, hb, he, hn, hc⟩ := hm
  refine ⟨fun w => callFunc_run (c := C37) Tryd.func37 (by kernel_rfl) (by kernel_rfl) _ w, (cloneX_calls m es clock w hb).mono fun e w' ⟨h1, h2⟩ => ?_⟩
  subst h2
  exact ⟨_, h1, h _ ⟨es, clock, new_at _ _, he, hn, hc⟩ (Mod.alloc _ _)⟩

set_option maxRecDepth 100000 in
set_option maxHeartbeats 2000000 in
theorem cloneB_calls (b : Nat) (es : Array MapEntry) (clock : Nat) (w : World) (hb : w.heap[b]? = some (.map es clock)) :
    Calls Tryd.prog 38 #[.map (some b)] w fun e w' => e = .returned (.map (some w.heap.size)) ∧ w' = w.alloc (.map es clock) := by
  have mixed : Tryd.prog.follows .mixedOrders = true := by kernel_rfl
  have t4 := Tryd.underlying4
  have t20 := Tryd.underlying20
  have t63 := Tryd.underlying44
  have hq := fun w => run_eql_map (P := Tryd.prog) w 44 _ _ (some b) Tryd.underlying44
  go_enter Tryd.func38, Tryd.ntmps38
  go_wp2
  rw [run_callFunc_extern Tryd.func56 (by kernel_rfl) (by kernel_rfl) (by kernel_rfl) (e := Extern.MapsClone.clone) (by kernel_rfl), run_clone w 44 hb]
  simp only [Result.andThen]
  rw [Oper.upon_value]
  go_wp2
  rw [run_assert_map _ 44 20 _ _ _ Tryd.underlying44]
  simp only [Result.andThen]
  rw [Oper.upon_value]
  go_wp2
  go_ret
  exact ⟨rfl, rfl⟩
/-- A new map of the same entries. -/
theorem cloneB_ok (m : Nat) (w : World) (R : Value → World → Prop) (kvs : List (Value × Value)) (hm : MapAt w m kvs) (h : ∀ w', MapAt w' w.heap.size kvs → Mod no w w' → R (.map (some w.heap.size)) w') :
    Ca Tryd.prog 38 #[.map (some m)] w R := by
  obtain ⟨es, clock, hb, he, hn, hc⟩ := hm
  refine ⟨fun w => callFunc_run (c := C38) Tryd.func38 (by kernel_rfl) (by kernel_rfl) _ w, (cloneB_calls m es clock w hb).mono fun e w' ⟨h1, h2⟩ => ?_⟩
  subst h2
  exact ⟨_, h1, h _ ⟨es, clock, new_at _ _, he, hn, hc⟩ (Mod.alloc _ _)⟩
theorem copy_ok {w : World} {t m1 m2 : Nat} {D : List Exc} {B : List Bnd} (hT : Tbl w t m1 m2 D B) (R : Value → World → Prop)
    (h : ∀ w' t' k1 k2, Tbl w' t' k1 k2 D B → Mod no w w' → w.heap.size ≤ t' → w.heap.size ≤ k1 → w.heap.size ≤ k2 → R (.pointer (some ⟨t', 0, none⟩)) w') : Ca Tryd.prog 16 #[.pointer (some ⟨t, 0, none⟩)] w R := by
  refine ca16 (some ⟨t, 0, none⟩) w R ?_
  refine made_ok hT _ ⟨true, rfl, ifK_of (fun h => by cases h) fun _ => ?_⟩
  intro w3 e3
  have n3 : Mod no w w3 := by subst e3; exact Mod.drew _
  clear e3
  have hT3 := hT.no n3
  refine ⟨some m1, by rw [cl1 hT3.cell]; rfl, some m2, by rw [cl1 hT3.cell]; rfl, ?_⟩
  refine cloneX_ok m1 w3 _ _ hT3.x fun w9 hx9 n9 => ⟨_, rfl, ?_⟩
  have hT9 := hT3.no n9
  refine ⟨by rw [cl2 hT9.cell]; rfl, cloneB_ok m2 w9 _ _ hT9.b fun w12 hb12 n12 => ⟨_, rfl, ?_⟩⟩
  intro w14 e14
  have n14 : Mod no w12 w14 := by subst e14; exact Mod.alloc _ _
  have b14 : w14.heap[w12.heap.size]? = some (.cells #[.map (some w3.heap.size), .map (some w9.heap.size)] 46 (0, 0)) := by subst e14; exact new_at _ _
  clear e14
  have h1 := n3.size
  have h2 := hx9.lt
  have h3 := hb12.lt
  have h4 := n12.size
  have h5 := n9.size
  exact h w14 w12.heap.size w3.heap.size w9.heap.size ⟨b14, (hx9.mod n12 id).mod n14 id, hb12.mod n14 id, by omega, hT.dn, hT.bn⟩ (((n3.trans n9).trans n12).trans n14) (by omega) (by omega) (by omega)
end Go.Proofs.YtehhhkcemmfjpaaDoor

/- A row of two pointers, read. It names no program. -/
namespace Go.Proofs.YtehhhkcemmfjpaaDoor.St
open Go
theorem index2p {P : Program} {t e : TypeId} {i : TypeInfo} (w : World) (hu : P.underlying t = some (.array 2 e)) (hi : P.info? e = some i) (hs : i.size = 1) (ha : (isAgg e).run P w = .ok false w) (p q : Option Addr) (n : Nat) (hn : n < 2) :
    (Instr.index t (.agg #[.pointer p, .pointer q]) (.int .i64 n)).run P w = .ok (.pointer (if n = 0 then p else q)) w := by
  have h : n = 0 ∨ n = 1 := by omega
  rcases h with rfl | rfl
  · simp [Instr.index, asIntOf, run_underlying' hu, Result.andThen, part, ha, sizeOf, typeInfo, hi]
  · simp [Instr.index, asIntOf, run_underlying' hu, Result.andThen, part, ha, sizeOf, typeInfo, hi, hs]
/-- t is a row of two pointers. -/
def ixOk (P : Program) (t : TypeId) : Bool :=
  match P.underlying t with
  | some (.array 2 e) => (match P.underlying e with | some (.pointer _) => true | _ => false) && (match P.info? e with | some i => Nat.beq i.size 1 | none => false)
  | _ => false
theorem index2 {P : Program} {t : TypeId} (ho : ixOk P t = true) (w : World) (p q : Option Addr) (n : Nat) (hn : n < 2) :
    (Instr.index t (.agg #[.pointer p, .pointer q]) (.int .i64 n)).run P w = .ok (.pointer (if n = 0 then p else q)) w := by
  unfold ixOk at ho
  split at ho
  · rename_i e hu
    rw [Bool.and_eq_true] at ho
    obtain ⟨h1, h2⟩ := ho
    split at h1
    · rename_i u hp
      split at h2
      · rename_i i hi
        exact index2p w hu hi (Nat.eq_of_beq_eq_true h2) (by simp [isAgg, run_underlying' hp]) p q n hn
      · cases h2
    · cases h1
  · cases ho
end Go.Proofs.YtehhhkcemmfjpaaDoor.St

/- The formulas of functions, printed by a program of mine (gen.py) out of the translation. -/
namespace Go.Proofs.YtehhhkcemmfjpaaDoor
open Go Go.Proofs.YtehhhkcemmfjpaaDoor.St
open _root_.Go.Value (string int bool slice pointer agg tuple map func nilFunc iface)
open _root_.Go.World (cell? frozen? setCell alloc drew)
open _root_.Go.Addr (add)
open _root_.Go.Obj (cells)
open _root_.Go.IntKind (wrap i64 u64 i32 u32 u8)
set_option maxRecDepth 100000

/-- staith/staithlaw07.BindNone -/
noncomputable def C4 : Code := (Tryd.f4.body).getD .skip
def pl4 : Nat → Plan := fun _ => .done
def ls4 : Nat → List (Nat × LT)
  | 4 => [(9, (.one (.int .i64)))]
  | _ => []
def W4 (a0_ : Int) (a1_ : ByteArray) (a2_ : Int) (a3_ : Bool) (a4_ : ByteArray) (a5_ : ByteArray) (a6_ : ByteArray) (w : World) (R : Value → World → Prop) : Prop :=
  (atW (alloc w (cells (Array.mk [int i64 a0_, string a1_, int i64 a2_, bool a3_, string a4_, string a5_, string a6_]) 42 (0, 0))) (fun w0 =>
(atW (alloc w0 (cells (Array.mk [map none, map none]) 46 (0, 0))) (fun w1 =>
(∃ z2 : Int → World → Prop, (∃ z3 : Int → World → Nat, ((z2 (0) (w1)) ∧ (∀ (_ : Nat → Value), (∀ (x5 : Int), (∀ (w6 : World), ((z2 (x5) (w6)) → (ifK (decide (x5 < 2))
(∃ v7 : Value, (∃ w8 : World, ((Sem.run Tryd.prog (Instr.index 47 (agg (Array.mk [pointer none, pointer (some (nw w0))])) (int i64 x5)) w6 = Result.ok v7 w8) ∧ (∃ p9 : Option Addr, ((v7 = pointer p9) ∧ (∃ s10 : ByteArray, ((cell? w8 (add (add (nw w) 1) 0) = some (string s10)) ∧ (Ca Tryd.prog (14) (Array.mk [pointer p9, string s10]) (w8) (fun v11 => (fun w12 =>
(∃ s13 : ByteArray, (∃ x14 : Int, (∃ b15 : Bool, (∃ b16 : Bool, ((v11 = tuple (Array.mk (List.reverse [bool b16, agg (Array.mk (List.reverse [bool b15, int i64 x14, string s13]))]))) ∧ (atW (alloc w12 (cells (Array.mk [string (ByteArray.mk #[]), int i64 0, bool false]) 29 (0, 0))) (fun w17 =>
(st1 (add (nw w12) 0) (string s13) w17 (fun w19 =>
(st1 (add (nw w12) 1) (int i64 x14) w19 (fun w21 =>
(st1 (add (nw w12) 2) (bool b15) w21 (fun w23 =>
(∃ s24 : ByteArray, ((cell? w23 (add (add (nw w) 1) 0) = some (string s24)) ∧ (∃ x25 : Int, ((cell? w23 (add (add (nw w) 1) 1) = some (int i64 x25)) ∧ (∃ b26 : Bool, ((cell? w23 (add (add (nw w) 1) 2) = some (bool b26)) ∧ (Ca Tryd.prog (7) (Array.mk [pointer p9, agg (Array.mk (List.reverse [bool b26, int i64 x25, string s24]))]) (w23) (fun v27 => (fun w28 =>
(∃ x29 : Int, ((v27 = int i64 x29) ∧ (ifK (x29 != 1)
(R (bool false) (w28))
(∃ s30 : ByteArray, ((cell? w28 (add (add (nw w) 1) 0) = some (string s30)) ∧ (Ca Tryd.prog (11) (Array.mk [pointer p9, string s30]) (w28) (fun v31 => (fun w32 =>
(∃ x33 : Int, ((v31 = int i64 x33) ∧ (ifK (x33 != 1)
(R (bool false) (w32))
(∃ s34 : ByteArray, ((cell? w32 (add (add (nw w) 4) 0) = some (string s34)) ∧ (∃ s35 : ByteArray, ((cell? w32 (add (add (nw w) 4) 1) = some (string s35)) ∧ (∃ s36 : ByteArray, ((cell? w32 (add (add (nw w) 4) 2) = some (string s36)) ∧ (Ca Tryd.prog (8) (Array.mk [pointer p9, agg (Array.mk (List.reverse [string s36, string s35, string s34]))]) (w32) (fun v37 => (fun w38 =>
(∃ x39 : Int, ((v37 = int i64 x39) ∧ (ifK (x39 != 1)
(R (bool false) (w38))
(∃ s40 : ByteArray, ((cell? w38 (add (add (nw w) 4) 0) = some (string s40)) ∧ (∃ s41 : ByteArray, ((cell? w38 (add (add (nw w) 4) 1) = some (string s41)) ∧ (∃ s42 : ByteArray, ((cell? w38 (add (add (nw w) 4) 2) = some (string s42)) ∧ (Ca Tryd.prog (15) (Array.mk [pointer p9, agg (Array.mk (List.reverse [string s42, string s41, string s40]))]) (w38) (fun v43 => (fun w44 =>
(∃ x45 : Int, ((v43 = int i64 x45) ∧ (ifK (x45 != 1)
(R (bool false) (w44))
(∃ s46 : ByteArray, ((cell? w44 (add (add (nw w) 4) 1) = some (string s46)) ∧ (Ca Tryd.prog (10) (Array.mk [pointer p9, string s46]) (w44) (fun v47 => (fun w48 =>
(∃ x49 : Int, ((v47 = int i64 x49) ∧ (ifK (x49 != 0)
(R (bool false) (w48))
(ifK (b16)
(R (bool false) (w48))
(Ca Tryd.prog (12) (Array.mk [pointer p9]) (w48) (fun v50 => (fun w51 =>
(∃ p52 : Option Addr, (∃ n53 : Nat, (∃ n54 : Nat, ((v50 = slice p52 n53 n54) ∧ (Ca Tryd.prog (9) (Array.mk [pointer p9]) (w51) (fun v55 => (fun w56 =>
(∃ p57 : Option Addr, (∃ n58 : Nat, (∃ n59 : Nat, ((v55 = slice p57 n58 n59) ∧ (ifK (decide (wrap i64 ((↑n53 : Int) + (↑n58 : Int)) > 0))
(R (bool false) (w56))
(Ca Tryd.prog (16) (Array.mk [pointer p9]) (w56) (fun v60 => (fun w61 =>
(∃ p62 : Option Addr, ((v60 = pointer p62) ∧ (ifK (!Option.isNone p62)
(R (bool false) (w61))
((z2 (wrap i64 (x5 + 1)) (w61)) ∧ (z3 (wrap i64 (x5 + 1)) w61 < z3 x5 w6)))))))))))))))))))))))))))))))))))))))))))))))))))))))))))))))))))))))))))))))))))))))))))))))))))
(Ca Tryd.prog (13) (Array.mk []) (w6) (fun v63 => (fun w64 =>
(∃ b65 : Bool, ((v63 = bool b65) ∧ (R (bool b65) (w64)))))))))))))))))))
theorem ca4 (a0_ : Int) (a1_ : ByteArray) (a2_ : Int) (a3_ : Bool) (a4_ : ByteArray) (a5_ : ByteArray) (a6_ : ByteArray) (w : World) (R : Value → World → Prop) (h : W4 a0_ a1_ a2_ a3_ a4_ a5_ a6_ w R) : Ca Tryd.prog 4 ⟨[(.agg ⟨[(.int .i64 a0_), (.string a1_), (.int .i64 a2_), (.bool a3_), (.string a4_), (.string a5_), (.string a6_)]⟩)]⟩ w R :=
  caB (fn := Tryd.f4) (pl := pl4) (ls := ls4) Tryd.func4 (by kernel_rfl) (by kernel_rfl) h
end Go.Proofs.YtehhhkcemmfjpaaDoor

/- Arguments that are structs, opened field by field. It names no program. -/
namespace Go.Proofs.YtehhhkcemmfjpaaDoor.St
open Go Go.ChangeShapes Go.WideShapes Go.Deep

section
variable {H : Type} {enc : TypeId × Value → H} {P : Program} {w : World} {base : Nat} {spare : Nat → Bool} {held : Bool}
theorem open_agg {r : Reach} {b0 : Nat} {t : TypeId} {fs : Array Field} {v : Value} {d : DataW H} {p : List MemPlace} (hs : P.underlying t = some (.struct fs)) (hone : oneCellFields P fs = true) (hC : P.cellsOf t = fs.size)
    (hv : Value.okWide P w r b0 t v) (h : DataW.Trod enc P w base spare held t v d p) :
    ∃ (cs : Array Value) (ys : List (DataW H × List MemPlace)) (n : Nat), v = .agg cs ∧ cs.size = fs.size ∧ d = .agg (ys.map (·.1)) ∧ ys.length = fs.size ∧
      ∀ (j : Nat) (f : Field), fs[j]? = some f → ∃ c y, cs[j]? = some c ∧ ys[j]? = some y ∧ DataW.trod enc P w base spare held n f.type [c] = some y := by
  obtain ⟨cs, rfl, hsz⟩ := okWide_struct hs hv
  obtain ⟨fuel, hf⟩ := h
  obtain ⟨ys, n, _, hy, _, hlen, hg⟩ := DataW.trod_struct hs hf
  simp only [Prod.mk.injEq] at hy
  refine ⟨cs, ys, n, rfl, hsz.trans hC, hy.1, hlen, fun j f hj => ?_⟩
  obtain ⟨ho, hk⟩ := hone_of hone j f hj
  have hjl : j < fs.size := (Array.getElem?_eq_some_iff.1 hj).1
  have hjc : j < cs.size := by rw [hsz, hC]; exact hjl
  have hg := hg j f hj
  rw [ho, hk] at hg
  have hone' : ((Value.agg cs).cells.toList.drop j).take 1 = [cs[j]] := by
    show (cs.toList.drop j).take 1 = _
    rw [List.drop_eq_getElem_cons (by simpa using hjc)]
    simp
  rw [hone'] at hg
  have hys : ys[j]? = some (ys[j]'(by omega)) := List.getElem?_eq_getElem (by omega)
  exact ⟨cs[j], _, Array.getElem?_eq_getElem hjc, hys, hg.trans hys⟩
theorem agg_weights {t : TypeId} {fs : Array Field} {ys : List (DataW H × List MemPlace)} (hs : P.underlying t = some (.struct fs)) {j : Nat} {f : Field} (hj : fs[j]? = some f) {y : DataW H × List MemPlace} (hy : ys[j]? = some y)
    {B : Nat} (h : ∀ n ∈ (DataW.agg (ys.map (·.1))).weights P t, n ≤ B) : ∀ n ∈ y.1.weights P f.type, n ≤ B := by
  intro n hn
  refine h n ?_
  rw [DataW.weights, hs]
  refine DataW.weights_mem_each (j := j) (t := f.type) (d := y.1) ?_ ?_ n hn
  · rw [List.getElem?_map, Array.getElem?_toList, hj]; rfl
  · rw [List.getElem?_map, hy]; rfl
theorem slice_weights {t e : TypeId} {elems spare' : List (DataW H)} (hs : P.underlying t = some (.slice e)) {x : DataW H} (hx : x ∈ elems ++ spare') {B : Nat} (h : ∀ n ∈ (DataW.slice elems spare').weights P t, n ≤ B) : ∀ n ∈ x.weights P e, n ≤ B := by
  have all : ∀ (l : List (DataW H)), x ∈ l → ∀ n ∈ x.weights P e, n ∈ DataW.weightsAll P e l := by
    intro l
    induction l with
    | nil => intro h; cases h
    | cons y r ih =>
      intro h n hn
      rw [DataW.weightsAll, List.mem_append]
      rcases List.mem_cons.1 h with rfl | h
      · exact .inl hn
      · exact .inr (ih h n hn)
  intro n hn
  refine h n ?_
  rw [DataW.weights, hs]
  rcases List.mem_append.1 hx with hx | hx
  · exact List.mem_cons_of_mem _ (List.mem_append_left _ (all _ hx n hn))
  · exact List.mem_cons_of_mem _ (List.mem_append_right _ (all _ hx n hn))
theorem slice_size {t e : TypeId} {elems spare' : List (DataW H)} (hs : P.underlying t = some (.slice e)) {B : Nat} (h : ∀ n ∈ (DataW.slice elems spare').weights P t, n ≤ B) : (elems.length + spare'.length) * P.bytesOf e ≤ B := by
  refine h _ ?_
  rw [DataW.weights, hs]
  exact List.mem_cons_self
end
end Go.Proofs.YtehhhkcemmfjpaaDoor.St

/- Arguments that are rows of structs: they are read, never written. It names no program. -/
namespace Go.Proofs.YtehhhkcemmfjpaaDoor.St
open Go Go.ChangeShapes Go.WideShapes Go.Deep

/-- An argument's row. -/
structure ArgRow {α : Type} (L : Lay α) (w : World) (a : Option Addr) (l c : Nat) (xs : List α) : Prop where
  len : xs.length = l
  lc : l ≤ c
  cm : c ≤ 9223372036854775807
  blk : ∀ ad, a = some ad → 0 < l → ad.block < w.heap.size
  get : ∀ (i : Nat) (h : i < xs.length), ∃ ad, a = some ad ∧ ∀ j v, (L.cs xs[i])[j]? = some v → w.cell? (Addr.add (Addr.add ad (i * L.s)) j) = some v
theorem cell_no {w w' : World} (h : Mod no w w') {ad : Addr} (hb : ad.block < w.heap.size) : w'.cell? ad = w.cell? ad := by
  have := h.keep ad.block hb id
  unfold World.cell?
  rw [this]
theorem add_block (ad : Addr) (n : Nat) : (Addr.add ad n).block = ad.block := by unfold Addr.add; split <;> rfl
theorem ArgRow.no {α : Type} {L : Lay α} {w w' : World} {a : Option Addr} {l c : Nat} {xs : List α} (h : ArgRow L w a l c xs) (hm : Mod no w w') : ArgRow L w' a l c xs := by
  refine ⟨h.len, h.lc, h.cm, fun ad had hl => Nat.lt_of_lt_of_le (h.blk ad had hl) hm.size, fun i hi => ?_⟩
  obtain ⟨ad, had, hg⟩ := h.get i hi
  refine ⟨ad, had, fun j v hj => ?_⟩
  rw [cell_no hm (by rw [add_block, add_block]; exact h.blk ad had (by have := h.len; omega))]
  exact hg j v hj
theorem cell_lt {w : World} {ad : Addr} {v : Value} (h : w.cell? ad = some v) : ad.block < w.heap.size := by
  unfold World.cell? at h
  cases hh : w.heap[ad.block]? with
  | none => rw [hh] at h; cases h
  | some o => exact lt_of_heap hh

section
variable {H : Type} {enc : TypeId × Value → H} {P : Program} {w : World} {base : Nat} {spare : Nat → Bool} {held : Bool}
theorem open_slice_fields {t e : TypeId} {fs : Array Field} {fuel : Nat} {cs : List Value} {x : DataW H × List MemPlace} (ht : P.underlying t = some (.slice e)) (he : P.underlying e = some (.struct fs))
    (hone : oneCellFields P fs = true) (hC : P.cellsOf e = fs.size) (h : DataW.trod enc P w base spare held fuel t cs = some x) :
    (cs = [.slice none 0 0] ∧ x = (.nil, [])) ∨
    ∃ (a : Addr) (len cap m : Nat) (D : Nat → DataW H) (Pl : Nat → List MemPlace), cs = [.slice (some a) len cap] ∧ base ≤ a.block ∧ len ≤ cap ∧ cap ≤ maxLen ∧ m = (if spare a.block then cap else len) ∧
      x = (.slice ((List.range len).map D) ((List.range (m - len)).map fun j => D (len + j)), MemPlace.row a (m * fs.size) ++ (List.range m).flatMap Pl) ∧
      ∀ i, i < m → ∃ (ys : List (DataW H × List MemPlace)) (n : Nat), D i = .agg (ys.map (·.1)) ∧ Pl i = ys.flatMap (·.2) ∧ ys.length = fs.size ∧
        ∀ (j : Nat) (f : Field), fs[j]? = some f → ∃ (v : Value) (y : DataW H × List MemPlace), w.cell? (a.add (i * fs.size + j)) = some v ∧ ys[j]? = some y ∧ DataW.trod enc P w base spare held n f.type [v] = some y := by
  rcases open_slice ht h with h0 | ⟨a, len, cap, m, n, D, Pl, hcs, hb, hl, hm, hmm, hx, hi⟩
  · exact .inl h0
  · refine .inr ⟨a, len, cap, m, D, Pl, hcs, hb, hl, hm, hmm, by rw [hC] at hx; exact hx, fun i him => ?_⟩
    obtain ⟨cs', hc, ht'⟩ := hi i him
    rw [hC] at hc
    obtain ⟨ys, n', hn', hy, hlen, hyl, hf⟩ := DataW.trod_struct he ht'
    obtain ⟨_, hcl, hat⟩ := World.cells?_some hc
    simp only [Prod.mk.injEq] at hy
    refine ⟨ys, n', hy.1, hy.2, hyl, fun j f hj => ?_⟩
    obtain ⟨ho, hk⟩ := hone_of hone j f hj
    have hjl : j < fs.size := (Array.getElem?_eq_some_iff.1 hj).1
    have hcell := hat j hjl
    have hv : cs'[j]? = some (cs'[j]'(by omega)) := List.getElem?_eq_getElem (by omega)
    have h1 := hf j f hj
    rw [ho, hk] at h1
    have hone' : (cs'.drop j).take 1 = [cs'[j]'(by omega)] := by
      rw [List.drop_eq_getElem_cons (by omega)]
      rfl
    rw [hone'] at h1
    have hys : ys[j]? = some (ys[j]'(by omega)) := List.getElem?_eq_getElem (by omega)
    refine ⟨_, _, ?_, hys, h1.trans hys⟩
    rw [← Go.Deep.add_add, hcell, hv]
end

/-- An argument of a slice type whose elements are such structs: each is read as Q says. -/
theorem args_row {H : Type} {enc : TypeId × Value → H} {P : Program} {w : World} {v : Value} {d : DataW H} {p : List MemPlace} {base : Nat} {r : Reach} {b0 : Nat} {t e : TypeId} {fs : Array Field} {α : Type} [Inhabited α] {L : Lay α} (Q : α → Prop) {B : Nat}
    (ht : P.underlying t = some (.slice e)) (he : P.underlying e = some (.struct fs)) (hone : oneCellFields P fs = true) (hC : P.cellsOf e = fs.size) (hs : L.s = fs.size)
    (hv : Value.okWide P w r b0 t v) (h : DataW.Trod enc P w base (fun _ => true) true t v d p) (hz : ∀ n ∈ d.weights P t, n ≤ B)
    (hx : ∀ (ys : List (DataW H × List MemPlace)) (n : Nat) (V : Nat → Value), (∀ (j : Nat) (f : Field), fs[j]? = some f → ∃ y, ys[j]? = some y ∧ DataW.trod enc P w base (fun _ => true) true n f.type [V j] = some y ∧ ∀ m ∈ y.1.weights P f.type, m ≤ B) →
      ∃ x : α, (∀ j u, (L.cs x)[j]? = some u → V j = u) ∧ Q x) :
    ∃ a l c xs, v = .slice a l c ∧ ArgRow L w a l c xs ∧ (∀ x ∈ xs, Q x) ∧ c * P.bytesOf e ≤ B := by
  obtain ⟨a, l, c, rfl⟩ := okWide_slice ht hv
  obtain ⟨fuel, hf⟩ := h
  rcases open_slice_fields ht he hone hC hf with ⟨hcs, _⟩ | ⟨ad, len, cap, m, D, Pl, hcs, _, hl, hm, hmm, hxx, hi⟩
  · simp only [Value.cells, List.cons.injEq, and_true] at hcs
    injection hcs with h1 h2 h3
    subst h1; subst h2; subst h3
    exact ⟨none, 0, 0, [], rfl, ⟨rfl, Nat.le_refl _, by decide, fun ad h => (by cases h), fun i h => (by simp at h)⟩, fun x h => (by cases h), by rw [Nat.zero_mul]; exact Nat.zero_le _⟩
  · simp only [Value.cells, List.cons.injEq, and_true] at hcs
    injection hcs with h1 h2 h3
    subst h1; subst h2; subst h3
    have hmc : m = c := by rw [hmm]; rfl
    have hd : d = .slice ((List.range l).map D) ((List.range (m - l)).map fun j => D (l + j)) := congrArg Prod.fst hxx
    have hone : ∀ i, i < l → ∃ x : α, (∀ j u, (L.cs x)[j]? = some u → w.cell? (Addr.add ad (i * L.s + j)) = some u) ∧ Q x := by
      intro i hil
      obtain ⟨ys, n, hD, _, _, hg⟩ := hi i (by omega)
      have hDz : ∀ n ∈ (D i).weights P e, n ≤ B := by
        rw [hd] at hz
        exact slice_weights ht (List.mem_append_left _ (List.mem_map.2 ⟨i, List.mem_range.2 hil, rfl⟩)) hz
      have hch : ∀ j, ∃ v : Value, ∀ f, fs[j]? = some f → w.cell? (ad.add (i * fs.size + j)) = some v ∧ ∃ y, ys[j]? = some y ∧ DataW.trod enc P w base (fun _ => true) true n f.type [v] = some y := by
        intro j
        cases hj : fs[j]? with
        | none => exact ⟨.tuple #[], fun f hf => by cases hf⟩
        | some f =>
          obtain ⟨v, y, q1, q2, q3⟩ := hg j f hj
          exact ⟨v, fun f' hf' => by cases hf'; exact ⟨q1, y, q2, q3⟩⟩
      obtain ⟨V, hV⟩ := Classical.axiomOfChoice hch
      obtain ⟨x, hx1, hx2⟩ := hx ys n V fun j f hj => by
        obtain ⟨_, y, q2, q3⟩ := hV j f hj
        rw [hD] at hDz
        exact ⟨y, q2, q3, agg_weights he hj q2 hDz⟩
      refine ⟨x, fun j u hj => ?_, hx2⟩
      have hjs : j < fs.size := by
        have := (List.getElem?_eq_some_iff.1 hj).1
        rw [L.len] at this
        omega
      have := (hV j _ (Array.getElem?_eq_getElem hjs)).1
      rw [hs, this, hx1 j u hj]
    have hall : ∀ i, ∃ x : α, i < l → (∀ j u, (L.cs x)[j]? = some u → w.cell? (Addr.add ad (i * L.s + j)) = some u) ∧ Q x := by
      intro i
      by_cases h : i < l
      · obtain ⟨x, hx⟩ := hone i h
        exact ⟨x, fun _ => hx⟩
      · exact ⟨default, fun h' => absurd h' h⟩
    obtain ⟨f, hf⟩ := Classical.axiomOfChoice hall
    refine ⟨some ad, l, c, (List.range l).map f, rfl, ⟨by simp, hl, by simpa [maxLen] using hm, fun ad' had hl0 => ?_, fun i h => ?_⟩, fun x hx => ?_, ?_⟩
    · cases had
      have hp := (hf 0 hl0).1 0 ((L.cs (f 0))[0]'(by rw [L.len]; exact L.pos)) (List.getElem?_eq_getElem _)
      have := cell_lt hp
      rwa [add_block] at this
    · refine ⟨ad, rfl, fun j v hj => ?_⟩
      rw [List.getElem_map, List.getElem_range] at hj
      have := (hf i (by simpa using h)).1 j v hj
      rwa [← Go.Deep.add_add] at this
    · obtain ⟨i, hi, rfl⟩ := List.mem_map.1 hx
      exact (hf i (List.mem_range.1 hi)).2
    · rw [hd] at hz
      have := slice_size ht hz
      rw [List.length_map, List.length_map, List.length_range, List.length_range, show l + (m - l) = c by omega] at this
      exact this
end Go.Proofs.YtehhhkcemmfjpaaDoor.St

/- Arguments, whatever they are made of, told by their leaves. It names no program. -/
namespace Go.Proofs.YtehhhkcemmfjpaaDoor.St
open Go Go.ChangeShapes Go.WideShapes Go.Deep

/-- These cells are a value of type t, as far as n steps go. -/
def Leaf (P : Program) (w : World) (B : Nat) : Nat → TypeId → List Value → Prop
  | 0, _, _ => True
  | n + 1, t, cs => match P.underlying t with
    | some (.struct fs) => cs.length = P.cellsOf t ∧ ∀ (i : Nat) (f : Field), fs[i]? = some f → Leaf P w B n f.type ((cs.drop f.offset).take (P.cellsOf f.type))
    | some (.int k) => ∃ x, cs = [.int k x] ∧ (Lit.int k x).wf = true
    | some .string => ∃ s : ByteArray, cs = [.string s] ∧ s.size ≤ B
    | some .bool => ∃ b, cs = [.bool b]
    | some (.slice e) => ∃ (a : Option Addr) (l c : Nat), cs = [.slice a l c] ∧ l ≤ c ∧ c ≤ 9223372036854775807 ∧ c * P.bytesOf e ≤ B ∧ (a = none → c = 0) ∧
        ∀ i, i < l → ∃ ad, a = some ad ∧ ∃ cs', cs'.length = P.cellsOf e ∧ (∀ j v, cs'[j]? = some v → w.cell? (Addr.add (Addr.add ad (i * P.cellsOf e)) j) = some v) ∧ Leaf P w B n e cs'
    | _ => True
section
variable {H : Type} {enc : TypeId × Value → H} {P : Program} {w : World} {base : Nat} {B : Nat}
theorem leaf_of : ∀ (m : Nat) {t : TypeId} {cs : List Value} {x : DataW H × List MemPlace} {fuel : Nat}, DataW.trod enc P w base (fun _ => true) true fuel t cs = some x → (∀ n ∈ x.1.weights P t, n ≤ B) → Leaf P w B m t cs
  | 0, _, _, _, _, _, _ => trivial
  | m + 1, t, cs, x, fuel, h, hz => by
    unfold Leaf
    split
    · rename_i fs ht
      obtain ⟨ys, n, _, rfl, hl, hlen, hf⟩ := DataW.trod_struct ht h
      refine ⟨hl, fun i f hi => ?_⟩
      have h1 := hf i f hi
      have hil : i < fs.size := (Array.getElem?_eq_some_iff.1 hi).1
      have hys : ys[i]? = some (ys[i]'(by omega)) := List.getElem?_eq_getElem (by omega)
      rw [hys] at h1
      exact leaf_of m h1 (agg_weights ht hi hys hz)
    · rename_i k ht
      obtain ⟨n, h1, _, h2⟩ := DataW.trod_int ht h
      exact ⟨n, h1, h2⟩
    · rename_i ht
      obtain ⟨s, h1, rfl, _⟩ := DataW.trod_string ht h
      exact ⟨s, h1, hz _ (by simp [DataW.weights])⟩
    · rename_i ht
      obtain ⟨b, h1, _⟩ := DataW.trod_bool ht h
      exact ⟨b, h1⟩
    · rename_i e ht
      rcases DataW.trod_slice ht h with ⟨h1, _⟩ | ⟨a, len, cap, elems, rest, n, _, h1, rfl, _, hl, hm, hel, hget, hsp, _⟩
      · exact ⟨none, 0, 0, h1, Nat.le_refl _, by decide, by rw [Nat.zero_mul]; exact Nat.zero_le _, fun _ => rfl, fun i hi => by omega⟩
      · refine ⟨some a, len, cap, h1, hl, by simpa [maxLen] using hm, ?_, (fun h => by cases h), fun i hi => ⟨a, rfl, ?_⟩⟩
        · have := slice_size ht hz
          rw [List.length_map, List.length_map, hel, (hsp rfl).1, show len + (cap - len) = cap by omega] at this
          exact this
        · have h2 := hget i hi
          have hys : elems[i]? = some (elems[i]'(by omega)) := List.getElem?_eq_getElem (by omega)
          rw [hys] at h2
          obtain ⟨cs', h3, h4⟩ := Option.bind_eq_some_iff.1 h2
          obtain ⟨_, hcl, hat⟩ := World.cells?_some h3
          refine ⟨cs', hcl, fun j v hj => ?_, leaf_of m h4 ?_⟩
          · have hjl : j < P.cellsOf e := by have := (List.getElem?_eq_some_iff.1 hj).1; omega
            rw [hat j hjl, hj]
          · exact slice_weights ht (List.mem_append_left _ (List.mem_map.2 ⟨_, List.getElem_mem (by omega), rfl⟩)) hz
    · trivial
/-- A row whose elements are told by their leaves. -/
theorem leaf_row {α : Type} [Inhabited α] {L : Lay α} (Q : α → Prop) {e : TypeId} {a : Option Addr} {l c n : Nat} (hs : L.s = P.cellsOf e) (hx : ∀ cs, cs.length = L.s → Leaf P w B n e cs → ∃ x, L.cs x = cs ∧ Q x) (hl : l ≤ c) (hc : c ≤ 9223372036854775807)
    (h : ∀ i, i < l → ∃ ad, a = some ad ∧ ∃ cs', cs'.length = P.cellsOf e ∧ (∀ j v, cs'[j]? = some v → w.cell? (Addr.add (Addr.add ad (i * P.cellsOf e)) j) = some v) ∧ Leaf P w B n e cs') : ∃ xs, ArgRow L w a l c xs ∧ ∀ x ∈ xs, Q x := by
  have hall : ∀ i, ∃ x : α, i < l → (∃ ad, a = some ad ∧ ∀ j u, (L.cs x)[j]? = some u → w.cell? (Addr.add (Addr.add ad (i * L.s)) j) = some u) ∧ Q x := by
    intro i
    by_cases hi : i < l
    · obtain ⟨ad, had, cs', h1, h2, h3⟩ := h i hi
      obtain ⟨x, rfl, hq⟩ := hx cs' (by rw [h1, hs]) h3
      exact ⟨x, fun _ => ⟨⟨ad, had, fun j u hj => by rw [hs]; exact h2 j u hj⟩, hq⟩⟩
    · exact ⟨default, fun h' => absurd h' hi⟩
  obtain ⟨f, hf⟩ := Classical.axiomOfChoice hall
  refine ⟨(List.range l).map f, ⟨by simp, hl, hc, fun ad had hl0 => ?_, fun i hi => ?_⟩, fun x hx => ?_⟩
  · obtain ⟨⟨ad', had', hg⟩, _⟩ := hf 0 hl0
    rw [had] at had'
    cases had'
    have := cell_lt (hg 0 ((L.cs (f 0))[0]'(by rw [L.len]; exact L.pos)) (List.getElem?_eq_getElem _))
    rwa [add_block, add_block] at this
  · rw [List.length_map, List.length_range] at hi
    obtain ⟨⟨ad, had, hg⟩, _⟩ := hf i hi
    refine ⟨ad, had, fun j v hj => ?_⟩
    rw [List.getElem_map, List.getElem_range] at hj
    exact hg j v hj
  · obtain ⟨i, hi, rfl⟩ := List.mem_map.1 hx
    exact (hf i (List.mem_range.1 hi)).2
end

/-! ### Rows of a program's own, read as an argument's; and an argument's, appended -/
theorem Row.arg {α : Type} {L : Lay α} {e : TypeId} {w : World} {a : Option Addr} {l c : Nat} {xs : List α} (h : Row L e w a l c xs) : ArgRow L w a l c xs := by
  have hl := h.len
  refine ⟨hl.1, hl.2.1, hl.2.2, fun ad had _ => ?_, fun i hi => ?_⟩
  · rcases h.block with ⟨h0, _⟩ | ⟨g, cur, hg, hh, _⟩
    · rw [h0] at had; cases had
    · rw [hg] at had; cases had; exact lt_of_heap hh
  · obtain ⟨g, had, hg⟩ := h.get hi
    exact ⟨_, had, hg⟩
theorem Lay.div {α : Type} (L : Lay α) : ∀ {xs : List α} {k : Nat} {v : Value}, (xs.flatMap L.cs)[k]? = some v → ∃ (i : Nat) (hi : i < xs.length) (j : Nat), k = i * L.s + j ∧ (L.cs (xs[i]'hi))[j]? = some v
  | [], k, v, h => by simp at h
  | x :: r, k, v, h => by
    rw [List.flatMap_cons] at h
    by_cases hk : k < L.s
    · rw [List.getElem?_append_left (by rw [L.len]; exact hk)] at h
      exact ⟨0, by simp, k, by simp, h⟩
    · rw [List.getElem?_append_right (by rw [L.len]; omega), L.len] at h
      obtain ⟨i, hi, j, he, hj⟩ := L.div h
      exact ⟨i + 1, by simpa using hi, j, by rw [Nat.add_mul]; omega, by simpa using hj⟩
theorem ArgRow.all {α : Type} {L : Lay α} {w : World} {a : Option Addr} {l c : Nat} {xs : List α} (h : ArgRow L w a l c xs) : (∀ ad, a = some ad → ∀ j v, (xs.flatMap L.cs)[j]? = some v → w.cell? (ad.add j) = some v) := by
  intro ad had k v hk
  obtain ⟨i, hi, j, rfl, hj⟩ := L.div hk
  obtain ⟨ad', had', hg⟩ := h.get i hi
  rw [had] at had'
  cases had'
  rw [← Go.Deep.add_add]
  exact hg j v hj
end Go.Proofs.YtehhhkcemmfjpaaDoor.St

/- Leaves, opened. It names no program. -/
namespace Go.Proofs.YtehhhkcemmfjpaaDoor.St
open Go Go.ChangeShapes Go.WideShapes Go.Deep
section
variable {P : Program} {w : World} {B n : Nat} {t : TypeId} {cs : List Value}
theorem leaf_struct {fs : Array Field} (ht : P.underlying t = some (.struct fs)) (h : Leaf P w B (n + 1) t cs) : cs.length = P.cellsOf t ∧ ∀ (i : Nat) (f : Field), fs[i]? = some f → Leaf P w B n f.type ((cs.drop f.offset).take (P.cellsOf f.type)) := by
  unfold Leaf at h; rw [ht] at h; exact h
theorem leaf_int {k : IntKind} (ht : P.underlying t = some (.int k)) (h : Leaf P w B (n + 1) t cs) : ∃ x, cs = [.int k x] ∧ (Lit.int k x).wf = true := by
  unfold Leaf at h; rw [ht] at h; exact h
theorem leaf_string (ht : P.underlying t = some .string) (h : Leaf P w B (n + 1) t cs) : ∃ s : ByteArray, cs = [.string s] ∧ s.size ≤ B := by
  unfold Leaf at h; rw [ht] at h; exact h
theorem leaf_bool (ht : P.underlying t = some .bool) (h : Leaf P w B (n + 1) t cs) : ∃ b, cs = [.bool b] := by
  unfold Leaf at h; rw [ht] at h; exact h
theorem leaf_slice {e : TypeId} (ht : P.underlying t = some (.slice e)) (h : Leaf P w B (n + 1) t cs) : ∃ (a : Option Addr) (l c : Nat), cs = [.slice a l c] ∧ l ≤ c ∧ c ≤ 9223372036854775807 ∧ c * P.bytesOf e ≤ B ∧ (a = none → c = 0) ∧
        ∀ i, i < l → ∃ ad, a = some ad ∧ ∃ cs', cs'.length = P.cellsOf e ∧ (∀ j v, cs'[j]? = some v → w.cell? (Addr.add (Addr.add ad (i * P.cellsOf e)) j) = some v) ∧ Leaf P w B n e cs' := by
  unfold Leaf at h; rw [ht] at h; exact h
/-- A field of one cell. -/
theorem field1 {fs : Array Field} {f : Field} (h : ∀ (i : Nat) (f : Field), fs[i]? = some f → Leaf P w B n f.type ((cs.drop f.offset).take (P.cellsOf f.type))) (i : Nat) (hf : fs[i]? = some f) {o : Nat} (ho : f.offset = o) {u : TypeId} (hu : f.type = u) {k : Nat} (hk : P.cellsOf u = k) : Leaf P w B n u ((cs.drop o).take k) := by
  subst ho; subst hu; subst hk; exact h i f hf
end
theorem row_arg {H : Type} {enc : TypeId × Value → H} {P : Program} {w : World} {v : Value} {d : DataW H} {p : List MemPlace} {base : Nat} {r : Reach} {b0 : Nat} {t e : TypeId} {α : Type} [Inhabited α] {L : Lay α} (Q : α → Prop) {B : Nat} (n : Nat) (ht : P.underlying t = some (.slice e))
    (hs : L.s = P.cellsOf e) (hv : Value.okWide P w r b0 t v) (h : DataW.Trod enc P w base (fun _ => true) true t v d p) (hz : ∀ n ∈ d.weights P t, n ≤ B) (hx : ∀ cs, cs.length = L.s → Leaf P w B n e cs → ∃ x, L.cs x = cs ∧ Q x) :
    ∃ a l c xs, v = .slice a l c ∧ ArgRow L w a l c xs ∧ (∀ x ∈ xs, Q x) ∧ c * P.bytesOf e ≤ B ∧ (a = none → c = 0) := by
  obtain ⟨a, l, c, rfl⟩ := okWide_slice ht hv
  obtain ⟨fuel, hf⟩ := h
  obtain ⟨a', l', c', hcs, h1, h2, h3, h3', h4⟩ := leaf_slice ht (leaf_of (n + 1) hf hz)
  simp only [Value.cells, List.cons.injEq, and_true] at hcs
  injection hcs with e1 e2 e3
  subst e1; subst e2; subst e3
  obtain ⟨xs, h5, h6⟩ := leaf_row Q hs hx h1 h2 h4
  exact ⟨a, l, c, xs, rfl, h5, h6, h3, h3'⟩
theorem struct_arg {H : Type} {enc : TypeId × Value → H} {P : Program} {w : World} {v : Value} {d : DataW H} {p : List MemPlace} {base : Nat} {r : Reach} {b0 : Nat} {t : TypeId} {fs : Array Field} {B : Nat} (n : Nat) (ht : P.underlying t = some (.struct fs))
    (hv : Value.okWide P w r b0 t v) (h : DataW.Trod enc P w base (fun _ => true) true t v d p) (hz : ∀ n ∈ d.weights P t, n ≤ B) : ∃ cs : List Value, v = .agg ⟨cs⟩ ∧ Leaf P w B n t cs := by
  obtain ⟨cs, rfl, _⟩ := okWide_struct ht hv
  obtain ⟨fuel, hf⟩ := h
  exact ⟨cs.toList, rfl, leaf_of n hf hz⟩
theorem args_int {H : Type} {enc : TypeId × Value → H} {P : Program} {w : World} {v : Value} {d : DataW H} {p : List MemPlace} {base : Nat} {r : Reach} {b0 : Nat} {t : TypeId} {k : IntKind} (ht : P.underlying t = some (.int k))
    (hv : Value.okWide P w r b0 t v) (h : DataW.Trod enc P w base (fun _ => true) true t v d p) : ∃ a : Int, v = .int k a ∧ (Lit.int k a).wf = true := by
  obtain ⟨a, rfl⟩ := okWide_int ht hv
  obtain ⟨fuel, hf⟩ := h
  obtain ⟨n, h1, _, h2⟩ := DataW.trod_int ht hf
  simp only [Value.cells, List.cons.injEq, and_true] at h1
  injection h1 with _ h1
  subst h1
  exact ⟨_, rfl, h2⟩
theorem args_string {H : Type} {enc : TypeId × Value → H} {P : Program} {w : World} {v : Value} {d : DataW H} {p : List MemPlace} {base : Nat} {r : Reach} {b0 : Nat} {t : TypeId} (ht : P.underlying t = some .string)
    (hv : Value.okWide P w r b0 t v) (h : DataW.Trod enc P w base (fun _ => true) true t v d p) (hz : ∀ n ∈ d.weights P t, n ≤ reachBytes) : ∃ a : ByteArray, v = .string a ∧ a.size ≤ 140737488355328 := by
  obtain ⟨a, rfl⟩ := okWide_string ht hv
  obtain ⟨fuel, hf⟩ := h
  obtain ⟨s, h1, h2⟩ := leaf_string ht (leaf_of 1 hf hz)
  simp only [Value.cells, List.cons.injEq, and_true] at h1
  injection h1 with h1
  subst h1
  exact ⟨_, rfl, Nat.le_trans h2 (by decide)⟩
end Go.Proofs.YtehhhkcemmfjpaaDoor.St

/- Exchanges, bindings and the laws' acts among the arguments. -/
namespace Go.Proofs.YtehhhkcemmfjpaaDoor
open Go Go.ChangeShapes Go.WideShapes Go.Deep Go.Proofs.YtehhhkcemmfjpaaDoor Go.Proofs.YtehhhkcemmfjpaaDoor.St

structure Ac where
  k : Int
  e : Exc
  b : Bnd
instance acInh : Inhabited Ac := ⟨⟨0, default, default⟩⟩
def acL : Lay Ac where
  cs x := [.int .i64 x.k, .string x.e.n, .int .i64 x.e.k, .bool x.e.f, .string x.b.x, .string x.b.q, .string x.b.p]
  s := 7
  pos := by decide
  len _ := rfl
  one x v hv := by simp at hv; rcases hv with rfl | rfl | rfl | rfl | rfl | rfl | rfl <;> rfl

/-- Its texts are no longer than a machine can hold. -/
structure AcOk (x : Ac) : Prop where
  sn : x.e.n.size ≤ 140737488355328
  sx : x.b.x.size ≤ 140737488355328
  sq : x.b.q.size ≤ 140737488355328
  sp : x.b.p.size ≤ 140737488355328
theorem c_str : Tryd.prog.cellsOf 9 = 1 := by kernel_rfl
theorem c_int : Tryd.prog.cellsOf 3 = 1 := by kernel_rfl
theorem c_bool : Tryd.prog.cellsOf 4 = 1 := by kernel_rfl
theorem c_exc : Tryd.prog.cellsOf 29 = 3 := by kernel_rfl
theorem c_bnd : Tryd.prog.cellsOf 31 = 3 := by kernel_rfl
theorem c_act : Tryd.prog.cellsOf 42 = 7 := by kernel_rfl
set_option maxRecDepth 100000 in
theorem leaf_exc {w : World} {B n : Nat} {cs : List Value} (h : Leaf Tryd.prog w B (n + 2) 29 cs) : ∃ e : Exc, cs = e.cs ∧ e.n.size ≤ B := by
  obtain ⟨hl, hf⟩ := leaf_struct Tryd.underlying29 h
  rw [c_exc] at hl
  match cs, hl with
  | [c0, c1, c2], _ =>
    obtain ⟨s, e0, hs⟩ := leaf_string Tryd.underlying9 (field1 (o := 0) hf 0 rfl rfl rfl c_str)
    obtain ⟨k, e1, _⟩ := leaf_int Tryd.underlying3 (field1 (o := 1) hf 1 rfl rfl rfl c_int)
    obtain ⟨f, e2⟩ := leaf_bool Tryd.underlying4 (field1 (o := 2) hf 2 rfl rfl rfl c_bool)
    have e0 : [c0] = [Value.string s] := e0
    have e1 : [c1] = [Value.int .i64 k] := e1
    have e2 : [c2] = [Value.bool f] := e2
    simp only [List.cons.injEq, and_true] at e0 e1 e2
    exact ⟨⟨s, k, f⟩, by rw [e0, e1, e2]; rfl, hs⟩
set_option maxRecDepth 100000 in
theorem leaf_bnd {w : World} {B n : Nat} {cs : List Value} (h : Leaf Tryd.prog w B (n + 2) 31 cs) : ∃ e : Bnd, cs = e.cs ∧ e.x.size ≤ B ∧ e.q.size ≤ B ∧ e.p.size ≤ B := by
  obtain ⟨hl, hf⟩ := leaf_struct Tryd.underlying31 h
  rw [c_bnd] at hl
  match cs, hl with
  | [c0, c1, c2], _ =>
    obtain ⟨s, e0, hs⟩ := leaf_string Tryd.underlying9 (field1 (o := 0) hf 0 rfl rfl rfl c_str)
    obtain ⟨k, e1, hk⟩ := leaf_string Tryd.underlying9 (field1 (o := 1) hf 1 rfl rfl rfl c_str)
    obtain ⟨f, e2, hf'⟩ := leaf_string Tryd.underlying9 (field1 (o := 2) hf 2 rfl rfl rfl c_str)
    have e0 : [c0] = [Value.string s] := e0
    have e1 : [c1] = [Value.string k] := e1
    have e2 : [c2] = [Value.string f] := e2
    simp only [List.cons.injEq, and_true] at e0 e1 e2
    exact ⟨⟨s, k, f⟩, by rw [e0, e1, e2]; rfl, hs, hk, hf'⟩
set_option maxRecDepth 100000 in
theorem leaf_act {w : World} {n : Nat} {cs : List Value} (h : Leaf Tryd.prog w reachBytes (n + 3) 42 cs) : ∃ x : Ac, acL.cs x = cs ∧ AcOk x := by
  obtain ⟨hl, hf⟩ := leaf_struct Tryd.underlying42 h
  rw [c_act] at hl
  match cs, hl with
  | [c0, c1, c2, c3, c4, c5, c6], _ =>
    obtain ⟨k, e0, _⟩ := leaf_int Tryd.underlying3 (field1 (o := 0) hf 0 rfl rfl rfl c_int)
    obtain ⟨e, e1, h1⟩ := leaf_exc (field1 (o := 1) hf 1 rfl rfl rfl c_exc)
    obtain ⟨b, e2, h2, h3, h4⟩ := leaf_bnd (field1 (o := 4) hf 2 rfl rfl rfl c_bnd)
    have e0 : [c0] = [Value.int .i64 k] := e0
    have e1 : [c1, c2, c3] = e.cs := e1
    have e2 : [c4, c5, c6] = b.cs := e2
    simp only [List.cons.injEq, and_true, Exc.cs, Bnd.cs] at e0 e1 e2
    obtain ⟨q1, q2, q3⟩ := e1
    obtain ⟨q4, q5, q6⟩ := e2
    have hb : reachBytes ≤ 140737488355328 := by decide
    exact ⟨⟨k, e, b⟩, by rw [e0, q1, q2, q3, q4, q5, q6]; rfl, by show e.n.size ≤ _; omega, by show b.x.size ≤ _; omega, by show b.q.size ≤ _; omega, by show b.p.size ≤ _; omega⟩
/-- A binding's texts are no longer than a machine can hold. -/
structure BndOk (b : Bnd) : Prop where
  sx : b.x.size ≤ 140737488355328
  sq : b.q.size ≤ 140737488355328
  sp : b.p.size ≤ 140737488355328
set_option maxRecDepth 100000 in
theorem args_bnd {H : Type} {enc : TypeId × Value → H} {w : World} {v : Value} {d : DataW H} {p : List MemPlace} {base : Nat} {r : Reach} {b0 : Nat} (hv : Value.okWide Tryd.prog w r b0 31 v) (h : DataW.Trod enc Tryd.prog w base (fun _ => true) true 31 v d p)
    (hz : ∀ n ∈ d.weights Tryd.prog 31, n ≤ reachBytes) : ∃ b : Bnd, v = .agg ⟨b.cs⟩ ∧ BndOk b := by
  obtain ⟨cs, h1, h2⟩ := struct_arg 2 Tryd.underlying31 hv h hz
  obtain ⟨b, h3, h4, h5, h6⟩ := leaf_bnd h2
  have hb : reachBytes ≤ 140737488355328 := by decide
  exact ⟨b, by rw [h1, h3], by omega, by omega, by omega⟩
set_option maxRecDepth 100000 in
theorem args_act {H : Type} {enc : TypeId × Value → H} {w : World} {v : Value} {d : DataW H} {p : List MemPlace} {base : Nat} {r : Reach} {b0 : Nat} (hv : Value.okWide Tryd.prog w r b0 42 v) (h : DataW.Trod enc Tryd.prog w base (fun _ => true) true 42 v d p)
    (hz : ∀ n ∈ d.weights Tryd.prog 42, n ≤ reachBytes) : ∃ x : Ac, v = .agg ⟨acL.cs x⟩ ∧ AcOk x := by
  obtain ⟨cs, h1, h2⟩ := struct_arg 3 Tryd.underlying42 hv h hz
  obtain ⟨x, h3, h4⟩ := leaf_act h2
  exact ⟨x, by rw [h1, h3], h4⟩
end Go.Proofs.YtehhhkcemmfjpaaDoor

/- The walk of BindNone. -/
namespace Go.Proofs.YtehhhkcemmfjpaaDoor
open Go Go.Proofs.YtehhhkcemmfjpaaDoor Go.Proofs.YtehhhkcemmfjpaaDoor.St

/-- A table that no call made. -/
def Um (w : World) (p : Option Addr) : Prop := p = none ∨ ∃ k, p = some ⟨k, 0, none⟩ ∧ w.heap[k]? = some (.cells #[.map none, .map none] 46 (0, 0))
theorem Um.no {w w' : World} {p : Option Addr} (h : Um w p) (m : Mod St.no w w') : Um w' p := by
  rcases h with h | ⟨k, h1, h2⟩
  · exact .inl h
  · exact .inr ⟨k, h1, m.at' h2⟩
section
variable {w : World} {p : Option Addr} (h : Um w p)
include h
theorem made_un (R : Value → World → Prop) (hR : R (.bool false) w) : Ca Tryd.prog 21 #[.pointer p] w R := by
  rcases h with rfl | ⟨k, rfl, hk⟩
  · exact made_nil w R hR
  · exact made_zero hk R hR
theorem find_un (n : ByteArray) (R : Value → World → Prop) (hR : ∀ w', Mod St.no w w' → R (.tuple #[.agg ⟨exc0.cs⟩, .bool false]) w') : Ca Tryd.prog 14 #[.pointer p, .string n] w R := by
  refine ca14 p n w R ?_
  intro w0 e0
  have n0 : Mod no w w0 := by subst e0; exact Mod.alloc _ _
  have b0 : Xc w0 w.heap.size exc0 := by subst e0; exact new_at _ _
  clear e0
  refine made_un (h.no n0) _ ⟨_, rfl, (ifK_of (fun _ => ?_) (fun h => by cases h) : ifK true _ _)⟩
  refine put3 b0 fun w1 n1 b1 => ⟨_, by rw [cl1 b1]; rfl, _, by rw [cl1 b1]; rfl, _, by rw [cl1 b1]; rfl, ?_⟩
  exact hR w1 (n0.new n1 fun k hk => by cases hk; exact Nat.le_refl _)
theorem declare_un (x : Exc) (R : Value → World → Prop) (hR : ∀ w', Mod St.no w w' → R (.int .i64 1) w') : Ca Tryd.prog 7 #[.pointer p, .agg ⟨x.cs⟩] w R := by
  refine (ca7 p x.n x.k x.f w R ?_ : Ca _ _ _ _ _)
  intro w0 e0
  have n0 : Mod no w w0 := by subst e0; exact Mod.alloc _ _
  clear e0
  exact made_un (h.no n0) _ ⟨_, rfl, (ifK_of (fun _ => hR w0 n0) (fun h => by cases h) : ifK true _ _)⟩
theorem drop_un (n : ByteArray) (R : Value → World → Prop) (hR : ∀ w', Mod St.no w w' → R (.int .i64 1) w') : Ca Tryd.prog 11 #[.pointer p, .string n] w R := by
  refine ca11 p n w R ?_
  intro w0 e0
  have n0 : Mod no w w0 := by subst e0; exact Mod.alloc _ _
  clear e0
  exact made_un (h.no n0) _ ⟨_, rfl, (ifK_of (fun _ => hR w0 n0) (fun h => by cases h) : ifK true _ _)⟩
theorem bind_un (b : Bnd) (R : Value → World → Prop) (hR : ∀ w', Mod St.no w w' → R (.int .i64 1) w') : Ca Tryd.prog 8 #[.pointer p, .agg ⟨b.cs⟩] w R := by
  refine (ca8 p b.x b.q b.p w R ?_ : Ca _ _ _ _ _)
  intro w0 e0
  have n0 : Mod no w w0 := by subst e0; exact Mod.alloc _ _
  clear e0
  exact made_un (h.no n0) _ ⟨_, rfl, (ifK_of (fun _ => hR w0 n0) (fun h => by cases h) : ifK true _ _)⟩
theorem unbind_un (b : Bnd) (R : Value → World → Prop) (hR : ∀ w', Mod St.no w w' → R (.int .i64 1) w') : Ca Tryd.prog 15 #[.pointer p, .agg ⟨b.cs⟩] w R := by
  refine (ca15 p b.x b.q b.p w R ?_ : Ca _ _ _ _ _)
  intro w0 e0
  have n0 : Mod no w w0 := by subst e0; exact Mod.alloc _ _
  clear e0
  exact made_un (h.no n0) _ ⟨_, rfl, (ifK_of (fun _ => hR w0 n0) (fun h => by cases h) : ifK true _ _)⟩
theorem forget_un (n : ByteArray) (R : Value → World → Prop) (hR : ∀ w', Mod St.no w w' → R (.int .i64 0) w') : Ca Tryd.prog 10 #[.pointer p, .string n] w R := by
  refine ca10 p n w R ?_
  intro w0 e0
  have n0 : Mod no w w0 := by subst e0; exact Mod.alloc _ _
  clear e0
  exact made_un (h.no n0) _ ⟨_, rfl, (ifK_of (fun _ => hR w0 n0) (fun h => by cases h) : ifK true _ _)⟩
theorem exchanges_un (R : Value → World → Prop) (hR : R (.slice none 0 0) w) : Ca Tryd.prog 12 #[.pointer p] w R := by
  refine ca12 p w R ?_
  exact made_un h _ ⟨_, rfl, (ifK_of (fun _ => hR) (fun h => by cases h) : ifK true _ _)⟩
theorem bindings_un (R : Value → World → Prop) (hR : R (.slice none 0 0) w) : Ca Tryd.prog 9 #[.pointer p] w R := by
  refine ca9 p w R ?_
  exact made_un h _ ⟨_, rfl, (ifK_of (fun _ => hR) (fun h => by cases h) : ifK true _ _)⟩
theorem copy_un (R : Value → World → Prop) (hR : R (.pointer none) w) : Ca Tryd.prog 16 #[.pointer p] w R := by
  refine ca16 p w R ?_
  exact made_un h _ ⟨_, rfl, (ifK_of (fun _ => hR) (fun h => by cases h) : ifK true _ _)⟩
end
theorem ix_table : ixOk Tryd.prog 47 = true := by kernel_rfl
theorem none_walk (a0 : Int) (e : Exc) (b : Bnd) (w : World) (R : Value → World → Prop) (hR : ∀ w', Mod St.no w w' → R (.bool true) w') : Ca Tryd.prog 4 #[.agg ⟨.int .i64 a0 :: (e.cs ++ b.cs)⟩] w R := by
  refine (ca4 a0 e.n e.k e.f b.x b.q b.p w R ?_ : Ca _ _ _ _ _)
  intro w0 e0
  have n0 : Mod no w w0 := by subst e0; exact Mod.alloc _ _
  have b0 : w0.heap[w.heap.size]? = some (.cells #[.int .i64 a0, .string e.n, .int .i64 e.k, .bool e.f, .string b.x, .string b.q, .string b.p] 42 (0, 0)) := by subst e0; exact new_at _ _
  clear e0
  intro w1 e0
  have n1 : Mod no w0 w1 := by subst e0; exact Mod.alloc _ _
  have z1 : w1.heap[w0.heap.size]? = some (.cells #[.map none, .map none] 46 (0, 0)) := by subst e0; exact new_at _ _
  clear e0
  have b1 := n1.at' b0
  have n01 := n0.trans n1
  refine ⟨fun x w' => ∃ i : Nat, x = i ∧ i ≤ 2 ∧ Mod St.no w1 w', fun x _ => ((2 : Int) - x).toNat, ⟨0, rfl, by decide, Mod.refl _ _⟩, ?_⟩
  rintro _ _ w6 ⟨i, rfl, hi, n6⟩
  refine ifK_dec (fun hlt => ?_) (fun hge => lives_ok w6 _ fun w'' m' => ⟨_, rfl, hR w'' ((n01.trans n6).trans m')⟩)
  have hU : Um w6 (if i = 0 then none else some ⟨w0.heap.size, 0, none⟩) := by
    split
    · exact .inl rfl
    · exact .inr ⟨_, rfl, n6.at' z1⟩
  refine ⟨_, w6, index2 ix_table w6 none _ i (by omega), ?_⟩
  generalize (if i = 0 then none else some (⟨w0.heap.size, 0, none⟩ : Addr)) = p at hU
  have b6 := n6.at' b1
  have e1 : IntKind.i64.wrap ((i : Int) + 1) = ((i + 1 : Nat) : Int) := (by first | (simp only [IntKind.wrap_i64]; omega) | omega)
  rw [e1]
  clear e1
  refine ⟨_, rfl, _, by rw [cl2 b6]; rfl, find_un hU _ _ fun w12 n12 => ⟨_, _, _, _, rfl, ?_⟩⟩
  intro w17 e0
  have n17 : Mod no w12 w17 := by subst e0; exact Mod.alloc _ _
  have b17 : Xc w17 w12.heap.size exc0 := by subst e0; exact new_at _ _
  clear e0
  refine put3 b17 fun w23 n23 _ => ?_
  have m23 : Mod St.no w6 w23 := n12.trans (n17.new n23 fun k hk => by cases hk; exact Nat.le_refl _)
  have b23 := m23.at' b6
  have u23 := hU.no m23
  refine ⟨_, by rw [cl2 b23]; rfl, _, by rw [cl2 b23]; rfl, _, by rw [cl2 b23]; rfl, (declare_un u23 e _ fun w28 n28 => ?_ : Ca _ _ _ _ _)⟩
  refine ⟨_, rfl, (ifK_of (fun h => by cases h) (fun _ => ?_) : ifK false _ _)⟩
  have b28 := n28.at' b23
  have u28 := u23.no n28
  refine ⟨_, by rw [cl2 b28]; rfl, drop_un u28 _ _ fun w32 n32 => ⟨_, rfl, (ifK_of (fun h => by cases h) (fun _ => ?_) : ifK false _ _)⟩⟩
  have b32 := n32.at' b28
  have u32 := u28.no n32
  refine ⟨_, by rw [cl2 b32]; rfl, _, by rw [cl2 b32]; rfl, _, by rw [cl2 b32]; rfl, (bind_un u32 b _ fun w38 n38 => ?_ : Ca _ _ _ _ _)⟩
  refine ⟨_, rfl, (ifK_of (fun h => by cases h) (fun _ => ?_) : ifK false _ _)⟩
  have b38 := n38.at' b32
  have u38 := u32.no n38
  refine ⟨_, by rw [cl2 b38]; rfl, _, by rw [cl2 b38]; rfl, _, by rw [cl2 b38]; rfl, (unbind_un u38 b _ fun w44 n44 => ?_ : Ca _ _ _ _ _)⟩
  refine ⟨_, rfl, (ifK_of (fun h => by cases h) (fun _ => ?_) : ifK false _ _)⟩
  have b44 := n44.at' b38
  have u44 := u38.no n44
  refine ⟨_, by rw [cl2 b44]; rfl, forget_un u44 _ _ fun w48 n48 => ⟨_, rfl, (ifK_of (fun h => by cases h) (fun _ => ?_) : ifK false _ _)⟩⟩
  have u48 := u44.no n48
  refine (ifK_of (fun h => by cases h) (fun _ => ?_) : ifK false _ _)
  refine exchanges_un u48 _ ⟨_, _, _, rfl, bindings_un u48 _ ⟨_, _, _, rfl, (ifK_of (fun h => by cases h) (fun _ => ?_) : ifK false _ _)⟩⟩
  refine copy_un u48 _ ⟨_, rfl, (ifK_of (fun h => by cases h) (fun _ => ?_) : ifK false _ _)⟩
  exact ⟨⟨i + 1, rfl, by omega, ((((((n6.trans m23).trans n28).trans n32).trans n38).trans n44).trans n48)⟩, by simp only; omega⟩
theorem none_walkA (x : Ac) (w : World) (_ : AcOk x) (R : Value → World → Prop) (hR : ∀ w', Mod St.no w w' → R (.bool true) w') : Ca Tryd.prog 4 #[.agg ⟨acL.cs x⟩] w R :=
  none_walk x.k x.e x.b w R hR
end Go.Proofs.YtehhhkcemmfjpaaDoor
