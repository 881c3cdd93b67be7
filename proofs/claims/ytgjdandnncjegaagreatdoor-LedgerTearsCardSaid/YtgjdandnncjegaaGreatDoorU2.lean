/- Parts of the proof of LedgerTearsCard. -/
import Derived.Laws.CopyRow
import Derived.Laws.IdiomCopy
import Derived.Test.YtgjdandnncjegaaGreatDoorCore9
import Derived.Test.YtgjdandnncjegaaGreatDoorProg
import Derived.Test.YtgjdandnncjegaaGreatDoorLib
import Derived.Test.YtgjdandnncjegaaGreatDoorU1
/- Contracts of the store's functions: what room is free. -/
namespace Go.Proofs.YtgjdandnncjegaaGreatDoor
open Go Go.Proofs.YtgjdandnncjegaaGreatDoor.St

/-- What an entry's file needs, where fl tells a file's length. -/
def cost (fl : Nat → Nat) (v : Value) : Nat := match v with
  | .pointer (some a) => 16 + fl a.block
  | _ => 0
def needD (fl : Nat → Nat) (D : List (ByteArray × Nat)) : Nat := (D.map fun p => 16 + fl p.2).sum

theorem free_ok (s : Nat) (x : Sto) (fl : Nat → Nat) (w : World) (hs : StAt w s x) (hfl : ∀ p ∈ x.now, ∃ a c b m d, w.heap[p.2]? = some (.cells #[.slice a (fl p.2) c, .slice b m d] 82 (0, 0)))
    (h0 : needD fl x.now ≤ 1152921504606846976) (hr0 : 0 ≤ x.room) (hr : x.room ≤ 1073741824) (R : Value → World → Prop) (h : ∀ w', Mod no w w' → R (.int .i64 (x.room - needD fl x.now)) w') :
    Ca Tryz.prog 74 #[.pointer (some ⟨s, 0, none⟩)] w R := by
  refine ca74 _ w R ?_
  obtain ⟨es, clock, hes, hkv, hn, hc⟩ := hs.now
  refine ⟨x.room, by rw [cl1 hs.cell]; rfl, some x.nb, by rw [cl1 hs.cell]; rfl, es, clock, hes, ?_⟩
  intro w3 e3
  have m3 : Mod no w w3 := by subst e3; exact Mod.alloc _ _
  have b3 : w3.heap[w.heap.size]? = some (.mapIter (some x.nb) clock #[] clock) := by subst e3; exact new_at _ _
  clear e3
  have hall : ∀ e ∈ es.toList, ∃ p ∈ x.now, e.val = .pointer (some ⟨p.2, 0, none⟩) := by
    intro e he
    have : (e.key, e.val) ∈ kvL Value.string (dirL x.now) := by rw [← hkv]; exact List.mem_map.2 ⟨e, he, rfl⟩
    simp only [kvL, dirL, List.map_map, List.mem_map, Function.comp, Prod.mk.injEq] at this
    obtain ⟨p, hp, _, hv⟩ := this
    exact ⟨p, hp, hv.symm⟩
  have hsum : (es.toList.map fun e => cost fl e.val).sum = needD fl x.now := by
    have h1 : (es.toList.map fun e => cost fl e.val) = ((es.toList.map fun e => (e.key, e.val)).map fun p => cost fl p.2) := by rw [List.map_map]; rfl
    rw [h1, hkv, kvL, dirL, needD, List.map_map, List.map_map]
    rfl
  have psum : ∀ {a b : List MapEntry}, (a ++ b).Perm es.toList → (a.map fun e => cost fl e.val).sum + (b.map fun e => cost fl e.val).sum = needD fl x.now := fun hp => by
    rw [← hsum, ← List.sum_append, ← List.map_append]
    exact (hp.map _).sum_nat
  refine ⟨fun y w' => ∃ (seen : Array Nat) (c0 : Nat) (got : List MapEntry), w'.heap[w.heap.size]? = some (.mapIter (some x.nb) clock seen c0) ∧ clock ≤ c0 ∧ (got ++ (leftOf es seen).toList).Perm es.toList ∧ y = x.room - ((got.map fun e => cost fl e.val).sum : Nat) ∧ Mod no w w',
    fun _ w' => match w'.heap[w.heap.size]? with | some (.mapIter _ _ seen _) => (leftOf es seen).size | _ => 0, ⟨#[], clock, [], b3, Nat.le_refl _, by simp only [leftOf, Array.toList_filter, List.nil_append]; exact .of_eq (List.filter_eq_self.2 (by simp)), by simp, m3⟩, ?_⟩
  rintro _ _ w7 ⟨seen, c0, got, hit, hcc, hperm, rfl, m7⟩
  have hm7 := m7.at' hes
  rcases next_at (P := Tryz.prog) (ty := 0) hit hm7 hc hcc with ⟨hz, hrun⟩ | ⟨e, he, w8, hrun, m8, hit8⟩
  · refine ⟨_, w7, hrun, .inl ⟨rfl, ?_⟩⟩
    have hl : (leftOf es seen).toList = [] := List.eq_nil_of_length_eq_zero (by simpa using hz)
    have := psum hperm
    rw [hl] at this
    simp only [List.map_nil, List.sum_nil, Nat.add_zero] at this
    rw [this]
    exact h w7 m7
  · refine ⟨_, w8, hrun, .inr ⟨_, _, rfl, ?_⟩⟩
    have hmem := (mem_left he).1
    have m8' : Mod no w w8 := m7.new m8 fun k hk => by cases hk; exact Nat.le_refl _
    obtain ⟨p, hp, hv⟩ := hall e hmem
    obtain ⟨a, c, b, m, d, hf⟩ := hfl p hp
    have hperm' : ((got ++ [e]) ++ (leftOf es (seen.push e.born)).toList).Perm es.toList := by
      rw [List.append_assoc]
      exact ((List.Perm.append_left got (left_perm hn he)).symm).trans hperm
    have hps := psum hperm'
    have hcost : cost fl e.val = 16 + fl p.2 := by rw [hv]; rfl
    rw [List.map_append, List.sum_append, List.map_cons, List.map_nil, List.sum_cons, List.sum_nil, Nat.add_zero, hcost] at hps
    refine ⟨e.key, e.val, entry_at hit8 (m8'.at' hes) hmem hn, ?_⟩
    rw [hv]
    refine ⟨a, fl p.2, c, by rw [cl1 (m8'.at' hf)]; rfl, ⟨seen.push e.born, clock, got ++ [e], hit8, Nat.le_refl _, hperm', ?_, m8'⟩, ?_⟩
    · rw [List.map_append, List.sum_append, List.map_cons, List.map_nil, List.sum_cons, List.sum_nil, Nat.add_zero, hcost]
      rw [wrap64 (x := 16 + ((fl p.2 : Nat) : Int)) (by omega) (by omega), wrap64 (by omega) (by omega)]
      omega
    · simp only [hit8, hit]
      exact left_shrinks es seen e he
end Go.Proofs.YtgjdandnncjegaaGreatDoor

/- The store in plain Lean: what each call makes of it. It names no program. -/
namespace Go.Proofs.YtgjdandnncjegaaGreatDoor
open Go Go.Proofs.YtgjdandnncjegaaGreatDoor.St

/-! ### Names in order -/
theorem bl_tri : ∀ x y : List UInt8, Op.bytesLess x y = false → Op.bytesLess y x = false → x = y
  | [], [], _, _ => rfl
  | [], _ :: _, h, _ => by simp [Op.bytesLess] at h
  | _ :: _, [], _, h => by simp [Op.bytesLess] at h
  | a :: x, b :: y, h, h' => by
    simp only [Op.bytesLess, Bool.or_eq_false_iff, Bool.and_eq_false_iff, decide_eq_false_iff_not, beq_eq_false_iff_ne, UInt8.lt_iff_toNat_lt] at h h'
    obtain ⟨h1, h2⟩ := h
    obtain ⟨h3, h4⟩ := h'
    obtain rfl : a = b := UInt8.toNat_inj.1 (by omega)
    rcases h2 with h2 | h2
    · exact absurd rfl h2
    rcases h4 with h4 | h4
    · exact absurd rfl h4
    rw [bl_tri x y h2 h4]
theorem str_irr (x : ByteArray) : ¬ x < x := by
  intro h
  have h : Op.bytesLess x.toList x.toList = true := h
  rw [bl_irr] at h
  cases h
theorem str_tri {x y : ByteArray} (h : ¬ x < y) (h' : ¬ y < x) : x = y := by
  have e := bl_tri x.toList y.toList (by simpa using (show ¬ Op.bytesLess x.toList y.toList = true from h)) (by simpa using (show ¬ Op.bytesLess y.toList x.toList = true from h'))
  rw [byteArray_toList, byteArray_toList] at e
  cases x; cases y
  simp only at e
  rw [Array.toList_inj.1 e]
theorem str_ltr {x y z : ByteArray} (h : x < y) (h' : y < z) : x < z := by
  apply Classical.byContradiction
  intro hn
  have h1 : z ≤ x := Lin.nlt hn
  have h2 : x ≤ y := Lin.lle h
  have h3 : z ≤ y := Lin.tr h1 h2
  exact Lin.nle h3 h'

/-- Names that rise. -/
def Rises (D : List (ByteArray × Nat)) : Prop := (D.map (·.1)).Pairwise (· < ·)
theorem Rises.nodup {D : List (ByteArray × Nat)} (h : Rises D) : (D.map (·.1)).Nodup := h.imp fun h e => by subst e; exact str_irr _ h

def ddel (k : ByteArray) (D : List (ByteArray × Nat)) : List (ByteArray × Nat) := D.filter fun p => !(p.1 == k)
def dins (k : ByteArray) (f : Nat) : List (ByteArray × Nat) → List (ByteArray × Nat)
  | [] => [(k, f)]
  | p :: r => if k < p.1 then (k, f) :: p :: r else p :: dins k f r
def dset (k : ByteArray) (f : Nat) (D : List (ByteArray × Nat)) : List (ByteArray × Nat) := dins k f (ddel k D)

theorem dins_perm (k : ByteArray) (f : Nat) : ∀ D, (dins k f D).Perm ((k, f) :: D)
  | [] => .refl _
  | p :: r => by
    simp only [dins]
    split
    · exact .refl _
    · exact ((dins_perm k f r).cons p).trans (.swap _ _ _)
theorem dset_perm (k : ByteArray) (f : Nat) (D : List (ByteArray × Nat)) : (dset k f D).Perm ((k, f) :: ddel k D) := dins_perm _ _ _
theorem mem_ddel {k : ByteArray} {D : List (ByteArray × Nat)} {p : ByteArray × Nat} : p ∈ ddel k D ↔ p ∈ D ∧ p.1 ≠ k := by
  simp [ddel]
theorem mem_dset {k : ByteArray} {f : Nat} {D : List (ByteArray × Nat)} {p : ByteArray × Nat} : p ∈ dset k f D ↔ p = (k, f) ∨ (p ∈ D ∧ p.1 ≠ k) := by
  rw [(dset_perm k f D).mem_iff, List.mem_cons, mem_ddel]
theorem ddel_rises {k : ByteArray} {D : List (ByteArray × Nat)} (h : Rises D) : Rises (ddel k D) := by
  rw [Rises, List.pairwise_map] at h ⊢
  exact List.Pairwise.filter _ h
theorem dins_rises {k : ByteArray} {f : Nat} : ∀ {D : List (ByteArray × Nat)}, Rises D → (∀ p ∈ D, p.1 ≠ k) → Rises (dins k f D)
  | [], _, _ => by simp [dins, Rises]
  | p :: r, h, hn => by
    have h := List.pairwise_cons.1 (show ((p :: r).map (·.1)).Pairwise (· < ·) from h)
    simp only [dins]
    split
    · rename_i hlt
      refine List.pairwise_cons.2 ⟨fun y hy => ?_, List.pairwise_cons.2 h⟩
      rcases List.mem_cons.1 hy with rfl | hy
      · exact hlt
      · exact str_ltr hlt (h.1 y hy)
    · rename_i hlt
      refine List.pairwise_cons.2 ⟨fun y hy => ?_, dins_rises h.2 fun q hq => hn q (List.mem_cons_of_mem _ hq)⟩
      have hy := (((dins_perm k f r).map (·.1)).mem_iff).1 hy
      rcases List.mem_cons.1 hy with rfl | hy
      · apply Classical.byContradiction
        intro h2
        exact hn p (by simp) (str_tri h2 hlt)
      · exact h.1 y hy
theorem dset_rises {k : ByteArray} {f : Nat} {D : List (ByteArray × Nat)} (h : Rises D) : Rises (dset k f D) :=
  dins_rises (ddel_rises h) fun _ hp => (mem_ddel.1 hp).2
theorem ddel_length (k : ByteArray) (D : List (ByteArray × Nat)) : (ddel k D).length ≤ D.length := List.length_filter_le _ _
theorem dset_length (k : ByteArray) (f : Nat) (D : List (ByteArray × Nat)) : (dset k f D).length ≤ D.length + 1 := by
  rw [(dset_perm k f D).length_eq, List.length_cons]
  have := ddel_length k D
  omega
theorem dget_some {k : ByteArray} {D : List (ByteArray × Nat)} {f : Nat} (h : dget D k = some f) : (k, f) ∈ D := by
  rw [dget, Option.map_eq_some_iff] at h
  obtain ⟨p, hp, rfl⟩ := h
  have h1 := List.find?_some hp
  have h2 := List.mem_of_find?_eq_some hp
  have : k = p.1 := eq_of_beq h1
  subst this
  exact h2
theorem dget_none {k : ByteArray} {D : List (ByteArray × Nat)} : dget D k = none ↔ ∀ p ∈ D, p.1 ≠ k := by
  rw [dget, Option.map_eq_none_iff, List.find?_eq_none]
  exact ⟨fun h p hp e => h p hp (by subst e; exact beq_self_eq_true _), fun h p hp e => h p hp (eq_of_beq e).symm⟩
theorem dget_mem {k : ByteArray} {D : List (ByteArray × Nat)} {f : Nat} (hn : (D.map (·.1)).Nodup) (h : (k, f) ∈ D) : dget D k = some f := by
  cases hg : dget D k with
  | none => exact absurd rfl (dget_none.1 hg _ h)
  | some g =>
    have hm := dget_some hg
    have : ∀ {D : List (ByteArray × Nat)}, (D.map (·.1)).Nodup → (k, f) ∈ D → (k, g) ∈ D → f = g := by
      intro D hn h1 h2
      induction D with
      | nil => simp at h1
      | cons p r ih =>
        rw [List.map_cons, List.nodup_cons] at hn
        rcases List.mem_cons.1 h1 with e1 | h1 <;> rcases List.mem_cons.1 h2 with e2 | h2
        · rw [← e1] at e2; injection e2 with _ e2; exact e2.symm
        · exact absurd (List.mem_map.2 ⟨_, h2, by rw [← e1]⟩) hn.1
        · exact absurd (List.mem_map.2 ⟨_, h1, by rw [← e2]⟩) hn.1
        · exact ih hn.2 h1 h2
    rw [this hn h hm]
theorem dget_perm {k : ByteArray} {D D' : List (ByteArray × Nat)} (hn : (D.map (·.1)).Nodup) (h : D.Perm D') : dget D k = dget D' k := by
  cases hg : dget D' k with
  | none => exact dget_none.2 fun p hp => dget_none.1 hg p (h.mem_iff.1 hp)
  | some f => exact dget_mem hn (h.mem_iff.2 (dget_some hg))

/-! ### A store -/
structure AS where
  room : Int
  all : List (Bs × Bs)
  dir : List (ByteArray × Nat)
  sure : List (ByteArray × Nat)
  dark : Bool
  count : Int
  left : Int
  keep : Int

def AS.new (room : Int) : AS := ⟨room, [], [], [], false, 0, 0, 0⟩
def AS.file (a : AS) (i : Nat) : Bs × Bs := (a.all[i]?).getD ([], [])
def AS.len (a : AS) (i : Nat) : Nat := (a.file i).1.length
def AS.need (a : AS) : Nat := (a.dir.map fun p => 16 + a.len p.2).sum
def AS.idx (a : AS) (n : ByteArray) : Nat := (dget a.dir n).getD 0
def AS.known (a : AS) (n : ByteArray) : Int := if a.dark then 9 else if goodB n = false then 2 else if dget a.dir n = none then 3 else 0
/-- What a failure makes of a file. -/
def failF (keep : Int) (f : Bs × Bs) : Bs × Bs :=
  if f.2.length ≤ f.1.length ∧ f.1.take f.2.length = f.2 then (f.1.take (f.2.length + min keep.toNat (f.1.length - f.2.length)), f.1.take (f.2.length + min keep.toNat (f.1.length - f.2.length))) else (f.2, f.2)
def AS.fail (a : AS) (keep : Int) : AS := if a.dark then a else { a with dark := true, dir := a.sure, all := a.all.map (failF keep) }
def AS.tick (a : AS) : AS := { a with count := IntKind.i64.wrap (a.count + 1) }
def AS.less (a : AS) : AS := { a with left := IntKind.i64.wrap (a.left - 1) }
def AS.counted (a : AS) (f : AS → AS) : AS × Int :=
  if 0 < a.left then (if a.tick.less.left = 0 then (a.tick.less.fail a.keep, 9) else (f a.tick.less, 0)) else (f a.tick, 0)
def AS.upd (a : AS) (i : Nat) (g : Bs × Bs → Bs × Bs) : AS := { a with all := a.all.modify i g }
def AS.make (a : AS) (n : ByteArray) : AS × Int :=
  if a.known n = 0 then (a, 4) else if a.known n = 3 then (if a.room - a.need < 16 then (a, 6) else a.counted fun a => { a with all := a.all ++ [([], [])], dir := dset n a.all.length a.dir }) else (a, a.known n)
def AS.write (a : AS) (n : ByteArray) (b : Bs) : AS × Int :=
  if a.known n = 0 then (if a.room - a.need < b.length then (a, 6) else a.counted fun a => a.upd (a.idx n) fun x => (x.1 ++ b, x.2)) else (a, a.known n)
def AS.cut (a : AS) (n : ByteArray) (k : Int) : AS × Int :=
  if a.known n = 0 then (if k < 0 ∨ k > a.len (a.idx n) then (a, 2) else a.counted fun a => a.upd (a.idx n) fun x => (x.1.take k.toNat, x.2)) else (a, a.known n)
def AS.sync (a : AS) (n : ByteArray) : AS × Int :=
  if a.known n = 0 then a.counted fun a => a.upd (a.idx n) fun x => (x.1, x.1) else (a, a.known n)
def AS.move (a : AS) (n to : ByteArray) : AS × Int :=
  if a.dark then (a, 9) else if goodB n = false ∨ goodB to = false then (a, 2) else if dget a.dir n = none then (a, 3) else a.counted fun a => { a with dir := dset to (a.idx n) (ddel n a.dir) }
def AS.drop (a : AS) (n : ByteArray) : AS × Int :=
  if a.known n = 0 then a.counted fun a => { a with dir := ddel n a.dir } else (a, a.known n)
def AS.commit (a : AS) : AS × Int := if a.dark then (a, 9) else a.counted fun a => { a with sure := a.dir }
def AS.read (a : AS) (n : ByteArray) : Bs × Int := if a.known n = 0 then ((a.file (a.idx n)).1, 0) else ([], a.known n)
def AS.plan (a : AS) (n keep : Int) : AS × Int := if a.dark then (a, 9) else if n < 0 then (a, 2) else ({ a with left := n, keep := keep }, 0)
def AS.power (a : AS) : AS := { a with dark := false, left := 0 }
def AS.names (a : AS) : List ByteArray := if a.dark then [] else a.dir.map (·.1)
def AS.used (a : AS) : Int := if a.dark then 0 else a.need

/-- What holds of any store. -/
structure AS.Ok (a : AS) : Prop where
  room0 : 0 ≤ a.room
  room1 : a.room ≤ 1073741824
  lens : ∀ f ∈ a.all, f.1.length ≤ 1073741824 ∧ f.2.length ≤ 1073741824
  dirS : Rises a.dir
  sureS : Rises a.sure
  dirI : ∀ p ∈ a.dir, p.2 < a.all.length
  sureI : ∀ p ∈ a.sure, p.2 < a.all.length
  dirN : a.dir.length ≤ 67108864
  sureN : a.sure.length ≤ 67108864
  dirG : ∀ p ∈ a.dir, goodB p.1 = true
  sureG : ∀ p ∈ a.sure, goodB p.1 = true

theorem AS.Ok.new {room : Int} (h0 : 0 ≤ room) (h1 : room ≤ 1073741824) : (AS.new room).Ok :=
  ⟨h0, h1, fun _ h => (nomatch h), List.Pairwise.nil, List.Pairwise.nil, fun _ h => (nomatch h), fun _ h => (nomatch h), Nat.zero_le _, Nat.zero_le _, fun _ h => (nomatch h), fun _ h => (nomatch h)⟩
theorem AS.file_mem {a : AS} {i : Nat} (h : i < a.all.length) : a.file i ∈ a.all := by
  rw [AS.file, List.getElem?_eq_getElem h]
  exact List.getElem_mem h
theorem AS.Ok.flen {a : AS} (h : a.Ok) (i : Nat) : (a.file i).1.length ≤ 1073741824 ∧ (a.file i).2.length ≤ 1073741824 := by
  by_cases hi : i < a.all.length
  · exact h.lens _ (AS.file_mem hi)
  · rw [AS.file, List.getElem?_eq_none (by omega)]
    simp
theorem AS.Ok.of_eq {a b : AS} (h : a.Ok) (h1 : b.room = a.room) (h2 : b.all = a.all) (h3 : b.dir = a.dir) (h4 : b.sure = a.sure) : b.Ok := by
  cases a; cases b
  simp only at h1 h2 h3 h4
  subst h1; subst h2; subst h3; subst h4
  exact ⟨h.room0, h.room1, h.lens, h.dirS, h.sureS, h.dirI, h.sureI, h.dirN, h.sureN, h.dirG, h.sureG⟩
theorem AS.need_le {a : AS} (h : a.Ok) : a.need ≤ a.dir.length * 1073741840 := by
  have : ∀ D : List (ByteArray × Nat), (D.map fun p => 16 + a.len p.2).sum ≤ D.length * 1073741840 := by
    intro D
    induction D with
    | nil => simp
    | cons p r ih =>
      have := (h.flen p.2).1
      simp only [List.map_cons, List.sum_cons, List.length_cons, AS.len] at ih ⊢
      omega
  exact this _
theorem AS.need_ge (a : AS) : a.dir.length * 16 ≤ a.need := by
  have : ∀ D : List (ByteArray × Nat), D.length * 16 ≤ (D.map fun p => 16 + a.len p.2).sum := by
    intro D
    induction D with
    | nil => simp
    | cons p r ih => simp only [List.map_cons, List.sum_cons, List.length_cons]; omega
  exact this _
theorem AS.need_mem {a : AS} {p : ByteArray × Nat} (h : p ∈ a.dir) : 16 + a.len p.2 ≤ a.need := by
  have : ∀ D : List (ByteArray × Nat), p ∈ D → 16 + a.len p.2 ≤ (D.map fun p => 16 + a.len p.2).sum := by
    intro D
    induction D with
    | nil => intro h; cases h
    | cons q r ih =>
      intro h
      simp only [List.map_cons, List.sum_cons]
      rcases List.mem_cons.1 h with rfl | h
      · omega
      · have := ih h; omega
  exact this _ h

theorem AS.file_upd {a : AS} {i j : Nat} {g : Bs × Bs → Bs × Bs} (hi : i < a.all.length) : (a.upd i g).file j = if i = j then g (a.file j) else a.file j := by
  simp only [AS.file, AS.upd, List.getElem?_modify]
  by_cases e : i = j
  · subst e
    simp [hi]
  · simp [e]
theorem AS.file_map {a : AS} {f : Bs × Bs → Bs × Bs} {i : Nat} (h : i < a.all.length) : (({ a with all := a.all.map f } : AS)).file i = f (a.file i) := by
  simp only [AS.file, List.getElem?_map, List.getElem?_eq_getElem h, Option.map_some, Option.getD_some]
theorem failF_len (keep : Int) (f : Bs × Bs) (h : f.1.length ≤ 1073741824 ∧ f.2.length ≤ 1073741824) : (failF keep f).1.length ≤ 1073741824 ∧ (failF keep f).2.length ≤ 1073741824 := by
  unfold failF
  split
  · simp only [List.length_take]
    omega
  · exact ⟨h.2, h.2⟩
theorem AS.Ok.fail {a : AS} (h : a.Ok) (keep : Int) : (a.fail keep).Ok := by
  unfold AS.fail
  split
  · exact h
  · refine ⟨h.room0, h.room1, fun f hf => ?_, h.sureS, h.sureS, fun p hp => ?_, fun p hp => ?_, h.sureN, h.sureN, h.sureG, h.sureG⟩
    · obtain ⟨g, hg, rfl⟩ := List.mem_map.1 hf
      exact failF_len keep g (h.lens g hg)
    · simp only [List.length_map]; exact h.sureI p hp
    · simp only [List.length_map]; exact h.sureI p hp
theorem AS.Ok.tick {a : AS} (h : a.Ok) : a.tick.Ok := h.of_eq rfl rfl rfl rfl
theorem AS.Ok.less {a : AS} (h : a.Ok) : a.less.Ok := h.of_eq rfl rfl rfl rfl
theorem AS.Ok.power {a : AS} (h : a.Ok) : a.power.Ok := h.of_eq rfl rfl rfl rfl
theorem AS.Ok.plan {a : AS} (h : a.Ok) (n k : Int) : (a.plan n k).1.Ok := by
  unfold AS.plan
  split
  · exact h
  · split
    · exact h
    · exact h.of_eq rfl rfl rfl rfl
theorem AS.Ok.counted {a : AS} (h : a.Ok) {f : AS → AS} (h1 : (f a.tick).Ok) (h2 : (f a.tick.less).Ok) : (a.counted f).1.Ok := by
  unfold AS.counted
  split
  · split
    · exact h.tick.less.fail _
    · exact h2
  · exact h1
theorem AS.Ok.upd {a : AS} (h : a.Ok) (i : Nat) (g : Bs × Bs → Bs × Bs) (hg : ∀ f ∈ a.all[i]?, (g f).1.length ≤ 1073741824 ∧ (g f).2.length ≤ 1073741824) : (a.upd i g).Ok := by
  refine ⟨h.room0, h.room1, fun f hf => ?_, h.dirS, h.sureS, fun p hp => ?_, fun p hp => ?_, h.dirN, h.sureN, h.dirG, h.sureG⟩
  · obtain ⟨j, hj, rfl⟩ := List.getElem_of_mem hf
    have hj' : j < a.all.length := by simpa [AS.upd] using hj
    simp only [AS.upd, List.getElem_modify]
    split
    · rename_i e
      subst e
      exact hg _ (by simp [hj'])
    · exact h.lens _ (List.getElem_mem hj')
  · simp only [AS.upd, List.length_modify]; exact h.dirI p hp
  · simp only [AS.upd, List.length_modify]; exact h.sureI p hp
theorem AS.Ok.add {a : AS} (h : a.Ok) {n : ByteArray} (hg : goodB n = true) (hr : ¬ a.room - a.need < 16) : ({ a with all := a.all ++ [([], [])], dir := dset n a.all.length a.dir } : AS).Ok := by
  have h1 := a.need_ge
  have h2 := h.room1
  refine ⟨h.room0, h.room1, fun f hf => ?_, dset_rises h.dirS, h.sureS, fun p hp => ?_, fun p hp => ?_, ?_, h.sureN, fun p hp => ?_, h.sureG⟩
  · simp only [List.mem_append, List.mem_singleton] at hf
    rcases hf with hf | rfl
    · exact h.lens f hf
    · simp
  · simp only [List.length_append, List.length_singleton]
    rcases mem_dset.1 hp with rfl | hp
    · simp
    · have := h.dirI p hp.1; omega
  · simp only [List.length_append, List.length_singleton]
    have := h.sureI p hp
    omega
  · have := dset_length n a.all.length a.dir
    simp only
    omega
  · rcases mem_dset.1 hp with rfl | hp
    · exact hg
    · exact h.dirG p hp.1
theorem AS.Ok.del {a : AS} (h : a.Ok) (n : ByteArray) : ({ a with dir := ddel n a.dir } : AS).Ok :=
  ⟨h.room0, h.room1, h.lens, ddel_rises h.dirS, h.sureS, fun p hp => h.dirI p (mem_ddel.1 hp).1, h.sureI, Nat.le_trans (ddel_length _ _) h.dirN, h.sureN, fun p hp => h.dirG p (mem_ddel.1 hp).1, h.sureG⟩
theorem ddel_less {n : ByteArray} {D : List (ByteArray × Nat)} {f : Nat} (h : dget D n = some f) : (ddel n D).length < D.length := by
  have hm := dget_some h
  unfold ddel
  rw [List.length_filter_lt_length_iff_exists]
  exact ⟨_, hm, by simp⟩
theorem AS.Ok.mv {a : AS} (h : a.Ok) {n to : ByteArray} {f : Nat} (hg : goodB to = true) (hf : dget a.dir n = some f) : ({ a with dir := dset to f (ddel n a.dir) } : AS).Ok := by
  refine ⟨h.room0, h.room1, h.lens, dset_rises (ddel_rises h.dirS), h.sureS, fun p hp => ?_, h.sureI, ?_, h.sureN, fun p hp => ?_, h.sureG⟩
  · rcases mem_dset.1 hp with rfl | hp
    · exact h.dirI (n, f) (dget_some hf)
    · exact h.dirI p (mem_ddel.1 hp.1).1
  · have h1 := dset_length to f (ddel n a.dir)
    have h2 := ddel_less hf
    have := h.dirN
    simp only
    omega
  · rcases mem_dset.1 hp with rfl | hp
    · exact hg
    · exact h.dirG p (mem_ddel.1 hp.1).1
theorem AS.Ok.commit {a : AS} (h : a.Ok) : ({ a with sure := a.dir } : AS).Ok :=
  ⟨h.room0, h.room1, h.lens, h.dirS, h.dirS, h.dirI, h.dirI, h.dirN, h.dirN, h.dirG, h.dirG⟩
theorem AS.known0 {a : AS} {n : ByteArray} (h : a.known n = 0) : a.dark = false ∧ goodB n = true ∧ ∃ f, dget a.dir n = some f ∧ a.idx n = f := by
  unfold AS.known at h
  cases hd : a.dark with
  | true => rw [hd] at h; simp at h
  | false =>
    rw [hd] at h
    cases hg : goodB n with
    | false => rw [hg] at h; simp at h
    | true =>
      rw [hg] at h
      cases hf : dget a.dir n with
      | none => rw [hf] at h; simp at h
      | some f => exact ⟨rfl, rfl, f, rfl, by rw [AS.idx, hf]; rfl⟩
end Go.Proofs.YtgjdandnncjegaaGreatDoor

/- The store as it lies, held against the store in plain Lean. -/
namespace Go.Proofs.YtgjdandnncjegaaGreatDoor
open Go Go.Proofs.YtgjdandnncjegaaGreatDoor.St

/-- A file as it lies: two rows of bytes, in blocks of F. -/
def FileAt (w : World) (F : Nat → Prop) (b : Nat) (f : Bs × Bs) : Prop :=
  ∃ a c a' c', w.heap[b]? = some (.cells #[.slice a f.1.length c, .slice a' f.2.length c'] 82 (0, 0)) ∧ Els u8v 5 w a f.1.length c f.1 ∧ Els u8v 5 w a' f.2.length c' f.2 ∧
    (∀ k, rowB a k → F k) ∧ (∀ k, rowB a' k → F k)
/-- No block of T is a row of bytes. -/
def NoRow (w : World) (T : Nat → Prop) : Prop := ∀ k cs z, T k → w.heap[k]? ≠ some (.cells cs 5 z)

section
variable {w w' : World} {F G T : Nat → Prop} {b : Nat} {f : Bs × Bs}
theorem els_row {a : Option Addr} {l c : Nat} {xs : Bs} (h : Els u8v 5 w a l c xs) {k : Nat} (hk : rowB a k) : ∃ cs, w.heap[k]? = some (.cells cs 5 (0, 0)) := by
  rcases h.2 with ⟨hv, _⟩ | ⟨g, cap, cur, hv, _, hg, _⟩
  · injection hv with h1; subst h1; simp [rowB] at hk
  · injection hv with h1; subst h1; simp [rowB] at hk; subst hk; exact ⟨_, hg⟩
theorem els_mod {a : Option Addr} {l c : Nat} {xs : Bs} (h : Els u8v 5 w a l c xs) (hm : Mod T w w') (hs : ∀ k, rowB a k → ¬ T k) : Els u8v 5 w' a l c xs := row_mod h hm hs
theorem els_norow {a : Option Addr} {l c : Nat} {xs : Bs} (h : Els u8v 5 w a l c xs) (hm : Mod T w w') (hs : NoRow w T) : Els u8v 5 w' a l c xs :=
  els_mod h hm fun k hk ht => let ⟨_, hc⟩ := els_row h hk; hs k _ _ ht hc
theorem FileAt.mod (h : FileAt w F b f) (hm : Mod T w w') (hb : ¬ T b) (hs : ∀ k, F k → ¬ T k) : FileAt w' F b f :=
  let ⟨a, c, a', c', h1, h2, h3, h4, h5⟩ := h
  ⟨a, c, a', c', hm.at h1 hb, els_mod h2 hm fun k hk => hs k (h4 k hk), els_mod h3 hm fun k hk => hs k (h5 k hk), h4, h5⟩
theorem FileAt.norow (h : FileAt w F b f) (hm : Mod T w w') (hb : ¬ T b) (hs : NoRow w T) : FileAt w' F b f :=
  let ⟨a, c, a', c', h1, h2, h3, h4, h5⟩ := h
  ⟨a, c, a', c', hm.at h1 hb, els_norow h2 hm hs, els_norow h3 hm hs, h4, h5⟩
theorem FileAt.no (h : FileAt w F b f) (hm : Mod no w w') : FileAt w' F b f := h.mod hm id fun _ _ => id
theorem FileAt.mono (h : FileAt w F b f) (hs : ∀ k, F k → G k) : FileAt w G b f :=
  let ⟨a, c, a', c', h1, h2, h3, h4, h5⟩ := h
  ⟨a, c, a', c', h1, h2, h3, fun k hk => hs k (h4 k hk), fun k hk => hs k (h5 k hk)⟩
theorem FileAt.cell (h : FileAt w F b f) : ∃ cs, w.heap[b]? = some (.cells cs 82 (0, 0)) := let ⟨_, _, _, _, h1, _⟩ := h; ⟨_, h1⟩
end

def AS.Live (a : AS) (i : Nat) : Prop := (∃ n, (n, i) ∈ a.dir) ∨ ∃ n, (n, i) ∈ a.sure

structure SR (w : World) (s : Nat) (F : Nat → Prop) (a : AS) (nb sb : Nat) (N S : List (ByteArray × Nat)) (φ : Nat → Nat) : Prop where
  st : StAt w s ⟨a.room, nb, sb, N, S, a.dark, a.count, a.left, a.keep⟩
  now : N.Perm (a.dir.map fun p => (p.1, φ p.2))
  sure : S.Perm (a.sure.map fun p => (p.1, φ p.2))
  file : ∀ i, a.Live i → FileAt w F (φ i) (a.file i)
  inj : ∀ i j, a.Live i → a.Live j → φ i = φ j → i = j
  ne : nb ≠ sb
  ok : a.Ok
  fs : F s
  fn : F nb
  fb : F sb
  ff : ∀ i, a.Live i → F (φ i)
/-- The store at s, in the blocks F, is a. -/
def Stt (w : World) (s : Nat) (F : Nat → Prop) (a : AS) : Prop := ∃ nb sb N S φ, SR w s F a nb sb N S φ
/-- From w to w' the store became a'. -/
def StP (s : Nat) (F : Nat → Prop) (w : World) (a' : AS) (w' : World) : Prop := ∃ F', Stt w' s F' a' ∧ (∀ k, F' k → F k ∨ w.heap.size ≤ k) ∧ Mod F w w'

section
variable {w w' w'' : World} {s : Nat} {F T : Nat → Prop} {a b : AS} {nb sb : Nat} {N S : List (ByteArray × Nat)} {φ : Nat → Nat}
theorem SR.mod (h : SR w s F a nb sb N S φ) (hm : Mod T w w') (hs : ∀ k, F k → ¬ T k) : SR w' s F a nb sb N S φ :=
  ⟨⟨hm.at h.st.cell (hs _ h.fs), h.st.now.mod hm (hs _ h.fn), h.st.sure.mod hm (hs _ h.fb)⟩, h.now, h.sure, fun i hi => (h.file i hi).mod hm (hs _ (h.ff i hi)) hs, h.inj, h.ne, h.ok, h.fs, h.fn, h.fb, h.ff⟩
theorem SR.no (h : SR w s F a nb sb N S φ) (hm : Mod no w w') : SR w' s F a nb sb N S φ := h.mod hm fun _ _ => id
theorem Stt.mod (h : Stt w s F a) (hm : Mod T w w') (hs : ∀ k, F k → ¬ T k) : Stt w' s F a := let ⟨_, _, _, _, _, h⟩ := h; ⟨_, _, _, _, _, h.mod hm hs⟩
theorem Stt.no (h : Stt w s F a) (hm : Mod no w w') : Stt w' s F a := h.mod hm fun _ _ => id
theorem Stt.ok (h : Stt w s F a) : a.Ok := let ⟨_, _, _, _, _, h⟩ := h; h.ok
theorem StP.refl (h : Stt w s F a) : StP s F w a w := ⟨F, h, fun _ h => .inl h, Mod.refl _ _⟩
theorem StP.of_no (h : Stt w s F a) (hm : Mod no w w') : StP s F w a w' := ⟨F, h.no hm, fun _ h => .inl h, hm.of_no⟩
theorem StP.pre (hm : Mod no w w') (h : StP s F w' a w'') : StP s F w a w'' :=
  let ⟨F', h1, h2, h3⟩ := h
  ⟨F', h1, fun k hk => (h2 k hk).imp id fun h => Nat.le_trans hm.size h, hm.no_trans h3⟩
theorem StP.post (h : StP s F w a w') (hm : Mod no w' w'') : StP s F w a w'' :=
  let ⟨F', h1, h2, h3⟩ := h
  ⟨F', h1.no hm, h2, h3.trans_no hm⟩
theorem StP.trans (h : StP s F w a w') (h' : ∀ F', Stt w' s F' a → StP s F' w' b w'') : StP s F w b w'' := by
  obtain ⟨F1, h1, h2, h3⟩ := h
  obtain ⟨F2, g1, g2, g3⟩ := h' F1 h1
  refine ⟨F2, g1, fun k hk => ?_, h3.trans' g3 fun k hk hf => ?_⟩
  · rcases g2 k hk with h | h
    · exact h2 k h
    · exact .inr (Nat.le_trans h3.size h)
  · rcases h2 k hf with h | h
    · exact h
    · omega

theorem SR.dirN (h : SR w s F a nb sb N S φ) : (N.map (·.1)).Nodup := by
  have := (h.now.map (·.1)).nodup_iff.2
  rw [List.map_map] at this
  exact this h.ok.dirS.nodup
theorem SR.sureN (h : SR w s F a nb sb N S φ) : (S.map (·.1)).Nodup := by
  have := (h.sure.map (·.1)).nodup_iff.2
  rw [List.map_map] at this
  exact this h.ok.sureS.nodup
theorem dget_map (φ : Nat → Nat) (k : ByteArray) (D : List (ByteArray × Nat)) : dget (D.map fun p => (p.1, φ p.2)) k = (dget D k).map φ := by
  rw [dget, dget, List.find?_map]
  show Option.map _ (Option.map _ (D.find? fun p => k == p.1)) = _
  cases D.find? fun p => k == p.1 <;> rfl
theorem SR.get (h : SR w s F a nb sb N S φ) (n : ByteArray) : dget N n = (dget a.dir n).map φ := by
  rw [dget_perm h.dirN h.now, dget_map]
theorem SR.len (h : SR w s F a nb sb N S φ) : N.length = a.dir.length := by rw [h.now.length_eq, List.length_map]

/-- A store's own words change. -/
theorem SR.scal (h : SR w s F a nb sb N S φ) (hm : Mod (on s) w w') (b : AS) (h1 : b.room = a.room) (h2 : b.all = a.all) (h3 : b.dir = a.dir) (h4 : b.sure = a.sure)
    (hc : w'.heap[s]? = some (.cells #[.int .i64 a.room, .map (some nb), .map (some sb), .bool b.dark, .int .i64 b.count, .int .i64 b.left, .int .i64 b.keep] 64 (0, 0))) : SR w' s F b nb sb N S φ := by
  have hns : nb ≠ s := fun e => by obtain ⟨_, _, hb, _⟩ := h.st.now; rw [e] at hb; have := h.st.cell; rw [this] at hb; cases hb
  have hbs : sb ≠ s := fun e => by obtain ⟨_, _, hb, _⟩ := h.st.sure; rw [e] at hb; have := h.st.cell; rw [this] at hb; cases hb
  have hfs : ∀ i, a.Live i → φ i ≠ s := fun i hi e => by obtain ⟨cs, hb⟩ := (h.file i hi).cell; rw [e] at hb; have := h.st.cell; rw [this] at hb; cases hb
  have hok := h.ok.of_eq h1 h2 h3 h4
  cases a; cases b
  simp only at h1 h2 h3 h4 hc
  subst h1; subst h2; subst h3; subst h4
  exact ⟨⟨hc, h.st.now.mod hm hns, h.st.sure.mod hm hbs⟩, h.now, h.sure, fun i hi => (h.file i hi).norow hm (hfs i hi) (fun k cs z hk hr => by cases hk; have := h.st.cell; rw [this] at hr; cases hr), h.inj, h.ne, hok, h.fs, h.fn, h.fb, h.ff⟩
/-- A file that lies there changes. -/
theorem SR.upd (h : SR w s F a nb sb N S φ) {i : Nat} (hi : a.Live i) (hm : Mod (on (φ i)) w w') (g : Bs × Bs → Bs × Bs) {F' : Nat → Prop} (hF : ∀ k, F k → F' k) (hf : FileAt w' F' (φ i) (g (a.file i)))
    (hl : (g (a.file i)).1.length ≤ 1073741824 ∧ (g (a.file i)).2.length ≤ 1073741824) : SR w' s F' (a.upd i g) nb sb N S φ := by
  obtain ⟨cs, hfc⟩ := (h.file i hi).cell
  have hia : i < a.all.length := by
    rcases hi with ⟨n, hn⟩ | ⟨n, hn⟩
    · exact h.ok.dirI _ hn
    · exact h.ok.sureI _ hn
  have hns : nb ≠ φ i := fun e => by obtain ⟨_, _, hb, _⟩ := h.st.now; rw [e, hfc] at hb; cases hb
  have hbs : sb ≠ φ i := fun e => by obtain ⟨_, _, hb, _⟩ := h.st.sure; rw [e, hfc] at hb; cases hb
  have hss : s ≠ φ i := fun e => by have hb := h.st.cell; rw [e, hfc] at hb; cases hb
  refine ⟨⟨hm.at h.st.cell hss, h.st.now.mod hm hns, h.st.sure.mod hm hbs⟩, h.now, h.sure, fun j hj => ?_, h.inj, h.ne, h.ok.upd i g ?_, hF _ h.fs, hF _ h.fn, hF _ h.fb, fun j hj => hF _ (h.ff j hj)⟩
  · rw [AS.file_upd hia]
    split
    · rename_i e; subst e; exact hf
    · rename_i e
      exact ((h.file j hj).norow hm (fun hk => e (h.inj _ _ hi hj hk.symm)) (fun k cs z hk hr => by cases hk; rw [hfc] at hr; cases hr)).mono hF
  · intro f hfm
    have : a.file i = f := by
      rw [AS.file]
      simp only [Option.mem_def] at hfm
      rw [hfm]; rfl
    rw [← this]; exact hl
/-- The directory changes. -/
theorem SR.dir (h : SR w s F a nb sb N S φ) (hm : Mod (on nb) w w') {D : List (ByteArray × Nat)} {N' : List (ByteArray × Nat)} (hN : MapAt w' nb (kvL Value.string (dirL N'))) (hp : N'.Perm (D.map fun p => (p.1, φ p.2)))
    (hD : ∀ n i, (n, i) ∈ D → a.Live i) (hok : ({ a with dir := D } : AS).Ok) : SR w' s F { a with dir := D } nb sb N' S φ := by
  obtain ⟨_, _, hb, _⟩ := h.st.now
  have hss : s ≠ nb := fun e => by have hc := h.st.cell; rw [e, hb] at hc; cases hc
  have hlive : ∀ i, ({ a with dir := D } : AS).Live i → a.Live i := fun i hi => by
    rcases hi with ⟨n, hn⟩ | ⟨n, hn⟩
    · exact hD n i hn
    · exact .inr ⟨n, hn⟩
  have hfs : ∀ i, a.Live i → φ i ≠ nb := fun i hi e => by obtain ⟨cs, hc⟩ := (h.file i hi).cell; rw [e, hb] at hc; cases hc
  exact ⟨⟨hm.at h.st.cell hss, hN, h.st.sure.mod hm fun e => h.ne e.symm⟩, hp, h.sure, fun i hi => (h.file i (hlive i hi)).norow hm (hfs i (hlive i hi)) (fun k cs z hk hr => by cases hk; rw [hb] at hr; cases hr), fun i j hi hj => h.inj i j (hlive i hi) (hlive j hj), h.ne, hok, h.fs, h.fn, h.fb, fun i hi => h.ff i (hlive i hi)⟩
end
end Go.Proofs.YtgjdandnncjegaaGreatDoor

/- Contract of word.Put. -/
namespace Go.Proofs.YtgjdandnncjegaaGreatDoor
open Go Go.Proofs.YtgjdandnncjegaaGreatDoor.St

/-- A row is made, with room behind it, and bytes are copied into it. -/
theorem mk_copy (w : World) {ba : Option Addr} {bl bc : Nat} {bs : Bs} (hr : Rd w ba bl bc bs) (x : Nat) (hn : bl + x ≤ 1099511627776) :
    ∃ w1 w2, (Instr.makeSlice 27 (.int .i64 (bl : Int)) (.int .i64 ((bl + x : Nat) : Int))).run Tryz.prog w = .ok (.slice (some ⟨w.heap.size, 0, none⟩) bl (bl + x)) w1 ∧
      (Builtin.copy_ #[27, 27] 3 #[.slice (some ⟨w.heap.size, 0, none⟩) bl (bl + x), .slice ba bl bc]).run Tryz.prog w1 = .ok (.int .i64 (bl : Int)) w2 ∧
      Els u8v 5 w2 (some ⟨w.heap.size, 0, none⟩) bl (bl + x) bs ∧ Mod no w w2 := by
  obtain ⟨ht, i, z, hi, hz, hs, hb, hzs⟩ := laidOk_of bytesLaid
  have hlen := hr.len
  have hbytes : (i.bytes : Int) * ((bl + x : Nat) : Int) ≤ 281474976710656 := by
    have h1 : i.bytes * (bl + x) ≤ 128 * 1099511627776 := Nat.mul_le_mul hb hn
    have h2 : ((i.bytes * (bl + x) : Nat) : Int) ≤ ((128 * 1099511627776 : Nat) : Int) := by exact_mod_cast h1
    rw [Int.natCast_mul] at h2
    omega
  have hm := run_make (P := Tryz.prog) w 27 5 i z ht hi hz .i64 .i64 (bl : Int) ((bl + x : Nat) : Int) (by omega) (by omega) hbytes (by omega)
  simp only [Int.toNat_natCast] at hm
  have hsz : (madeCells z.cells ((bl + x) * i.size)).size = bl + x := by simp [madeCells, hs]
  generalize madeCells z.cells ((bl + x) * i.size) = cur at hm hsz
  have hg := new_at w (.cells cur 5)
  have hmod : Mod no w (w.alloc (.cells cur 5)) := Mod.alloc _ _
  by_cases h0 : bl = 0
  · subst h0
    have hbs : bs = [] := List.eq_nil_of_length_eq_zero (by omega)
    subst hbs
    have hc := run_copy_none (P := Tryz.prog) (w.alloc (.cells cur 5)) 27 27 3 5 (some ⟨w.heap.size, 0, none⟩) ba 0 (0 + x) 0 bc ht (by rw [hi]; simp [hs]) rfl
    refine ⟨_, _, hm, hc, ⟨by simp, .inr ⟨w.heap.size, 0 + x, cur, rfl, Nat.zero_le _, hg, by omega, by simp [maxLen]; omega, by rw [hsz]; omega, by simp⟩⟩, hmod⟩
  · obtain ⟨ad, ha, _⟩ := hr.get (i := 0) (by omega)
    subst ha
    have hr1 := hr.no hmod
    have hc := run_copy_row (P := Tryz.prog) (w.alloc (.cells cur 5)) 27 27 3 5 w.heap.size 0 bl (bl + x) ad bl bc cur 5 (bs.map u8v) ht (by rw [hi]; simp [hs]) hg (by simp [hlen]) (hr1.all ad rfl) (by simp; omega) (fun v hv => by
      obtain ⟨y, _, rfl⟩ := List.mem_map.1 hv; exact u8one y)
    rw [show goInt (bs.map u8v).length = .int .i64 (bl : Int) by simp [goInt, hlen]] at hc
    refine ⟨_, _, hm, hc, ⟨by simp [hlen], .inr ⟨w.heap.size, bl + x, _, rfl, Nat.zero_le _, setRow_heap _ _ cur _ 5 _ hg, by omega, by simp [maxLen]; omega, ?_, ?_⟩⟩, hmod.new (S := fun k => k = w.heap.size) ⟨rfl, rfl, rfl, by simp, fun k _ hk => setRow_other _ _ k _ fun e => hk e⟩ fun k hk => by omega⟩
    · simp
      omega
    · simp [hlen]

theorem putN_get (i : Nat) : ∀ (k v : Nat), i < k → (putN k v)[i]? = some (UInt8.ofNat (v / 256 ^ (k - 1 - i) % 256))
  | 0, _, h => by omega
  | k + 1, v, h => by
    rw [putN]
    by_cases hi : i < k
    · rw [List.getElem?_append_left (by rw [putN_len]; exact hi), putN_get i k (v / 256) hi, Nat.div_div_eq_div_mul]
      have : k + 1 - 1 - i = (k - 1 - i) + 1 := by omega
      rw [this, Nat.pow_succ, Nat.mul_comm]
    · have : i = k := by omega
      subst this
      rw [List.getElem?_append_right (by rw [putN_len]; exact Nat.le_refl _), putN_len, Nat.sub_self]
      simp
theorem put_byte (v k i : Nat) (hk : k ≤ 8) (hi : i < k) :
    IntKind.u8.wrap (Int.fdiv (v : Int) (2 ^ min (Int.toNat (IntKind.i64.wrap (8 * IntKind.i64.wrap (IntKind.i64.wrap ((k : Int) - 1) - (i : Int))))) 64)) = ((UInt8.ofNat (v / 256 ^ (k - 1 - i) % 256)).toNat : Int) := by
  have e1 : IntKind.i64.wrap (8 * IntKind.i64.wrap (IntKind.i64.wrap ((k : Int) - 1) - (i : Int))) = ((8 * (k - 1 - i) : Nat) : Int) := by
    rw [wrap64 (x := (k : Int) - 1) (by omega) (by omega), wrap64 (x := (k : Int) - 1 - i) (by omega) (by omega), wrap64 (by omega) (by omega)]
    omega
  rw [e1, Int.toNat_natCast, Nat.min_eq_left (by omega)]
  have e2 : ((2 : Int) ^ (8 * (k - 1 - i))) = ((256 ^ (k - 1 - i) : Nat) : Int) := by
    rw [Int.pow_mul]
    simp
  rw [e2, Int.fdiv_eq_ediv_of_nonneg _ (Int.natCast_nonneg _), ← Int.natCast_ediv, IntKind.wrap_u8, UInt8.toNat_ofNat']
  omega
theorem put_ok {w : World} (hW : Wid w) {ba : Option Addr} {bl bc : Nat} {bs : Bs} (hr : Rd w ba bl bc bs) (hn : bl ≤ 1099511627000) (k : Nat) (hk : wOk k = true) (v : Nat) (R : Value → World → Prop)
    (hR : ∀ w' a c, Els u8v 5 w' a (bl + k) c (bs ++ putN k v) → Mod no w w' → (∀ j, rowB a j → w.heap.size ≤ j) → R (.slice a (bl + k) c) w') :
    Ca Tryz.prog 52 #[.slice ba bl bc, .int .i64 k, .int .u64 v] w R := by
  obtain ⟨hk1, hk8⟩ := wOk_le hk
  refine ca52 ba bl bc k v w R ?_
  obtain ⟨w1, w2, h1, h2, hels, hm2⟩ := mk_copy w hr 8 (by omega)
  rw [show ((bl + 8 : Nat) : Int) = IntKind.i64.wrap ((bl : Int) + 8) by rw [wrap64 (by omega) (by omega)]; omega] at h1
  refine ⟨_, _, h1, _, _, _, rfl, _, _, h2, _, rfl, ?_⟩
  refine good_width (hW.no hm2) k _ ⟨_, rfl, ?_⟩
  rw [hk]
  refine (ifK_of (fun h => by cases h) (fun _ => ?_) : ifK false _ _)
  refine ⟨fun a n c x w' => ∃ i : Nat, x = i ∧ i ≤ k ∧ n = bl + i ∧ Els u8v 5 w' a n c (bs ++ (putN k v).take i) ∧ Mod no w w' ∧ ∀ j, rowB a j → w.heap.size ≤ j, fun _ _ _ x _ => ((k : Int) - x).toNat,
    ⟨0, rfl, by omega, rfl, by simpa using hels, hm2, fun j hj => by simp [rowB] at hj; omega⟩, ?_⟩
  rintro _ a _ c _ w3 ⟨i, rfl, hi, rfl, h3, m3, hnew⟩
  refine ifK_dec (fun hlt => ?_) (fun hge => ?_)
  · have hik : i < k := by omega
    refine ⟨by rw [wrap64 (x := (k : Int) - 1) (by omega) (by omega), wrap64 (x := (k : Int) - 1 - i) (by omega) (by omega), wrap64 (by omega) (by omega)]; omega, ?_⟩
    rw [put_byte v k i hk8 hik]
    intro w4 e4
    have m4 : Mod no w3 w4 := by subst e4; exact Mod.alloc _ _
    have c4 : w4.heap[w3.heap.size]? = some (.cells #[u8v (UInt8.ofNat (v / 256 ^ (k - 1 - i) % 256))] 5 (0, 0)) := by subst e4; exact new_at _ _
    clear e4
    have h4 : Els u8v 5 w4 a (bl + i) c _ := els_mod h3 m4 fun _ _ => id
    obtain ⟨a', c', w5, hrun, h5, m5, hb⟩ := h4.push1 (P := Tryz.prog) (t := 27) (ty := 27) u8one bytesLaid c4 (by omega)
    refine ⟨_, w5, hrun, _, _, _, rfl, ⟨i + 1, ?_, by omega, by omega, ?_, (m3.trans m4).new m5 hnew, fun j hj => ?_⟩, ?_⟩
    · rw [wrap64 (by omega) (by omega)]; rfl
    · rw [List.append_assoc] at h5
      rwa [List.take_add_one, putN_get i k v hik]
    · have z := m3.size
      have z4 := m4.size
      rcases hb j hj with h | h
      · exact hnew j h
      · omega
    · rw [wrap64 (by omega) (by omega)]
      show ((k : Int) - ((i : Int) + 1)).toNat < ((k : Int) - (i : Int)).toNat
      omega
  · have : i = k := by omega
    subst this
    rw [List.take_of_length_le (by rw [putN_len]; omega)] at h3
    exact hR w3 a c h3 m3 hnew
end Go.Proofs.YtgjdandnncjegaaGreatDoor

/- Contracts of seal: Sum, Seal. -/
namespace Go.Proofs.YtgjdandnncjegaaGreatDoor
open Go Go.Proofs.YtgjdandnncjegaaGreatDoor.St

/-- A sum's step by one bit, and by one byte. -/
def bitS (r : Int) : Int := IntKind.u32.wrap ((BitVec.ofInt 32 (IntKind.u32.wrap (r * 2 ^ 1)) ^^^ BitVec.ofInt 32 (IntKind.u32.wrap ((BitVec.ofInt 32 1947962583 &&& BitVec.ofInt 32 (IntKind.u32.wrap (Int.fdiv (IntKind.i32.wrap r) (2 ^ 31)))).toNat : Int))).toNat : Int)
def bitsS : Nat → Int → Int
  | 0, r => r
  | k + 1, r => bitS (bitsS k r)
def inS (r : Int) (x : UInt8) : Int := IntKind.u32.wrap ((BitVec.ofInt 32 r ^^^ BitVec.ofInt 32 (IntKind.u32.wrap (IntKind.u32.wrap (x.toNat : Int) * 2 ^ 24))).toNat : Int)
def sumI (bs : Bs) : Int := bs.foldl (fun r x => bitsS 8 (inS r x)) 4294967295
theorem u32_bounds (x : Int) : 0 ≤ IntKind.u32.wrap x ∧ IntKind.u32.wrap x < 4294967296 := by rw [IntKind.wrap_u32]; omega
theorem bitsS_bounds (k : Nat) (r : Int) (h : 0 ≤ r ∧ r < 4294967296) : 0 ≤ bitsS k r ∧ bitsS k r < 4294967296 := by
  cases k with
  | zero => exact h
  | succ k => exact u32_bounds _
theorem sumI_snoc (bs : Bs) (x : UInt8) : sumI (bs ++ [x]) = bitsS 8 (inS (sumI bs) x) := by rw [sumI, List.foldl_append]; rfl
theorem sumI_bounds (bs : Bs) : 0 ≤ sumI bs ∧ sumI bs < 4294967296 := by
  rcases List.eq_nil_or_concat bs with rfl | ⟨l, x, rfl⟩
  · exact ⟨by decide, by decide⟩
  · rw [List.concat_eq_append, sumI_snoc]
    exact bitsS_bounds 8 _ (u32_bounds _)
def sumB (bs : Bs) : Nat := (sumI bs).toNat
theorem sumB_lt (bs : Bs) : sumB bs < 4294967296 := by have := sumI_bounds bs; rw [sumB]; omega
theorem sumB_eq (bs : Bs) : sumI bs = (sumB bs : Int) := by have := sumI_bounds bs; rw [sumB]; omega

theorem sum_ok {w : World} {ba : Option Addr} {bl bc : Nat} {bs : Bs} (hr : Rd w ba bl bc bs) (hn : bl < 4611686018427387904) (R : Value → World → Prop) (hR : R (.int .u32 (sumB bs : Int)) w) : Ca Tryz.prog 78 #[.slice ba bl bc] w R := by
  have hlen := hr.len
  refine ca78 ba bl bc w R ?_
  refine ⟨fun r x w' => ∃ i : Nat, x = i ∧ i ≤ bl ∧ r = sumI (bs.take i) ∧ w' = w, fun _ x _ => ((bl : Int) - x).toNat, ⟨0, rfl, by omega, rfl, rfl⟩, ?_⟩
  rintro _ _ _ _ ⟨i, rfl, hi, rfl, rfl⟩
  rename_i w
  refine ifK_dec (fun hlt => ?_) (fun hge => ?_)
  · have hib : i < bs.length := by omega
    obtain ⟨ad, ha, hc⟩ := hr.get hib
    refine ⟨ad, ha, by omega, by omega, (bs[i].toNat : Int), by rw [Int.toNat_natCast]; exact hc, by omega, ?_⟩
    refine ⟨fun r x w' => ∃ j : Nat, x = j ∧ j ≤ 8 ∧ r = bitsS j (inS (sumI (bs.take i)) bs[i]) ∧ w' = w, fun _ x _ => ((8 : Int) - x).toNat, ⟨0, rfl, by omega, rfl, rfl⟩, ?_⟩
    rintro _ _ _ _ ⟨j, rfl, hj, rfl, rfl⟩
    rename_i w
    refine ifK_dec (fun hlt8 => ?_) (fun hge8 => ?_)
    · have e1 : IntKind.i64.wrap ((j : Int) + 1) = ((j + 1 : Nat) : Int) := by rw [wrap64 (by omega) (by omega)]; rfl
      rw [e1]
      refine ⟨by omega, by omega, ⟨j + 1, rfl, by omega, rfl, rfl⟩, ?_⟩
      show ((8 : Int) - ((j + 1 : Nat) : Int)).toNat < ((8 : Int) - (j : Int)).toNat
      omega
    · have : j = 8 := by omega
      subst this
      have e1 : IntKind.i64.wrap ((i : Int) + 1) = ((i + 1 : Nat) : Int) := by rw [wrap64 (by omega) (by omega)]; rfl
      rw [e1]
      refine ⟨⟨i + 1, rfl, by omega, ?_, rfl⟩, ?_⟩
      · rw [List.take_succ_eq_append_getElem hib, sumI_snoc]
      · show ((bl : Int) - ((i + 1 : Nat) : Int)).toNat < ((bl : Int) - (i : Int)).toNat
        omega
  · rw [List.take_of_length_le (by omega), sumB_eq]
    exact hR
end Go.Proofs.YtgjdandnncjegaaGreatDoor

/- Contracts of seal: Seal, Open. -/
namespace Go.Proofs.YtgjdandnncjegaaGreatDoor
open Go Go.Proofs.YtgjdandnncjegaaGreatDoor.St

theorem Rd.nil0 (w : World) : Rd w none 0 0 [] := ⟨rfl, Nat.le_refl _, by omega, (fun _ h => by cases h), fun _ => ⟨rfl, rfl⟩⟩
theorem seal_ok {w : World} (hW : Wid w) {ba : Option Addr} {bl bc : Nat} {bs : Bs} (hr : Rd w ba bl bc bs) (hn : bl ≤ 1048576) (R : Value → World → Prop)
    (hR : ∀ w' a c, Els u8v 5 w' a (bl + 8) c (sealB sumB bs) → Mod no w w' → (∀ j, rowB a j → w.heap.size ≤ j) → R (.slice a (bl + 8) c) w') :
    Ca Tryz.prog 42 #[.slice ba bl bc] w R := by
  have hlen := hr.len
  refine ca42 ba bl bc w R ?_
  refine ifK_dec (fun h => by omega) (fun _ => ?_)
  have e1 : IntKind.u64.wrap (bl : Int) = ((bs.length : Nat) : Int) := by rw [IntKind.wrap_u64]; omega
  rw [e1]
  refine put_ok hW (Rd.nil0 w) (by omega) 4 rfl bs.length _ fun w1 a1 c1 r1 m1 n1 => ⟨_, _, _, rfl, ?_⟩
  rw [List.nil_append] at r1
  have hr1 := hr.no m1
  obtain ⟨a2, c2, w2, hrun, r2, m2, n2⟩ := r1.push (P := Tryz.prog) (t := 27) (ty := 27) u8one bytesLaid (b := ba) (m := bl) (cc := bc) (ys := bs) hlen hr1.all hr1.nil (by omega)
  have m02 : Mod no w w2 := m1.new m2 n1
  have n02 : ∀ j, rowB a2 j → w.heap.size ≤ j := fun j hj => (n2 j hj).elim (n1 j) fun h => Nat.le_trans m1.size h
  refine ⟨_, w2, hrun, _, _, _, rfl, ?_⟩
  refine sum_ok (Rd.of_els r2) (by omega) _ ⟨_, rfl, ?_⟩
  have hs := sumB_lt (putN 4 bs.length ++ bs)
  have e2 : IntKind.u64.wrap (sumB (putN 4 bs.length ++ bs) : Int) = ((sumB (putN 4 bs.length ++ bs) : Nat) : Int) := by rw [IntKind.wrap_u64]; omega
  rw [e2]
  refine put_ok (hW.no m02) (Rd.of_els r2) (by omega) 4 rfl _ _ fun w3 a3 c3 r3 m3 n3 => ⟨_, _, _, rfl, ?_⟩
  have e3 : 0 + 4 + bl + 4 = bl + 8 := by omega
  rw [e3] at r3 ⊢
  exact hR w3 a3 c3 r3 (m02.trans m3) fun j hj => Nat.le_trans m02.size (n3 j hj)
end Go.Proofs.YtgjdandnncjegaaGreatDoor

/- Maps whose keys are pointers to blocks of cells. It names no program. -/
namespace Go.Proofs.YtgjdandnncjegaaGreatDoor.St
open Go

/-- A pointer to a block. -/
def ptrV (b : Nat) : Value := .pointer (some ⟨b, 0, none⟩)
/-- There are cells. -/
def Cel (w : World) (b : Nat) : Prop := ∃ cs t, w.heap[b]? = some (.cells cs t (0, 0))

section
variable {P : Program} {kt te : TypeId}
theorem run_eq_ptr {w : World} {i : TypeInfo} (hp : P.underlying kt = some (.pointer te)) (hi : P.info? te = some i) (hsz : i.size ≠ 0) {a b : Nat} (ha : Cel w a) (hb : Cel w b) :
    (Op.equal kt (ptrV a) (ptrV b)).run P w = .ok (a == b) w := by
  obtain ⟨ca, ta, ha⟩ := ha
  obtain ⟨cb, tb, hb⟩ := hb
  by_cases e : a = b
  · subst e
    have h : ∀ d : Nat, (Op.equalIn (d + 1) kt (.pointer (some ⟨a, 0, none⟩)) (.pointer (some ⟨a, 0, none⟩))).run P w = .ok true w := fun d => by
      simp [Op.equalIn, run_underlying hp, sizeOf, typeInfo, hi, run_sameAddr_same]
    rw [beq_self_eq_true]
    exact h 9999
  · have hne : (⟨a, 0, none⟩ : Addr) ≠ ⟨b, 0, none⟩ := fun h => e (by injection h)
    have h : ∀ d : Nat, (Op.equalIn (d + 1) kt (.pointer (some ⟨a, 0, none⟩)) (.pointer (some ⟨b, 0, none⟩))).run P w = .ok false w := fun d => by
      simp [Op.equalIn, run_underlying hp, sizeOf, typeInfo, hi, hsz, run_sameAddr_other w hne ha hb]
    rw [beq_false_of_ne e]
    exact h 9999

theorem findAsking_ptr {w : World} {i : TypeInfo} (hp : P.underlying kt = some (.pointer te)) (hi : P.info? te = some i) (hsz : i.size ≠ 0) {k : Nat} (hk : Cel w k) :
    ∀ (es : List MapEntry) (L : List (Nat × Value)) (j : Nat), (∀ p ∈ L, Cel w p.1) → es.map (fun e => (e.key, e.val)) = kvL ptrV L → (Instr.findAsking kt (ptrV k) es j).run P w = .ok (posG k L j) w
  | [], [], _, _, _ => rfl
  | [], _ :: _, _, _, h => by simp [kvL] at h
  | _ :: _, [], _, _, h => by simp [kvL] at h
  | e :: es, p :: L, j, hc, h => by
    simp only [kvL, List.map_cons, List.cons.injEq, Prod.mk.injEq] at h
    obtain ⟨⟨hkk, hv⟩, ht⟩ := h
    simp only [Instr.findAsking, hkk]
    rw [Sem.run_bind, run_eq_ptr hp hi hsz hk (hc p (by simp))]
    cases hb : (k == p.1) with
    | true => simp [posG, hb, hv, Result.andThen]
    | false =>
      simp only [posG, hb, Result.andThen]
      exact findAsking_ptr hp hi hsz hk es L (j + 1) (fun q hq => hc q (by simp [hq])) ht

theorem keys_ptr (hp : P.underlying kt = some (.pointer te)) (hi : (P.info? te).map (fun i => Nat.beq i.size 0) = some false) : Keys P kt (κ := Nat) ptrV Cel := by
  obtain ⟨i, hi, hsz⟩ : ∃ i, P.info? te = some i ∧ i.size ≠ 0 := by
    cases h : P.info? te with
    | none => rw [h] at hi; cases hi
    | some i =>
      rw [h] at hi
      refine ⟨i, rfl, fun e => ?_⟩
      simp [e] at hi
  refine ⟨fun b k w => ?_, fun k L es w hg hG h => ?_, fun k w => ?_⟩
  · have h : ∀ n, (Instr.checkKey b (n + 1) kt (ptrV k)).run P w = .ok () w := by
      intro n
      simp [Instr.checkKey, run_underlying' hp, Result.andThen, ptrV]
    exact h 9999
  · have hf := findAsking_ptr hp hi hsz hg es L 0 hG h
    cases es with
    | nil =>
      cases L with
      | nil => simp [Instr.findKey, run_underlying' hp, Result.andThen, Instr.findNow, posG]
      | cons p L => simp [kvL] at h
    | cons e es =>
      have h1 : Instr.findNow (.pointer te) (ptrV k) (e :: es) 0 = none := by simp [Instr.findNow, Instr.sameNow]
      simp [Instr.findKey, run_underlying' hp, Result.andThen, h1, hf]
  · simp [Instr.keyThatStays, Instr.sameBits, ptrV]
end

/-- A set of blocks. -/
def setB (bs : List Nat) : List (Nat × Value) := bs.map fun b => (b, .bool true)
theorem getG_setB (bs : List Nat) (b : Nat) : getG b (setB bs) = if b ∈ bs then some (.bool true) else none := by
  induction bs with
  | nil => rfl
  | cons x r ih =>
    rw [getG, setB, List.map_cons, List.find?_cons]
    by_cases e : b = x
    · subst e; simp
    · have h1 : (b == x) = false := beq_false_of_ne e
      simp only [h1]
      rw [getG, setB] at ih
      rw [ih]
      simp [e]
theorem setG_setB (bs : List Nat) (b : Nat) : setG b (.bool true) (setB bs) = setB (if b ∈ bs then bs else bs ++ [b]) := by
  induction bs with
  | nil => rfl
  | cons x r ih =>
    rw [setB, List.map_cons, setG]
    by_cases e : b = x
    · subst e; simp [setB]
    · have h1 : (b == x) = false := beq_false_of_ne e
      rw [setB] at ih
      simp only [h1, Bool.false_eq_true, if_false, ih, List.mem_cons, e, false_or]
      by_cases hm : b ∈ r <;> simp [hm, setB]
end Go.Proofs.YtgjdandnncjegaaGreatDoor.St

/- The files of both directories, each told once; what a failure makes of them. -/
namespace Go.Proofs.YtgjdandnncjegaaGreatDoor
open Go Go.Proofs.YtgjdandnncjegaaGreatDoor.St

theorem keysFile : Keys Tryz.prog 78 (κ := Nat) ptrV Cel := keys_ptr Tryz.underlying78 (by kernel_rfl)
theorem zeroBool (w : World) : (zeroValue 4).run Tryz.prog w = .ok (.bool false) w := by
  have hi : (Tryz.prog.info? 4).bind (·.zero) = some (.bool false) := by kernel_rfl
  cases hh : Tryz.prog.info? 4 with
  | none => rw [hh] at hi; cases hi
  | some i =>
    rw [hh] at hi
    have hi : i.zero = some (.bool false) := hi
    simp [zeroValue, typeInfo, hh, hi]

theorem index2 {P : Program} {t e : TypeId} {i : TypeInfo} (w : World) (hu : P.underlying t = some (.array 2 e)) (hi : P.info? e = some i) (hs : i.size = 1) (ha : (isAgg e).run P w = .ok false w) (p q : Option Nat) (n : Nat) (hn : n < 2) :
    (Instr.index t (.agg #[.map p, .map q]) (.int .i64 n)).run P w = .ok (.map (if n = 0 then p else q)) w := by
  have h : n = 0 ∨ n = 1 := by omega
  rcases h with rfl | rfl
  · simp [Instr.index, asIntOf, run_underlying' hu, Result.andThen, part, ha, sizeOf, typeInfo, hi]
  · simp [Instr.index, asIntOf, run_underlying' hu, Result.andThen, part, ha, sizeOf, typeInfo, hi, hs]

theorem index_dirs (w : World) (p q : Option Nat) (n : Nat) (hn : n < 2) : (Instr.index 109 (.agg #[.map p, .map q]) (.int .i64 n)).run Tryz.prog w = .ok (.map (if n = 0 then p else q)) w := by
  have hi : (Tryz.prog.info? 62).map (fun i => Nat.beq i.size 1) = some true := by kernel_rfl
  obtain ⟨i, hi, hs⟩ : ∃ i, Tryz.prog.info? 62 = some i ∧ i.size = 1 := by
    cases h : Tryz.prog.info? 62 with
    | none => rw [h] at hi; cases hi
    | some i =>
      rw [h] at hi
      exact ⟨i, rfl, Nat.eq_of_beq_eq_true (by simpa using hi)⟩
  have ha : (isAgg 62).run Tryz.prog w = .ok false w := by
    simp [isAgg, run_underlying' Tryz.underlying62, Result.andThen]
  exact index2 w Tryz.underlying109 hi hs ha p q n hn

def sized (w : World) (it : Nat) (es : Array MapEntry) : Nat := match w.heap[it]? with | some (.mapIter _ _ seen _) => (leftOf es seen).size | _ => 0
theorem sized_of {w : World} {it : Nat} {es : Array MapEntry} {m since c0 : _} {seen : Array Nat} (h : w.heap[it]? = some (.mapIter m since seen c0)) : sized w it es = (leftOf es seen).size := by simp only [sized, h]

theorem files1_ok {w : World} {s bs : Nat} {x : Sto} (hs : StAt w s x) (hb : w.heap[bs]? = some (.cells #[.pointer (some ⟨s, 0, none⟩)] 24 (0, 0))) (y : Value) (U : Nat → Prop)
    (hU : ∀ k, U k → k < w.heap.size ∧ k ≠ s ∧ k ≠ x.nb ∧ k ≠ x.sb ∧ k ≠ bs) (J : List Nat → World → Prop) (hJ : ∀ l w1 w2, J l w1 → Mod (fun k => w.heap.size ≤ k) w1 w2 → J l w2) (h0 : J [] w)
    (hc : ∀ l w', J l w' → ∀ p, p ∈ x.now ∨ p ∈ x.sure → Cel w' p.2)
    (hy : ∀ pre b w', J pre w' → b ∉ pre → (∃ p, (p ∈ x.now ∨ p ∈ x.sure) ∧ p.2 = b) → ∀ R' : Value → World → Prop, (∀ w'', Mod U w' w'' → J (pre ++ [b]) w'' → R' (.bool true) w'') → CaV Tryz.prog y #[ptrV b] w' R')
    (R : Value → World → Prop) (h : ∀ w' l, J l w' → (∀ p, p ∈ x.now ∨ p ∈ x.sure → p.2 ∈ l) → Mod (fun k => U k ∨ w.heap.size ≤ k) w w' → R (.tuple #[]) w') :
    CaV Tryz.prog (.func (.func 85) #[] #[.pointer (some ⟨bs, 0, none⟩)]) #[y] w R := by
  refine (ca85 y (some ⟨bs, 0, none⟩) w R ?_ : Ca _ _ _ _ _)
  intro w0 e0
  have m0 : Mod no w w0 := by subst e0; exact Mod.alloc _ _
  have t0 : MapAt w0 w.heap.size (kvL ptrV (setB [])) := by subst e0; exact MapAt.new w
  have s0 : w0.heap.size = w.heap.size + 1 := by subst e0; simp
  clear e0
  intro w1 e1
  have m1 : Mod no w w1 := by subst e1; exact m0.trans (Mod.drew _)
  have t1 : MapAt w1 w.heap.size (kvL ptrV (setB [])) := by subst e1; exact t0.mod (Mod.drew _) id
  have s1 : w1.heap.size = w.heap.size + 1 := by subst e1; exact s0
  clear e1 m0 t0 s0
  have hs1 := hs.no m1
  have hb1 := m1.at' hb
  refine ⟨some ⟨s, 0, none⟩, by rw [cl hb1]; rfl, some x.nb, by rw [cl1 hs1.cell]; rfl, some ⟨s, 0, none⟩, by rw [cl hb1]; rfl, some x.sb, by rw [cl1 hs1.cell]; rfl, ?_⟩
  have hslt := lt_of_heap hs.cell
  have hnlt := hs.now.lt
  have hblt := hs.sure.lt
  -- what holds all along
  let Iv : List Nat → World → Prop := fun pre w' => J pre w' ∧ Mod (fun k => U k ∨ w.heap.size ≤ k) w w' ∧ MapAt w' w.heap.size (kvL ptrV (setB pre)) ∧ w.heap.size < w'.heap.size ∧ ∀ b ∈ pre, ∃ p, (p ∈ x.now ∨ p ∈ x.sure) ∧ p.2 = b
  have Iv_new : ∀ {pre w' w''} {T : Nat → Prop}, Iv pre w' → Mod T w' w'' → (∀ k, T k → w.heap.size < k) → Iv pre w'' := fun {pre w' w''} {T} hI hm hT =>
    ⟨hJ _ _ _ hI.1 (hm.mono fun k _ hk => Nat.le_of_lt (hT k hk)), hI.2.1.trans (hm.mono fun k _ hk => .inr (Nat.le_of_lt (hT k hk))), hI.2.2.1.mod hm fun hk => Nat.lt_irrefl _ (hT _ hk), Nat.lt_of_lt_of_le hI.2.2.2.1 hm.size, hI.2.2.2.2⟩
  refine ⟨fun i w' => ∃ (n : Nat) (pre : List Nat), i = n ∧ n ≤ 2 ∧ Iv pre w' ∧ (1 ≤ n → ∀ p ∈ x.now, p.2 ∈ pre) ∧ (2 ≤ n → ∀ p ∈ x.sure, p.2 ∈ pre), fun i _ => (2 - i).toNat,
    ⟨0, [], rfl, by decide, ⟨hJ _ _ _ h0 (m1.mono fun _ _ h => h.elim), m1.of_no, t1, by omega, fun b hb => by simp at hb⟩, fun h => by omega, fun h => by omega⟩, ?_⟩
  rintro _ _ w4 ⟨n, pre0, rfl, hn, hI4, hnow, hsure⟩
  refine ifK_dec (fun hlt => ?_) (fun hge => ?_)
  · have hn2 : n < 2 := by omega
    refine ⟨_, w4, index_dirs w4 _ _ n hn2, _, rfl, ?_⟩
    have e1 : IntKind.i64.wrap ((n : Int) + 1) = ((n + 1 : Nat) : Int) := by rw [wrap64 (by omega) (by omega)]; rfl
    rw [e1]
    clear e1
    obtain ⟨mb, D, hmb, hD, hmbU, hmblt, hDx, hDn⟩ : ∃ mb D, (if n = 0 then some x.nb else some x.sb) = some mb ∧ MapAt w mb (kvL Value.string (dirL D)) ∧ ¬ U mb ∧ mb < w.heap.size ∧ (∀ p ∈ D, p ∈ x.now ∨ p ∈ x.sure) ∧
        (∀ pre : List Nat, (∀ b ∈ pre0, b ∈ pre) → (∀ p ∈ D, p.2 ∈ pre) → (1 ≤ n + 1 → ∀ p ∈ x.now, p.2 ∈ pre) ∧ (2 ≤ n + 1 → ∀ p ∈ x.sure, p.2 ∈ pre)) := by
      by_cases h0 : n = 0
      · rw [if_pos h0]
        exact ⟨x.nb, x.now, rfl, hs.now, fun hu => (hU _ hu).2.2.1 rfl, hnlt, fun p hp => .inl hp, fun pre _ hd => ⟨fun _ => hd, fun h => by omega⟩⟩
      · rw [if_neg h0]
        exact ⟨x.sb, x.sure, rfl, hs.sure, fun hu => (hU _ hu).2.2.2.1 rfl, hblt, fun p hp => .inr hp, fun pre hp hd => ⟨fun _ p hpn => hp _ (hnow (by omega) p hpn), fun _ => hd⟩⟩
    rw [hmb]
    obtain ⟨es, clock, hes, hkv, hnd, hcl⟩ := hD
    have esAt : ∀ {pre w'}, Iv pre w' → w'.heap[mb]? = some (.map es clock) := fun hI => hI.2.1.at hes fun h => h.elim hmbU fun h => by omega
    have hval : ∀ e ∈ es.toList, ∃ p ∈ D, e.val = ptrV p.2 := by
      intro e he
      have : (e.key, e.val) ∈ kvL Value.string (dirL D) := by rw [← hkv]; exact List.mem_map.2 ⟨e, he, rfl⟩
      simp only [kvL, dirL, List.map_map, List.mem_map, Function.comp, Prod.mk.injEq] at this
      obtain ⟨p, hp, _, hv⟩ := this
      exact ⟨p, hp, hv.symm⟩
    have hvals : ∀ p ∈ D, ∃ e ∈ es.toList, e.val = ptrV p.2 := by
      intro p hp
      have : (Value.string p.1, ptrV p.2) ∈ es.toList.map (fun e => (e.key, e.val)) := by
        rw [hkv, kvL, dirL, List.map_map]
        exact List.mem_map.2 ⟨p, hp, rfl⟩
      obtain ⟨e, he, hv⟩ := List.mem_map.1 this
      injection hv with _ hv
      exact ⟨e, he, hv⟩
    refine ⟨es, clock, esAt hI4, ?_⟩
    intro w5 e5
    have m5 : Mod no w4 w5 := by subst e5; exact Mod.alloc _ _
    have b5 : w5.heap[w4.heap.size]? = some (.mapIter (some mb) clock #[] clock) := by subst e5; exact new_at _ _
    clear e5
    have hI5 := Iv_new hI4 m5 fun k hk => hk.elim
    have hitlt : w.heap.size < w4.heap.size := hI4.2.2.2.1
    refine ⟨fun w' => ∃ (seen : Array Nat) (c0 : Nat) (got : List MapEntry) (pre : List Nat), w'.heap[w4.heap.size]? = some (.mapIter (some mb) clock seen c0) ∧ clock ≤ c0 ∧ (got ++ (leftOf es seen).toList).Perm es.toList ∧ Iv pre w' ∧
        (∀ b ∈ pre0, b ∈ pre) ∧ ∀ e ∈ got, ∃ b ∈ pre, e.val = ptrV b,
      fun w' => sized w' w4.heap.size es, ⟨#[], clock, [], pre0, b5, Nat.le_refl _, by simp only [leftOf, Array.toList_filter, List.nil_append]; exact .of_eq (List.filter_eq_self.2 (by simp)), hI5, fun _ h => h, fun e he => by simp at he⟩, ?_⟩
    rintro _ w7 ⟨seen, c0, got, pre, hit, hcc, hperm, hI7, hpre, hgot⟩
    rcases next_at (P := Tryz.prog) (ty := 0) hit (esAt hI7) hcl hcc with ⟨hz, hrun⟩ | ⟨e, he, w8, hrun, m8, hit8⟩
    · refine ⟨_, w7, hrun, .inl ⟨rfl, ?_⟩⟩
      have hl : (leftOf es seen).toList = [] := List.eq_nil_of_length_eq_zero (by simpa using hz)
      rw [hl, List.append_nil] at hperm
      have hd : ∀ p ∈ D, p.2 ∈ pre := fun p hp => by
        obtain ⟨e, he, hv⟩ := hvals p hp
        obtain ⟨b, hb, hv'⟩ := hgot e (hperm.mem_iff.2 he)
        rw [hv] at hv'
        injection hv' with hv'; injection hv' with hv'; injection hv' with hv'
        rw [hv']; exact hb
      obtain ⟨q1, q2⟩ := hDn pre hpre hd
      exact ⟨⟨n + 1, pre, rfl, by omega, hI7, q1, q2⟩, by simp only; omega⟩
    · refine ⟨_, w8, hrun, .inr ⟨_, _, rfl, ?_⟩⟩
      have hmem := (mem_left he).1
      have hI8 := Iv_new hI7 m8 fun k hk => by cases hk; exact hitlt
      refine ⟨e.key, e.val, entry_at hit8 (esAt hI8) hmem hnd, ?_⟩
      obtain ⟨p, hp, hv⟩ := hval e hmem
      rw [hv]
      have hcel8 := hc _ _ hI8.1
      have hlk := lookup_k keysFile Tryz.underlying108 zeroBool hI8.2.2.1 p.2 (hcel8 p (hDx p hp)) (fun q hq => by
        obtain ⟨b, hb, rfl⟩ := List.mem_map.1 hq
        obtain ⟨p', hp', e'⟩ := hI8.2.2.2.2 b hb
        rw [← e']
        exact hcel8 p' hp') false
      rw [getG_setB] at hlk
      have hperm' : ((got ++ [e]) ++ (leftOf es (seen.push e.born)).toList).Perm es.toList := by
        rw [List.append_assoc]
        exact ((List.Perm.append_left got (left_perm hnd he)).symm).trans hperm
      have upd : ∀ {w9 pre'}, Iv pre' w9 → (∃ w10, (Instr.mapUpdate 108 (.map (some w.heap.size)) (ptrV p.2) (.bool true)).run Tryz.prog w9 = .ok () w10 ∧ Mod (on w.heap.size) w9 w10 ∧ MapAt w10 w.heap.size (kvL ptrV (setB (if p.2 ∈ pre' then pre' else pre' ++ [p.2])))) := by
        intro w9 pre' hI9
        have hcel9 := hc _ _ hI9.1
        obtain ⟨w10, q1, q2, q3⟩ := update_k keysFile Tryz.underlying108 hI9.2.2.1 p.2 (hcel9 p (hDx p hp)) (fun q hq => by
          obtain ⟨b, hb, rfl⟩ := List.mem_map.1 hq
          obtain ⟨p', hp', e'⟩ := hI9.2.2.2.2 b hb
          rw [← e']
          exact hcel9 p' hp') (.bool true)
        rw [setG_setB] at q3
        exact ⟨w10, q1, q2, q3⟩
      by_cases hin : p.2 ∈ pre
      · rw [if_pos hin] at hlk
        refine ⟨_, w8, hlk, true, rfl, (ifK_of (fun h => by cases h) (fun _ => ?_) : ifK false _ _)⟩
        obtain ⟨w10, q1, q2, q3⟩ := upd hI8
        rw [if_pos hin] at q3
        have hit10 := q2.at hit8 (fun hk => by have hk : w4.heap.size = w.heap.size := hk; omega)
        refine ⟨w10, q1, ⟨seen.push e.born, clock, got ++ [e], pre, hit10, Nat.le_refl _, hperm', ⟨hJ _ _ _ hI8.1 (q2.mono fun k _ hk => by cases hk; exact Nat.le_refl _), hI8.2.1.trans (q2.mono fun k _ hk => by cases hk; exact .inr (Nat.le_refl _)), q3, Nat.lt_of_lt_of_le hI8.2.2.2.1 q2.size, hI8.2.2.2.2⟩, hpre, ?_⟩, ?_⟩
        · intro e' he'
          rcases List.mem_append.1 he' with h | h
          · exact hgot e' h
          · simp only [List.mem_singleton] at h; subst h; exact ⟨p.2, hin, hv⟩
        · simp only [sized_of hit10, sized_of hit]
          exact left_shrinks es seen e he
      · rw [if_neg hin] at hlk
        refine ⟨_, w8, hlk, false, rfl, (ifK_of (fun _ => ?_) (fun h => by cases h) : ifK true _ _)⟩
        refine hy pre p.2 w8 hI8.1 hin ⟨p, hDx p hp, rfl⟩ _ fun w9 m9 hJ9 => ⟨true, rfl, (ifK_of (fun h => by cases h) (fun _ => ?_) : ifK false _ _)⟩
        have t9 : MapAt w9 w.heap.size (kvL ptrV (setB pre)) := hI8.2.2.1.mod m9 fun hu => Nat.lt_irrefl _ (hU _ hu).1
        have hcel9 := hc _ _ hJ9
        obtain ⟨w10, q1, q2, q3⟩ := update_k keysFile Tryz.underlying108 t9 p.2 (hcel9 p (hDx p hp)) (fun q hq => by
          obtain ⟨b, hb, rfl⟩ := List.mem_map.1 hq
          obtain ⟨p', hp', e'⟩ := hI8.2.2.2.2 b hb
          rw [← e']
          exact hcel9 p' hp') (.bool true)
        rw [setG_setB, if_neg hin] at q3
        have hit10 := q2.at (m9.at hit8 fun hu => by have := (hU _ hu).1; omega) (fun hk => by have hk : w4.heap.size = w.heap.size := hk; omega)
        refine ⟨w10, q1, ⟨seen.push e.born, clock, got ++ [e], pre ++ [p.2], hit10, Nat.le_refl _, hperm', ⟨hJ _ _ _ hJ9 (q2.mono fun k _ hk => by cases hk; exact Nat.le_refl _), (hI8.2.1.trans (m9.mono fun k _ hk => .inl hk)).trans (q2.mono fun k _ hk => by cases hk; exact .inr (Nat.le_refl _)), q3, Nat.lt_of_lt_of_le (Nat.lt_of_lt_of_le hI8.2.2.2.1 m9.size) q2.size, ?_⟩, fun b hb => List.mem_append_left _ (hpre b hb), ?_⟩, ?_⟩
        · intro b hb
          rcases List.mem_append.1 hb with h | h
          · exact hI8.2.2.2.2 b h
          · simp only [List.mem_singleton] at h; subst h; exact ⟨p, hDx p hp, rfl⟩
        · intro e' he'
          rcases List.mem_append.1 he' with h | h
          · obtain ⟨b, hb, hv'⟩ := hgot e' h
            exact ⟨b, List.mem_append_left _ hb, hv'⟩
          · simp only [List.mem_singleton] at h; subst h; exact ⟨p.2, by simp, hv⟩
        · simp only [sized_of hit10, sized_of hit]
          exact left_shrinks es seen e he
  · have hn2 : n = 2 := by omega
    subst hn2
    exact h w4 pre0 hI4.1 (fun p hp => hp.elim (hnow (by decide) p) (hsure (by decide) p)) hI4.2.1
end Go.Proofs.YtgjdandnncjegaaGreatDoor

/- The power is off: what Fail makes of a store. -/
namespace Go.Proofs.YtgjdandnncjegaaGreatDoor
open Go Go.Proofs.YtgjdandnncjegaaGreatDoor.St

theorem keepN {f1 f2 : Nat} (keep : Int) (h1 : f1 ≤ 1073741824) (h2 : f2 ≤ f1) :
    IntKind.wrap IntKind.i64 ((f2 : Int) + if IntKind.wrap IntKind.i64 ((f1 : Int) - (f2 : Int)) < if 0 > keep then 0 else keep then IntKind.wrap IntKind.i64 ((f1 : Int) - (f2 : Int)) else if 0 > keep then 0 else keep) = ((f2 + min keep.toNat (f1 - f2) : Nat) : Int) := by
  rw [wrap64 (x := (f1 : Int) - (f2 : Int)) (by omega) (by omega)]
  have : (if (f1 : Int) - (f2 : Int) < if 0 > keep then 0 else keep then (f1 : Int) - (f2 : Int) else if 0 > keep then 0 else keep) = ((min keep.toNat (f1 - f2) : Nat) : Int) := by
    split <;> split <;> omega
  rw [this, wrap64 (by omega) (by omega)]
  omega

theorem FileAt.old {w : World} {F : Nat → Prop} {b : Nat} {f : Bs × Bs} (h : FileAt w F b f) : FileAt w (fun k => F k ∧ k < w.heap.size) b f :=
  let ⟨a, c, a', c', h1, h2, h3, h4, h5⟩ := h
  ⟨a, c, a', c', h1, h2, h3, fun k hk => ⟨h4 k hk, let ⟨_, hc⟩ := els_row h2 hk; lt_of_heap hc⟩, fun k hk => ⟨h5 k hk, let ⟨_, hc⟩ := els_row h3 hk; lt_of_heap hc⟩⟩
theorem sl0 {a : Option Addr} {c : Nat} {i : Int} : (Value.slice (if c = 0 then a else Option.map (fun x => Addr.add x 0) a) (Int.toNat i - 0) (c - 0)) = Value.slice a i.toNat c := by
  rw [sub0]; rfl

theorem setFile {w : World} {b : Nat} {cs : Array Value} {t : TypeId} (h : w.heap[b]? = some (.cells cs t (0, 0))) (i : Nat) (hi : i < cs.size) (v : Value) :
    (∃ u, w.cell? (Addr.add (Addr.add ⟨b, 0, none⟩ i) 0) = some u) ∧ w.frozen? (Addr.add (Addr.add ⟨b, 0, none⟩ i) 0) = false ∧ Mod (on b) w (w.setCell (Addr.add (Addr.add ⟨b, 0, none⟩ i) 0) v) ∧
      (w.setCell (Addr.add (Addr.add ⟨b, 0, none⟩ i) 0) v).heap[b]? = some (.cells (cs.setIfInBounds i v) t (0, 0)) :=
  ⟨⟨_, by rw [cl2 h]; exact Array.getElem?_eq_getElem hi⟩, fz2 h _ _, Mod.set2 _ _ _ _ _, set2 h _ _ _⟩

theorem fail_ok {w : World} {s : Nat} {F : Nat → Prop} {a : AS} {nb sb : Nat} {N S : List (ByteArray × Nat)} {φ : Nat → Nat} (h : SR w s F a nb sb N S φ) (keep : Int) (R : Value → World → Prop)
    (hR : ∀ w', StP s F w (a.fail keep) w' → R (.tuple #[]) w') : Ca Tryz.prog 26 #[.pointer (some ⟨s, 0, none⟩), .int .i64 keep] w R := by
  refine ca26 _ keep w R ?_
  intro w0 e0
  have m0 : Mod no w w0 := by subst e0; exact Mod.alloc _ _
  have k0 : w0.heap[w.heap.size]? = some (.cells #[.int .i64 keep] 3 (0, 0)) := by subst e0; exact new_at _ _
  have z0 : w0.heap.size = w.heap.size + 1 := by subst e0; simp
  clear e0
  have h0 := h.no m0
  refine on_ok s _ w0 h0.st _ ⟨_, rfl, ?_⟩
  simp only
  cases hd : a.dark with
  | true =>
    refine (ifK_of (fun _ => ?_) (fun h => by cases h) : ifK true _ _)
    refine hR w0 (StP.of_no ⟨nb, sb, N, S, φ, ?_⟩ m0)
    rw [AS.fail, if_pos hd]
    exact h
  | false =>
  refine (ifK_of (fun h => by cases h) (fun _ => ?_) : ifK false _ _)
  refine ca63 _ w0 _ ?_
  intro w5 e5
  have m5 : Mod no w0 w5 := by subst e5; exact Mod.alloc _ _
  have c5 : w5.heap[w0.heap.size]? = some (.cells #[.pointer (some ⟨s, 0, none⟩)] 24 (0, 0)) := by subst e5; exact new_at _ _
  have z5 : w5.heap.size = w.heap.size + 2 := by subst e5; simp; omega
  clear e5
  have h5 := h0.no m5
  have k5 := m5.at' k0
  have m05 := m0.trans m5
  refine ⟨_, rfl, ⟨_, _, _, rfl⟩, ?_⟩
  intro Rdy Bsy hrs hbs hrb w1 m1 z1 hr1 hyd
  have h1 := h5.no m1
  have k1 := m1.at' k5
  have c1 := m1.at' c5
  have m01 := m05.trans m1
  have hrec : ∀ w', Rdy w' ∨ Bsy w' → ∀ k cs t fz, w'.heap[k]? = some (.cells cs t fz) → k ≠ w5.heap.size ∧ k ≠ w5.heap.size + 1 := by
    intro w' hw k cs t fz hk
    obtain ⟨g1, r, g2⟩ := hrb w' hw
    exact ⟨fun e => (by rw [e, g1] at hk; cases hk), fun e => (by rw [e, g2] at hk; cases hk)⟩
  have hslt := lt_of_heap h.st.cell
  have hnlt : nb < w.heap.size := h.st.now.lt
  have hblt : sb < w.heap.size := h.st.sure.lt
  have hflt : ∀ i, a.Live i → φ i < w.heap.size := fun i hi => let ⟨_, hc⟩ := (h.file i hi).cell; lt_of_heap hc
  -- what a round may change
  let U : Nat → Prop := fun k => (∃ i, a.Live i ∧ k = φ i) ∨ k = w5.heap.size + 1
  have hUs : ∀ i, a.Live i → φ i ≠ s ∧ φ i ≠ nb ∧ φ i ≠ sb := by
    intro i hi
    obtain ⟨cs, hc⟩ := (h.file i hi).cell
    obtain ⟨_, _, hb1, _⟩ := h.st.now
    obtain ⟨_, _, hb2, _⟩ := h.st.sure
    refine ⟨fun e => ?_, fun e => ?_, fun e => ?_⟩
    · rw [e, h.st.cell] at hc; cases hc
    · rw [e, hb1] at hc; cases hc
    · rw [e, hb2] at hc; cases hc
  have hUk : ∀ k, U k → k < w1.heap.size ∧ k ≠ s ∧ k ≠ nb ∧ k ≠ sb ∧ k ≠ w0.heap.size ∧ k ≠ w.heap.size := by
    rintro k (⟨i, hi, rfl⟩ | rfl)
    · have := hflt i hi
      have := hUs i hi
      exact ⟨by omega, this.1, this.2.1, this.2.2, by omega, by omega⟩
    · exact ⟨by omega, by omega, by omega, by omega, by omega, by omega⟩
  let F0 : Nat → Prop := fun k => F k ∧ k < w1.heap.size
  let J : List Nat → World → Prop := fun l w' => Rdy w' ∧ Mod (fun k => U k ∨ w1.heap.size ≤ k) w1 w' ∧ ∀ i, a.Live i → FileAt w' F0 (φ i) (if φ i ∈ l then failF keep (a.file i) else a.file i)
  have hJst : ∀ l w2 w3, J l w2 → Mod (fun k => w1.heap.size ≤ k) w2 w3 → J l w3 := by
    rintro l w2 w3 ⟨g1, g2, g3⟩ hm
    obtain ⟨d1, r, d2⟩ := hrb w2 (.inl g1)
    refine ⟨hrs w2 w3 g1 (by rw [hm.at d1 (by omega), d1]) (by rw [hm.at d2 (by omega), d2]), g2.trans (hm.mono fun k _ hk => .inr hk), fun i hi => ?_⟩
    have := hflt i hi
    exact (g3 i hi).mod hm (by omega) fun k hk => by have := hk.2; omega
  have hlive : ∀ p, p ∈ N ∨ p ∈ S → ∃ i, a.Live i ∧ p.2 = φ i := by
    rintro p (hp | hp)
    · obtain ⟨q, hq, rfl⟩ := List.mem_map.1 (h.now.mem_iff.1 hp)
      exact ⟨q.2, .inl ⟨q.1, hq⟩, rfl⟩
    · obtain ⟨q, hq, rfl⟩ := List.mem_map.1 (h.sure.mem_iff.1 hp)
      exact ⟨q.2, .inr ⟨q.1, hq⟩, rfl⟩
  have hlive' : ∀ i, a.Live i → ∃ p, (p ∈ N ∨ p ∈ S) ∧ p.2 = φ i := by
    rintro i (⟨n, hn⟩ | ⟨n, hn⟩)
    · exact ⟨(n, φ i), .inl (h.now.mem_iff.2 (List.mem_map.2 ⟨_, hn, rfl⟩)), rfl⟩
    · exact ⟨(n, φ i), .inr (h.sure.mem_iff.2 (List.mem_map.2 ⟨_, hn, rfl⟩)), rfl⟩
  refine files1_ok h1.st c1 _ U (fun k hk => let ⟨q1, q2, q3, q4, q5, _⟩ := hUk k hk; ⟨q1, q2, q3, q4, q5⟩) J hJst ⟨hr1, Mod.refl _ _, fun i hi => by simpa using (h1.file i hi).old⟩ ?_ ?_ _ ?_
  · rintro l w' hJ p hp
    obtain ⟨i, hi, e⟩ := hlive p hp
    rw [e]
    obtain ⟨cs, hc⟩ := (hJ.2.2 i hi).cell
    exact ⟨cs, _, hc⟩
  · rintro pre b w2 ⟨hr2, m2, hf2⟩ hpre ⟨p, hp, rfl⟩ R' hR'
    obtain ⟨i, hi, e⟩ := hlive p hp
    rw [e] at hpre hR' ⊢
    refine (hyd (ptrV (φ i)) w2 (fun w3 => R' (.bool true) w3) hr2 ?_).mono fun v w3 ⟨hv, hR⟩ => by rw [hv]; exact hR
    refine ⟨hr2, fun w3 hb3 m3 z3 => ?_⟩
    have hfi := hf2 i hi
    rw [if_neg hpre] at hfi
    have hreci : ∀ k, k = w5.heap.size + 1 → k ≠ φ i ∧ ¬ F0 k ∨ True := fun _ _ => .inr trivial
    clear hreci
    obtain ⟨g1, r, g2⟩ := hrb w2 (.inl hr2)
    have nrow : NoRow w2 (fun k => k = w5.heap.size + 1) := fun k cs z hk hr => by cases hk; rw [g2] at hr; cases hr
    have hne : φ i ≠ w5.heap.size + 1 ∧ φ i ≠ w5.heap.size := by have := hflt i hi; omega
    have hf3 : FileAt w3 F0 (φ i) (a.file i) := hfi.norow m3 hne.1 nrow
    have k3 : w3.heap[w.heap.size]? = some (.cells #[.int .i64 keep] 3 (0, 0)) := m3.at (m2.at k1 fun hk => hk.elim (fun hk => (hUk _ hk).2.2.2.2.2 rfl) (fun hk => by have := hk; omega)) (by omega)
    -- how a round ends
    have fin : ∀ w8, Mod (on (φ i)) w3 w8 → FileAt w8 F0 (φ i) (failF keep (a.file i)) → Bsy w8 ∧ ∀ w9, Rdy w9 → Mod (fun k => k = w5.heap.size + 1) w8 w9 → w9.heap.size = w8.heap.size → R' (.bool true) w9 := by
      intro w8 m8 hf8
      obtain ⟨d1, r, d2⟩ := hrb w3 (.inr hb3)
      have d1' := m8.at d1 fun hk => hne.2 hk.symm
      have d2' := m8.at d2 fun hk => hne.1 hk.symm
      refine ⟨hbs w3 w8 hb3 (by rw [d1', d1]) (by rw [d2', d2]), fun w9 hr9 m9 z9 => ?_⟩
      have nrow8 : NoRow w8 (fun k => k = w5.heap.size + 1) := fun k cs z hk hr => by cases hk; rw [d2'] at hr; cases hr
      have mAll : Mod U w2 w9 := ((m3.mono fun k _ hk => .inr hk).trans (m8.mono fun k _ hk => .inl ⟨i, hi, hk⟩)).trans (m9.mono fun k _ hk => .inr hk)
      refine hR' w9 mAll ⟨hr9, m2.trans (mAll.mono fun k _ hk => .inl hk), fun j hj => ?_⟩
      by_cases ej : j = i
      · subst ej
        rw [if_pos (by simp)]
        exact hf8.norow m9 hne.1 nrow8
      · have hne' : φ j ≠ φ i := fun e => ej (h.inj _ _ hj hi e)
        have hin : (φ j ∈ pre ++ [φ i]) = (φ j ∈ pre) := by simp [hne']
        simp only [hin]
        have hjne := hflt j hj
        have hj3 := (hf2 j hj).norow m3 (by omega) nrow
        have nrow3 : NoRow w3 (on (φ i)) := fun k cs z hk hr => by cases hk; obtain ⟨cs', hc⟩ := hf3.cell; rw [hc] at hr; cases hr
        exact (hj3.norow m8 hne' nrow3).norow m9 (by omega) nrow8
    clear hR' hyd
    obtain ⟨pa, ca, pb, cb, hb, ha, hb', hra, hrb'⟩ := hf3
    obtain ⟨hl1, hl2⟩ := h.ok.flen i
    generalize hf : a.file i = f at *
    obtain ⟨f1, f2⟩ := f
    simp only at hl1 hl2 hb ha hb' fin ⊢
    refine ⟨pb, f2.length, cb, by rw [cl1 hb]; rfl, fun w4 e4 => ?_⟩
    have m4 : Mod no w3 w4 := by subst e4; exact Mod.drew _
    clear e4
    have b4 := m4.at' hb
    refine ⟨pa, f1.length, ca, by rw [cl1 b4]; rfl, ?_⟩
    -- where the bytes that are sure stay
    have plain : ∀ w6, Mod no w3 w6 → failF keep (f1, f2) = (f2, f2) → ∃ p54 n55 n56, w6.cell? (Addr.add ⟨φ i, 0, none⟩ 1) = some (.slice p54 n55 n56) ∧ (∃ v58 : Value, w6.cell? (Addr.add (Addr.add ⟨φ i, 0, none⟩ 0) 0) = some v58) ∧
        w6.frozen? (Addr.add (Addr.add ⟨φ i, 0, none⟩ 0) 0) = false ∧ atW (w6.setCell (Addr.add (Addr.add ⟨φ i, 0, none⟩ 0) 0) (.slice p54 n55 n56)) fun w7 => Bsy w7 ∧ ∀ w9, Rdy w9 → Mod (fun k => k = w5.heap.size + 1) w7 w9 → w9.heap.size = w7.heap.size → R' (.bool true) w9 := by
      intro w6 m6 hff
      have b6 := m6.at' hb
      obtain ⟨q1, q2, q3, q4⟩ := setFile b6 0 (by simp) (.slice pb f2.length cb)
      refine ⟨pb, f2.length, cb, by rw [cl1 b6]; rfl, q1, q2, fun w7 e7 => ?_⟩
      rw [← e7] at q3 q4
      have hnr : NoRow w6 (on (φ i)) := fun k cs z hk hr => by cases hk; rw [b6] at hr; cases hr
      have r7 := els_norow (els_mod hb' m6 fun _ _ => id) q3 hnr
      refine fin w7 (m6.no_trans q3) ?_
      rw [hff]
      exact ⟨pb, cb, pb, cb, q4, r7, r7, hrb', hrb'⟩
    refine ifK_dec (fun hge => ?_) (fun hlt => ?_)
    · have hge : f2.length ≤ f1.length := by omega
      have hcap := ha.len
      refine ⟨pa, f1.length, ca, by rw [cl1 b4]; rfl, by omega, by omega, by omega, pb, f2.length, cb, by rw [cl1 b4]; rfl, ?_⟩
      rw [sl0, Int.toNat_natCast]
      have ha4 := els_mod ha m4 fun _ _ => id
      have hb4 := els_mod hb' m4 fun _ _ => id
      refine equal_ok ((Rd.of_els ha4).take hge) (Rd.of_els hb4) (by omega) _ fun w6 m6 => ⟨_, rfl, ?_⟩
      have m36 := m4.trans m6
      refine ifK_dec (fun he => ?_) (fun hne2 => ?_)
      · intro w7 e7
        have m7 : Mod no w3 w7 := by subst e7; exact m36.trans (Mod.drew _)
        clear e7
        have b7 := m7.at' hb
        refine ⟨pa, f1.length, ca, by rw [cl1 b7]; rfl, keep, by rw [cl (m7.at' k3)]; rfl, pa, f1.length, ca, by rw [cl1 b7]; rfl, by omega, ?_⟩
        rw [keepN keep hl1 hge, sl0, Int.toNat_natCast]
        obtain ⟨q1, q2, q3, q4⟩ := setFile b7 1 (by simp) (.slice pa (f2.length + min keep.toNat (f1.length - f2.length)) ca)
        refine ⟨by omega, by omega, q1, q2, fun w8 e8 => ?_⟩
        rw [← e8] at q3 q4
        clear e8
        have b8 : w8.heap[φ i]? = some (.cells #[.slice pa f1.length ca, .slice pa (f2.length + min keep.toNat (f1.length - f2.length)) ca] 82 (0, 0)) := q4
        obtain ⟨s1, s2, s3, s4⟩ := setFile b8 0 (by simp) (.slice pa (f2.length + min keep.toNat (f1.length - f2.length)) ca)
        refine ⟨pa, _, ca, by rw [cl1 b8]; rfl, s1, s2, fun w9 e9 => ?_⟩
        rw [← e9] at s3 s4
        have hnr7 : NoRow w7 (on (φ i)) := fun k cs z hk hr => by cases hk; rw [b7] at hr; cases hr
        have hnr8 : NoRow w8 (on (φ i)) := fun k cs z hk hr => by cases hk; rw [b8] at hr; cases hr
        have r9 := els_norow (els_norow (els_mod ha m7 fun _ _ => id) q3 hnr7) s3 hnr8
        refine fin w9 ((m7.no_trans q3).trans s3) ?_
        have hff : failF keep (f1, f2) = (f1.take (f2.length + min keep.toNat (f1.length - f2.length)), f1.take (f2.length + min keep.toNat (f1.length - f2.length))) := by
          rw [failF, if_pos ⟨hge, he⟩]
        rw [hff]
        have r9' := Els.take r9 (k := f2.length + min keep.toNat (f1.length - f2.length)) (by omega)
        have hlen : (f1.take (f2.length + min keep.toNat (f1.length - f2.length))).length = f2.length + min keep.toNat (f1.length - f2.length) := by rw [List.length_take]; omega
        refine ⟨pa, ca, pa, ca, ?_, ?_, ?_, hra, hra⟩
        · simp only [hlen]; exact s4
        · simp only [hlen]; exact r9'
        · simp only [hlen]; exact r9'
      · exact plain w6 m36 (by rw [failF, if_neg fun h => hne2 h.2])
    · exact plain w4 m4 (by rw [failF, if_neg fun h => by have h1 : f2.length ≤ f1.length := h.1; omega])
  · rintro w2 l ⟨hr2, m2, hf2⟩ hall m2'
    refine ⟨hr2, fun w3 m3 z3 hd3 => ?_⟩
    obtain ⟨g1, r, g2⟩ := hrb w2 (.inl hr2)
    have nrow : NoRow w2 (fun k => k = w5.heap.size ∨ k = w5.heap.size + 1) := fun k cs z hk hr => by
      rcases hk with rfl | rfl
      · rw [g1] at hr; cases hr
      · rw [g2] at hr; cases hr
    have m13 : Mod (fun k => U k ∨ w1.heap.size ≤ k ∨ k = w5.heap.size) w1 w3 := (m2.mono fun k _ hk => hk.imp id .inl).trans (m3.mono fun k _ hk => hk.elim (fun h => .inr (.inr h)) fun h => .inl (.inr h))
    have notT : ∀ k, k < w.heap.size → (∀ i, a.Live i → k ≠ φ i) → ¬ (U k ∨ w1.heap.size ≤ k ∨ k = w5.heap.size) := by
      rintro k hk hn ((⟨i, hi, e⟩ | e) | e | e)
      · exact hn i hi e
      all_goals omega
    have s3 := m13.at h1.st.cell (notT s hslt fun i hi e => (hUs i hi).1 e.symm)
    have n3 := h1.st.now.mod m13 (notT nb hnlt fun i hi e => (hUs i hi).2.1 e.symm)
    have u3 : MapAt w3 sb (kvL Value.string (dirL S)) := h1.st.sure.mod m13 (notT sb hblt fun i hi e => (hUs i hi).2.2 e.symm)
    have f3 : ∀ i, a.Live i → FileAt w3 F0 (φ i) (failF keep (a.file i)) := by
      intro i hi
      have := hf2 i hi
      obtain ⟨p, hp, e⟩ := hlive' i hi
      rw [if_pos (by rw [← e]; exact hall p hp)] at this
      have := hflt i hi
      exact FileAt.norow (by assumption) m3 (by omega) nrow
    refine ⟨some sb, by rw [cl1 s3]; rfl, ?_⟩
    refine clone_ok (some sb) w3 _ (fun h => by cases h) ?_ (fun b hb => by cases hb; exact ⟨_, u3⟩)
    intro b kvs w4 hb hk3 hk4 m4
    cases hb
    have hk : kvs = kvL Value.string (dirL S) := by
      obtain ⟨es, clock, q1, q2, _⟩ := hk3
      obtain ⟨es', clock', r1, r2, _⟩ := u3
      rw [q1] at r1
      cases r1
      rw [← q2, r2]
    subst hk
    have s4 := m4.at' s3
    obtain ⟨q1, q2, q3, q4⟩ := setFile s4 1 (by simp) (.map (some w3.heap.size))
    refine ⟨_, rfl, q1, q2, fun w6 e6 => ?_⟩
    rw [← e6] at q3 q4
    clear e6
    obtain ⟨t1, t2, t3, t4⟩ := setFile q4 3 (by simp) (.bool true)
    refine ⟨t1, t2, fun w7 e7 => ?_⟩
    rw [← e7] at t3 t4
    clear e7
    have m37 : Mod (on s) w3 w7 := (m4.no_trans q3).trans t3
    have hsne : s ≠ w5.heap.size := by omega
    have d7 := m37.at hd3 fun hk => hsne hk.symm
    refine ⟨d7, fun w8 e8 => ?_⟩
    have m8 : Mod (on w5.heap.size) w7 w8 := by subst e8; exact Mod.putObj _ _ _
    clear e8
    have m48 : Mod (fun k => k = s ∨ k = w5.heap.size) w4 w8 := ((q3.trans t3).mono fun k _ hk => .inl hk).trans (m8.mono fun k _ hk => .inr hk)
    have hmid : ∀ k, k < w.heap.size → w.heap.size ≤ w5.heap.size := fun _ _ => by omega
    have hz3 : w1.heap.size ≤ w3.heap.size := m13.size
    have hnr4 : NoRow w4 (fun k => k = s ∨ k = w5.heap.size) := fun k cs z hk hr => by
      rcases hk with rfl | rfl
      · rw [s4] at hr; cases hr
      · rw [m4.at' hd3] at hr; cases hr
    refine hR w8 ⟨fun k => F k ∨ k = w3.heap.size, ⟨w3.heap.size, sb, S, S, φ, ?_⟩, ?_, ?_⟩
    · have hfail : a.fail keep = { a with dark := true, dir := a.sure, all := a.all.map (failF keep) } := by rw [AS.fail, hd]; rfl
      have hlv : ∀ i, (a.fail keep).Live i → a.Live i := by
        intro i hi
        rw [hfail] at hi
        rcases hi with hi | hi
        · exact .inr hi
        · exact .inr hi
      have hlen : ∀ i, a.Live i → i < a.all.length := by
        rintro i (⟨n, hn⟩ | ⟨n, hn⟩)
        · exact h.ok.dirI _ hn
        · exact h.ok.sureI _ hn
      refine ⟨⟨?_, ?_, ?_⟩, ?_, ?_, ?_, fun i j hi hj => h.inj i j (hlv i hi) (hlv j hj), by omega, h.ok.fail keep, .inl h.fs, .inr rfl, .inl h.fb, fun i hi => .inl (h.ff i (hlv i hi))⟩
      · rw [hfail]
        exact m8.at t4 fun hk => hsne hk
      · exact hk4.mod m48 fun hk => by rcases hk with hk | hk <;> omega
      · exact (u3.mod m4 id).mod m48 fun hk => by
          rcases hk with hk | hk
          · obtain ⟨_, _, hx, _⟩ := h.st.sure
            rw [hk, h.st.cell] at hx; cases hx
          · omega
      · rw [hfail]; exact h.sure
      · rw [hfail]; exact h.sure
      · intro i hi
        have hi := hlv i hi
        have e : (a.fail keep).file i = failF keep (a.file i) := by
          rw [hfail]
          exact AS.file_map (a := { a with dark := true, dir := a.sure }) (hlen i hi)
        rw [e]
        have := hflt i hi
        have hnot : ¬ (φ i = s ∨ φ i = w5.heap.size) := by
          rintro (hk | hk)
          · exact (hUs i hi).1 hk
          · omega
        exact (((f3 i hi).mod m4 id fun _ _ => id).norow m48 hnot hnr4).mono fun k hk => .inl hk.1
    · intro k hk
      rcases hk with hk | hk
      · exact .inl hk
      · subst hk; exact .inr (by omega)
    · refine ⟨m8.os.trans (m37.os.trans (m13.os.trans m01.os)), m8.tape.trans (m37.tape.trans (m13.tape.trans m01.tape)), m8.output.trans (m37.output.trans (m13.output.trans m01.output)), ?_, fun k hk hF => ?_⟩
      · exact Nat.le_trans m01.size (Nat.le_trans m13.size (Nat.le_trans m37.size m8.size))
      · have a1 := m01.keep k hk id
        have a2 := m13.keep k (Nat.lt_of_lt_of_le hk m01.size) (notT k hk fun i hi e => hF (e ▸ h.ff i hi))
        have a3 := m37.keep k (by omega) (fun e => hF (e ▸ h.fs))
        have a4 := m8.keep k (by have := m37.size; omega) (fun e => by have e : k = w5.heap.size := e; omega)
        rw [a4, a3, a2, a1]
end Go.Proofs.YtgjdandnncjegaaGreatDoor

/- The store's calls that are counted. -/
namespace Go.Proofs.YtgjdandnncjegaaGreatDoor
open Go Go.Proofs.YtgjdandnncjegaaGreatDoor.St

section
variable {w : World} {s : Nat} {F : Nat → Prop} {a : AS} {nb sb : Nat} {N S : List (ByteArray × Nat)} {φ : Nat → Nat}

/-- What a call's function does to a store. -/
def Does (w : World) (s : Nat) (F : Nat → Prop) (a : AS) (nb sb : Nat) (N S : List (ByteArray × Nat)) (φ : Nat → Nat) (f : AS → AS) (does : Value) : Prop :=
  ∀ b w1, (b = a.tick ∨ b = a.tick.less) → SR w1 s F b nb sb N S φ → Mod (on s) w w1 → ∀ R : Value → World → Prop, (∀ w2, StP s F w1 (f b) w2 → R (.tuple #[]) w2) → CaV Tryz.prog does #[] w1 R

theorem counted_ok (h : SR w s F a nb sb N S φ) (f : AS → AS) (does : Value) (hd : Does w s F a nb sb N S φ f does) (R : Value → World → Prop) (hR : ∀ w', StP s F w (a.counted f).1 w' → R (.int .i64 (a.counted f).2) w') :
    Ca Tryz.prog 49 #[.pointer (some ⟨s, 0, none⟩), does] w R := by
  refine ca49 _ does w R ?_
  have hc := h.st.cell
  obtain ⟨q1, q2, q3, q4⟩ := setFile hc 4 (by simp) (.int .i64 (IntKind.i64.wrap (a.count + 1)))
  refine ⟨a.count, by rw [cl1 hc]; rfl, q1, q2, fun w4 e4 => ?_⟩
  rw [← e4] at q3 q4
  clear e4
  have h4 : SR w4 s F a.tick nb sb N S φ := h.scal q3 a.tick rfl rfl rfl rfl q4
  have pre : ∀ {b w1 w2}, Mod (on s) w w1 → StP s F w1 b w2 → StP s F w b w2 := by
    rintro b w1 w2 hm ⟨F', g1, g2, g3⟩
    refine ⟨F', g1, fun k hk => (g2 k hk).imp id fun h => Nat.le_trans hm.size h, (hm.mono fun k _ hk => by cases hk; exact h.fs).trans g3⟩
  refine ⟨a.left, by rw [cl1 q4]; rfl, ifK_dec (fun hl => ?_) (fun hl => ?_)⟩
  · obtain ⟨r1, r2, r3, r4⟩ := setFile q4 5 (by simp) (.int .i64 (IntKind.i64.wrap (a.left - 1)))
    refine ⟨a.left, by rw [cl1 q4]; rfl, r1, r2, fun w11 e11 => ?_⟩
    rw [← e11] at r3 r4
    clear e11
    have h11 : SR w11 s F a.tick.less nb sb N S φ := h4.scal r3 a.tick.less rfl rfl rfl rfl r4
    have m11 := q3.trans r3
    refine ⟨_, by rw [cl1 r4]; rfl, ifK_eq (fun he => ?_) (fun he => ?_)⟩
    · refine ⟨a.keep, by rw [cl1 r4]; rfl, fail_ok h11 a.keep _ fun w17 hp => ⟨rfl, ?_⟩⟩
      have hcn : a.counted f = (a.tick.less.fail a.keep, 9) := by rw [AS.counted, if_pos (by omega), if_pos (show a.tick.less.left = 0 from he)]
      have := hR w17
      rw [hcn] at this
      exact this (pre m11 hp)
    · refine hd _ w11 (.inr rfl) h11 m11 _ fun w19 hp => ⟨rfl, ?_⟩
      have hcn : a.counted f = (f a.tick.less, 0) := by rw [AS.counted, if_pos (by omega), if_neg (show ¬ a.tick.less.left = 0 from he)]
      have := hR w19
      rw [hcn] at this
      exact this (pre m11 hp)
  · refine hd _ w4 (.inl rfl) h4 q3 _ fun w19 hp => ⟨rfl, ?_⟩
    have hcn : a.counted f = (f a.tick, 0) := by rw [AS.counted, if_neg (by omega)]
    have := hR w19
    rw [hcn] at this
    exact this (pre q3 hp)

theorem known2_ok (h : SR w s F a nb sb N S φ) (name : ByteArray) (hn : name.size < 4611686018427387904) (R : Value → World → Prop)
    (h0 : ∀ f, a.dark = false → goodB name = true → dget a.dir name = some f → ∀ w', Mod no w w' → R (.tuple #[.pointer (some ⟨φ f, 0, none⟩), .int .i64 0]) w')
    (h1 : a.known name ≠ 0 → ∀ w', Mod no w w' → R (.tuple #[.pointer none, .int .i64 (a.known name)]) w') :
    Ca Tryz.prog 48 #[.pointer (some ⟨s, 0, none⟩), .string name] w R := by
  have hg := h.get name
  refine known_ok s _ name w h.st hn R (fun hd => ?_) (fun hd hgd => ?_) (fun hd hgd hf => ?_) (fun f hd hgd hf => ?_)
  · simp only at hd
    have hk : a.known name = 9 := by rw [AS.known, if_pos hd]
    rw [hk] at h1
    exact h1 (by decide)
  · simp only at hd
    have hk : a.known name = 2 := by rw [AS.known, if_neg (by rw [hd]; simp), if_pos hgd]
    rw [hk] at h1
    exact h1 (by decide)
  · simp only at hd hf
    rw [hg, Option.map_eq_none_iff] at hf
    have hk : a.known name = 3 := by rw [AS.known, if_neg (by rw [hd]; simp), if_neg (by rw [hgd]; simp), if_pos hf]
    rw [hk] at h1
    exact h1 (by decide)
  · simp only at hd hf
    rw [hg, Option.map_eq_some_iff] at hf
    obtain ⟨i, hi, rfl⟩ := hf
    exact h0 i hd hgd hi

theorem AS.known_of {n : ByteArray} {f : Nat} (hd : a.dark = false) (hg : goodB n = true) (hf : dget a.dir n = some f) : a.known n = 0 ∧ a.idx n = f := by
  constructor
  · rw [AS.known, if_neg (by rw [hd]; simp), if_neg (by rw [hg]; simp), if_neg (by rw [hf]; simp)]
  · rw [AS.idx, hf]; rfl
theorem AS.known_cases (a : AS) (n : ByteArray) : a.known n = 9 ∨ a.known n = 2 ∨ a.known n = 3 ∨ a.known n = 0 := by
  unfold AS.known
  split
  · exact .inl rfl
  · split
    · exact .inr (.inl rfl)
    · split
      · exact .inr (.inr (.inl rfl))
      · exact .inr (.inr (.inr rfl))

theorem free2_ok (h : SR w s F a nb sb N S φ) (R : Value → World → Prop) (hR : ∀ w', Mod no w w' → R (.int .i64 (a.room - a.need)) w') :
    Ca Tryz.prog 74 #[.pointer (some ⟨s, 0, none⟩)] w R := by
  -- a file's length, told by its block
  let fl : Nat → Nat := fun b => match w.heap[b]? with
    | some (.cells cs _ _) => (match (cs[0]? : Option Value) with | some (.slice _ n _) => n | _ => 0)
    | _ => 0
  have hfl : ∀ i, a.Live i → fl (φ i) = a.len i := by
    intro i hi
    obtain ⟨pa, ca, pb, cb, hb, _⟩ := h.file i hi
    simp [fl, hb, AS.len]
  have hneed : needD fl N = a.need := by
    rw [needD, AS.need]
    have h1 := (h.now.map fun p => 16 + fl p.2).sum_nat
    rw [h1, List.map_map]
    congr 1
    apply List.map_congr_left
    intro p hp
    simp only [Function.comp]
    rw [hfl p.2 (.inl ⟨p.1, hp⟩)]
  have hle := AS.need_le h.ok
  have hN := h.ok.dirN
  refine free_ok s _ fl w h.st ?_ ?_ h.ok.room0 h.ok.room1 R ?_
  · intro p hp
    obtain ⟨q, hq, rfl⟩ := List.mem_map.1 (h.now.mem_iff.1 hp)
    obtain ⟨pa, ca, pb, cb, hb, _⟩ := h.file q.2 (.inl ⟨q.1, hq⟩)
    refine ⟨pa, ca, pb, (a.file q.2).2.length, cb, ?_⟩
    rw [hfl q.2 (.inl ⟨q.1, hq⟩)]
    exact hb
  · simp only
    rw [hneed]
    omega
  · simp only
    rw [hneed]
    exact hR

/-- A copy of a row's directory entries, deleted. -/
theorem dirL_del (k : ByteArray) (D : List (ByteArray × Nat)) (hn : (D.map (·.1)).Nodup) : ∃ D', delG k (dirL D) = dirL D' ∧ D'.Perm (ddel k D) := by
  induction D with
  | nil => exact ⟨[], rfl, .refl _⟩
  | cons p r ih =>
    rw [List.map_cons, List.nodup_cons] at hn
    obtain ⟨D', h1, h2⟩ := ih hn.2
    by_cases e : k = p.1
    · have hb : (k == p.1) = true := by simp [e]
      refine ⟨r, ?_, ?_⟩
      · rw [dirL, List.map_cons, delG, if_pos hb]; rfl
      · rw [ddel, List.filter_cons_of_neg (by simp [e])]
        rw [List.filter_eq_self.2 fun q hq => ?_]
        simp only [Bool.not_eq_true', beq_eq_false_iff_ne]
        exact fun e' => hn.1 (by rw [← e, ← e']; exact List.mem_map_of_mem hq)
    · have hb : ¬ (k == p.1) = true := by simp [e]
      refine ⟨p :: D', ?_, ?_⟩
      · rw [dirL, List.map_cons, delG, if_neg hb]
        rw [dirL] at h1
        rw [h1]; rfl
      · rw [ddel, List.filter_cons_of_pos (by simp; exact fun h => e h.symm)]
        exact h2.cons p
theorem dirL_set (k : ByteArray) (f : Nat) (D : List (ByteArray × Nat)) (hn : (D.map (·.1)).Nodup) : ∃ D', setG k (.pointer (some ⟨f, 0, none⟩)) (dirL D) = dirL D' ∧ D'.Perm (dset k f D) := by
  have : ∃ D', setG k (.pointer (some ⟨f, 0, none⟩)) (dirL D) = dirL D' ∧ D'.Perm ((k, f) :: ddel k D) := by
    induction D with
    | nil => exact ⟨[(k, f)], rfl, .refl _⟩
    | cons p r ih =>
      rw [List.map_cons, List.nodup_cons] at hn
      obtain ⟨D', h1, h2⟩ := ih hn.2
      by_cases e : k = p.1
      · have hb : (k == p.1) = true := by simp [e]
        refine ⟨(k, f) :: r, ?_, ?_⟩
        · rw [dirL, List.map_cons, setG, if_pos hb]; rfl
        · rw [ddel, List.filter_cons_of_neg (by simp [e])]
          rw [List.filter_eq_self.2 fun q hq => ?_]
          simp only [Bool.not_eq_true', beq_eq_false_iff_ne]
          exact fun e' => hn.1 (by rw [← e, ← e']; exact List.mem_map_of_mem hq)
      · have hb : ¬ (k == p.1) = true := by simp [e]
        refine ⟨p :: D', ?_, ?_⟩
        · rw [dirL, List.map_cons, setG, if_neg hb]
          rw [dirL] at h1
          rw [h1]; rfl
        · rw [ddel, List.filter_cons_of_pos (by simp; exact fun h => e h.symm)]
          exact (h2.cons p).trans (.swap _ _ _)
  obtain ⟨D', h1, h2⟩ := this
  exact ⟨D', h1, h2.trans (dset_perm k f D).symm⟩
theorem ddel_map (k : ByteArray) (D : List (ByteArray × Nat)) : ddel k (D.map fun p => (p.1, φ p.2)) = (ddel k D).map fun p => (p.1, φ p.2) := by
  rw [ddel, ddel, List.filter_map]; rfl
theorem ddel_perm {k : ByteArray} {D D' : List (ByteArray × Nat)} (h : D.Perm D') : (ddel k D).Perm (ddel k D') := h.filter _
theorem dset_map_perm {k : ByteArray} {i : Nat} {N D : List (ByteArray × Nat)} (h : N.Perm (D.map fun p => (p.1, φ p.2))) : (dset k (φ i) N).Perm ((dset k i D).map fun p => (p.1, φ p.2)) := by
  refine (dset_perm _ _ _).trans ?_
  refine List.Perm.trans ?_ ((dset_perm k i D).map _).symm
  rw [List.map_cons, ← ddel_map]
  exact (ddel_perm h).cons _
end
end Go.Proofs.YtgjdandnncjegaaGreatDoor

/- What the functions of the counted calls do. -/
namespace Go.Proofs.YtgjdandnncjegaaGreatDoor
open Go Go.Proofs.YtgjdandnncjegaaGreatDoor.St

section
variable {w : World} {s : Nat} {F : Nat → Prop} {a : AS} {nb sb : Nat} {N S : List (ByteArray × Nat)} {φ : Nat → Nat}

theorem ne_of_cells {w : World} {j k : Nat} {cs cs' : Array Value} {t t' : TypeId} (h : w.heap[j]? = some (.cells cs t (0, 0))) (h' : w.heap[k]? = some (.cells cs' t' (0, 0))) (hn : t ≠ t') : j ≠ k := fun e => by
  subst e
  rw [h] at h'
  injection h' with h'
  injection h' with _ h'
  exact hn h'
theorem onS_at {w w1 : World} {s k : Nat} {cs cs' : Array Value} {t t' : TypeId} (hm : Mod (on s) w w1) (h : w.heap[k]? = some (.cells cs t (0, 0))) (hs : w.heap[s]? = some (.cells cs' t' (0, 0))) (hn : t ≠ t') : w1.heap[k]? = some (.cells cs t (0, 0)) :=
  hm.at h (ne_of_cells h hs hn)
theorem SR.live_lt (h : SR w s F a nb sb N S φ) {i : Nat} (hi : a.Live i) : i < a.all.length := by
  rcases hi with ⟨n, hn⟩ | ⟨n, hn⟩
  · exact h.ok.dirI _ hn
  · exact h.ok.sureI _ hn
theorem keysDir' {w : World} : ∀ p ∈ dirL N, (fun (_ : World) (_ : ByteArray) => True) w p.1 := fun _ _ => trivial

theorem make1_does (h : SR w s F a nb sb N S φ) {c0 c1 : Nat} {name : ByteArray} (h0 : w.heap[c0]? = some (.cells #[.pointer (some ⟨s, 0, none⟩)] 24 (0, 0))) (h1 : w.heap[c1]? = some (.cells #[.string name] 9 (0, 0)))
    (hg : goodB name = true) (hr : ¬ a.room - a.need < 16) :
    Does w s F a nb sb N S φ (fun a => { a with all := a.all ++ [([], [])], dir := dset name a.all.length a.dir }) (.func (.func 75) #[] #[.pointer (some ⟨c0, 0, none⟩), .pointer (some ⟨c1, 0, none⟩)]) := by
  intro b w1 hb hS hm R hR
  have g0 := onS_at hm h0 h.st.cell (by decide)
  have g1 := onS_at hm h1 h.st.cell (by decide)
  refine (ca75 (some ⟨c0, 0, none⟩) (some ⟨c1, 0, none⟩) w1 R ?_ : Ca _ _ _ _ _)
  intro w2 e2
  have m2 : Mod no w1 w2 := by subst e2; exact Mod.drew _
  have z2 : w2.heap.size = w1.heap.size := by subst e2; rfl
  clear e2
  have hS2 := hS.no m2
  have g02 := m2.at' g0
  have g12 := m2.at' g1
  refine ⟨some ⟨s, 0, none⟩, by rw [cl g02]; rfl, some nb, by rw [cl1 hS2.st.cell]; rfl, name, by rw [cl g12]; rfl, fun w3 e3 => ?_⟩
  have m3 : Mod no w2 w3 := by subst e3; exact Mod.alloc _ _
  have b3 : w3.heap[w2.heap.size]? = some (.cells #[.slice none 0 0, .slice none 0 0] 82 (0, 0)) := by subst e3; exact new_at _ _
  clear e3
  have hS3 := hS2.no m3
  have m13 := m2.trans m3
  obtain ⟨w4, hrun, m4, n4⟩ := update_k keysDir Tryz.underlying62 hS3.st.now name trivial (fun _ _ => trivial) (.pointer (some ⟨w2.heap.size, 0, none⟩))
  refine ⟨by rw [cl1 (m3.at' g02)]; rfl, by rw [cl2 hS3.st.cell]; rfl, by rw [cl1 (m3.at' g12)]; rfl, w4, hrun, hR w4 ?_⟩
  obtain ⟨N', hN', hperm⟩ := dirL_set name w2.heap.size N hS.dirN
  have hx : MapAt w4 nb (kvL Value.string (dirL N')) := by rw [← hN']; exact n4
  let L := b.all.length
  let φ' : Nat → Nat := fun i => if i = L then w2.heap.size else φ i
  have hold : ∀ i, b.Live i → φ' i = φ i := fun i hi => if_neg (by have := hS.live_lt hi; show ¬ i = b.all.length; omega)
  have hflt : ∀ i, b.Live i → φ i < w1.heap.size := fun i hi => let ⟨_, hc⟩ := (hS.file i hi).cell; lt_of_heap hc
  have hlv : ∀ i, ({ b with all := b.all ++ [([], [])], dir := dset name b.all.length b.dir } : AS).Live i → i = L ∨ b.Live i := by
    rintro i (⟨n, hn⟩ | ⟨n, hn⟩)
    · rcases mem_dset.1 hn with e | e
      · injection e with _ e; exact .inl e
      · exact .inr (.inl ⟨n, e.1⟩)
    · exact .inr (.inr ⟨n, hn⟩)
  have hok : ({ b with all := b.all ++ [([], [])], dir := dset name b.all.length b.dir } : AS).Ok := hS.ok.add hg (by rcases hb with rfl | rfl <;> exact hr)
  have hcell4 : ∀ k o, w3.heap[k]? = some o → (∀ es c, o ≠ .map es c) → k ≠ nb := by
    intro k o hk ho e
    subst e
    obtain ⟨es, c, q, _⟩ := hS3.st.now
    simp only at q
    rw [q] at hk
    cases hk
    exact ho _ _ rfl
  have hnr : NoRow w3 (on nb) := fun k cs z hk hr => by cases hk; exact hcell4 _ _ hr (fun _ _ h => by cases h) rfl
  refine ⟨fun k => F k ∨ k = w2.heap.size, ⟨nb, sb, N', S, φ', ⟨m4.at hS3.st.cell (hcell4 _ _ hS3.st.cell fun _ _ h => by cases h), hx, hS3.st.sure.mod m4 fun e => hS.ne e.symm⟩, ?_, ?_, ?_, ?_, hS.ne, hok, .inl hS.fs, .inl hS.fn, .inl hS.fb, ?_⟩, ?_, ?_⟩
  · have hN2 : N.Perm (b.dir.map fun p => (p.1, φ' p.2)) := by
      have : (b.dir.map fun p => (p.1, φ' p.2)) = b.dir.map fun p => (p.1, φ p.2) := List.map_congr_left fun p hp => by rw [hold p.2 (.inl ⟨p.1, hp⟩)]
      rw [this]; exact hS.now
    have := dset_map_perm (k := name) (i := L) hN2
    rw [show φ' L = w2.heap.size from if_pos rfl] at this
    exact hperm.trans this
  · have : (b.sure.map fun p => (p.1, φ' p.2)) = b.sure.map fun p => (p.1, φ p.2) := List.map_congr_left fun p hp => by rw [hold p.2 (.inr ⟨p.1, hp⟩)]
    show S.Perm (b.sure.map fun p => (p.1, φ' p.2))
    rw [this]; exact hS.sure
  · intro i hi
    rcases hlv i hi with rfl | hi
    · have e1 : φ' L = w2.heap.size := if_pos rfl
      rw [e1]
      have e2 : ({ b with all := b.all ++ [([], [])], dir := dset name b.all.length b.dir } : AS).file L = ([], []) := by
        show ((b.all ++ [([], [])])[b.all.length]?).getD ([], []) = _
        simp
      rw [e2]
      refine ⟨none, 0, none, 0, m4.at b3 (hcell4 _ _ b3 fun _ _ h => by cases h), Els.nil _ _, Els.nil _ _, fun k hk => by simp [rowB] at hk, fun k hk => by simp [rowB] at hk⟩
    · rw [hold i hi]
      have e2 : ({ b with all := b.all ++ [([], [])], dir := dset name b.all.length b.dir } : AS).file i = b.file i := by
        show ((b.all ++ [([], [])])[i]?).getD ([], []) = _
        rw [List.getElem?_append_left (hS.live_lt hi)]; rfl
      rw [e2]
      obtain ⟨cs, hc⟩ := (hS3.file i hi).cell
      exact ((hS3.file i hi).norow m4 (hcell4 _ _ hc fun _ _ h => by cases h) hnr).mono fun k hk => .inl hk
  · intro i j hi hj he
    rcases hlv i hi with rfl | hi <;> rcases hlv j hj with rfl | hj
    · rfl
    · rw [show φ' L = w2.heap.size from if_pos rfl, hold j hj] at he
      have := hflt j hj; omega
    · rw [show φ' L = w2.heap.size from if_pos rfl, hold i hi] at he
      have := hflt i hi; omega
    · rw [hold i hi, hold j hj] at he
      exact hS.inj i j hi hj he
  · intro i hi
    rcases hlv i hi with rfl | hi
    · exact .inr (if_pos rfl)
    · rw [hold i hi]; exact .inl (hS.ff i hi)
  · rintro k (hk | hk)
    · exact .inl hk
    · exact .inr (by omega)
  · exact m13.no_trans (m4.mono fun k _ hk => by cases hk; exact hS.fn)

theorem SR.updP {w' : World} (h : SR w s F a nb sb N S φ) {i : Nat} (hi : a.Live i) {w0 : World} (h0 : Mod St.no w w0) (hm : Mod (on (φ i)) w0 w') (g : Bs × Bs → Bs × Bs) {F' : Nat → Prop} (hF : ∀ k, F k → F' k) (hF' : ∀ k, F' k → F k ∨ w.heap.size ≤ k) (hf : FileAt w' F' (φ i) (g (a.file i)))
    (hl : (g (a.file i)).1.length ≤ 1073741824 ∧ (g (a.file i)).2.length ≤ 1073741824) : StP s F w (a.upd i g) w' :=
  ⟨F', ⟨nb, sb, N, S, φ, (h.no h0).upd hi hm g hF hf hl⟩, hF', h0.no_trans (hm.mono fun k _ hk => by cases hk; exact h.ff i hi)⟩

theorem write1_does (h : SR w s F a nb sb N S φ) {c0 c1 i : Nat} {name : ByteArray} (hi : dget a.dir name = some i) (h0 : w.heap[c0]? = some (.cells #[.pointer (some ⟨φ i, 0, none⟩)] 78 (0, 0)))
    {ba : Option Addr} {bl bc : Nat} {bs : Bs} (h1 : w.heap[c1]? = some (.cells #[.slice ba bl bc] 27 (0, 0))) (hb : Rd w ba bl bc bs) (hbF : 0 < bl → ∀ k, rowB ba k → ¬ F k) (hr : ¬ a.room - a.need < bs.length) :
    Does w s F a nb sb N S φ (fun a => a.upd (a.idx name) fun x => (x.1 ++ bs, x.2)) (.func (.func 79) #[] #[.pointer (some ⟨c0, 0, none⟩), .pointer (some ⟨c1, 0, none⟩)]) := by
  intro b w1 hb' hS hm R hR
  have hidx : b.idx name = i := by rcases hb' with rfl | rfl <;> (rw [AS.idx]; show (dget a.dir name).getD 0 = i; rw [hi]; rfl)
  have hlen : b.len i + bs.length ≤ 1073741824 := by
    have h1 := AS.need_mem (a := a) (dget_some hi)
    have h2 := h.ok.room1
    have h3 : b.len i = a.len i := by rcases hb' with rfl | rfl <;> rfl
    simp only at h1
    omega
  have hlv : b.Live i := by rcases hb' with rfl | rfl <;> exact .inl ⟨name, dget_some hi⟩
  have g0 := onS_at hm h0 h.st.cell (by decide)
  have g1 := onS_at hm h1 h.st.cell (by decide)
  have r1 := hb.mod' hm fun h0 k hk e => by cases e; exact hbF h0 _ hk h.fs
  rw [show (fun (a : AS) => a.upd (a.idx name) fun x => (x.1 ++ bs, x.2)) b = b.upd i fun x => (x.1 ++ bs, x.2) by rw [← hidx]] at hR
  refine (ca79 (some ⟨c0, 0, none⟩) (some ⟨c1, 0, none⟩) w1 R ?_ : Ca _ _ _ _ _)
  intro w2 e2
  have m2 : Mod no w1 w2 := by subst e2; exact Mod.drew _
  clear e2
  have hS2 := hS.no m2
  have g02 := m2.at' g0
  have g12 := m2.at' g1
  have r2 := r1.no m2
  obtain ⟨pa, ca, pb, cb, hfc, ha, hb, hra, hrb⟩ := hS2.file i hlv
  refine ⟨some ⟨φ i, 0, none⟩, by rw [cl g02]; rfl, some ⟨φ i, 0, none⟩, by rw [cl g02]; rfl, pa, _, ca, by rw [cl1 hfc]; rfl, ba, bl, bc, by rw [cl g12]; rfl, fun w3 e3 => ?_⟩
  have m3 : Mod no w2 w3 := by subst e3; exact Mod.alloc _ _
  have b3 : w3.heap[w2.heap.size]? = some (.cells #[.slice pa (b.file i).1.length ca, .slice ba bl bc] 27 (0, 0)) := by subst e3; exact new_at _ _
  clear e3
  have hbl := r2.len
  refine ⟨by rw [cl1 (m3.at' g02)]; rfl, ?_⟩
  have hle : (b.file i).1.length + bs.length ≤ 1073741824 := hlen
  refine concat8_ok b3 ((Rd.of_els ha).no m3) (r2.no m3) (by omega) _ fun w4 a' c' r4 m4 n4 => ⟨a', _, c', rfl, ?_⟩
  have m14 := (m2.trans m3).trans m4
  have f4 := (m3.trans m4).at' hfc
  obtain ⟨q1, q2, q3, q4⟩ := setFile f4 0 (by simp) (.slice a' ((b.file i).1.length + bl) c')
  refine ⟨by rw [cl1 (m4.at' (m3.at' g02))]; rfl, q1, q2, fun w5 e5 => hR w5 ?_⟩
  rw [← e5] at q3 q4
  clear e5
  have hnr : NoRow w4 (on (φ i)) := fun k cs z hk hr => by cases hk; rw [f4] at hr; cases hr
  have e : ((b.file i).1 ++ bs).length = (b.file i).1.length + bl := by rw [List.length_append, hbl]
  refine hS.updP hlv m14 q3 (F' := fun k => F k ∨ rowB a' k) _ (fun k hk => .inl hk) (fun k hk => hk.imp id fun hk => ?_) ⟨a', c', pb, cb, ?_, ?_, ?_, fun k hk => .inr hk, fun k hk => .inl (hrb k hk)⟩ ?_
  · have := n4 k hk
    have := m2.size
    have := m3.size
    omega
  · simp only [e]; exact q4
  · simp only [e]; exact els_norow r4 q3 hnr
  · exact els_norow (els_mod hb (m3.trans m4) fun _ _ => id) q3 hnr
  · have := hS.ok.flen i
    simp only [e]
    omega

theorem cut1_does (h : SR w s F a nb sb N S φ) {c0 c1 i : Nat} {name : ByteArray} (hi : dget a.dir name = some i) (h0 : w.heap[c0]? = some (.cells #[.pointer (some ⟨φ i, 0, none⟩)] 78 (0, 0)))
    {n : Int} (h1 : w.heap[c1]? = some (.cells #[.int .i64 n] 3 (0, 0))) (hn : ¬ (n < 0 ∨ n > a.len i)) :
    Does w s F a nb sb N S φ (fun a => a.upd (a.idx name) fun x => (x.1.take n.toNat, x.2)) (.func (.func 50) #[] #[.pointer (some ⟨c0, 0, none⟩), .pointer (some ⟨c1, 0, none⟩)]) := by
  intro b w1 hb' hS hm R hR
  have hidx : b.idx name = i := by rcases hb' with rfl | rfl <;> (rw [AS.idx]; show (dget a.dir name).getD 0 = i; rw [hi]; rfl)
  have hnl : n.toNat ≤ (b.file i).1.length ∧ 0 ≤ n := by
    have h3 : a.len i = (b.file i).1.length := by rcases hb' with rfl | rfl <;> rfl
    omega
  have hlv : b.Live i := by rcases hb' with rfl | rfl <;> exact .inl ⟨name, dget_some hi⟩
  have g0 := onS_at hm h0 h.st.cell (by decide)
  have g1 := onS_at hm h1 h.st.cell (by decide)
  rw [show (fun (a : AS) => a.upd (a.idx name) fun x => (x.1.take n.toNat, x.2)) b = b.upd i fun x => (x.1.take n.toNat, x.2) by rw [← hidx]] at hR
  refine (ca50 (some ⟨c0, 0, none⟩) (some ⟨c1, 0, none⟩) w1 R ?_ : Ca _ _ _ _ _)
  intro w2 e2
  have m2 : Mod no w1 w2 := by subst e2; exact Mod.drew _
  clear e2
  have hS2 := hS.no m2
  have g02 := m2.at' g0
  have g12 := m2.at' g1
  obtain ⟨pa, ca, pb, cb, hfc, ha, hb, hra, hrb⟩ := hS2.file i hlv
  have hcap := ha.len
  have hfl := hS.ok.flen i
  refine ⟨some ⟨φ i, 0, none⟩, by rw [cl g02]; rfl, some ⟨φ i, 0, none⟩, by rw [cl g02]; rfl, pa, _, ca, by rw [cl1 hfc]; rfl, n, by rw [cl g12]; rfl, by omega, by omega, by omega, ?_⟩
  rw [sl0]
  refine clone8_ok ((Rd.of_els ha).take hnl.1) (by omega) _ fun w4 a' c' r4 m4 n4 => ⟨a', _, c', rfl, ?_⟩
  have m14 := m2.trans m4
  have f4 := m4.at' hfc
  obtain ⟨q1, q2, q3, q4⟩ := setFile f4 0 (by simp) (.slice a' n.toNat c')
  refine ⟨by rw [cl1 (m4.at' g02)]; rfl, q1, q2, fun w5 e5 => hR w5 ?_⟩
  rw [← e5] at q3 q4
  clear e5
  have hnr : NoRow w4 (on (φ i)) := fun k cs z hk hr => by cases hk; rw [f4] at hr; cases hr
  have e : ((b.file i).1.take n.toNat).length = n.toNat := by rw [List.length_take]; omega
  refine hS.updP hlv m14 q3 (F' := fun k => F k ∨ rowB a' k) _ (fun k hk => .inl hk) (fun k hk => hk.imp id fun hk => ?_) ⟨a', c', pb, cb, ?_, ?_, ?_, fun k hk => .inr hk, fun k hk => .inl (hrb k hk)⟩ ?_
  · have := n4 k hk
    have := m2.size
    omega
  · simp only [e]; exact q4
  · simp only [e]; exact els_norow r4 q3 hnr
  · exact els_norow (els_mod hb m4 fun _ _ => id) q3 hnr
  · simp only [e]
    omega

theorem sync1_does (h : SR w s F a nb sb N S φ) {c0 i : Nat} {name : ByteArray} (hi : dget a.dir name = some i) (h0 : w.heap[c0]? = some (.cells #[.pointer (some ⟨φ i, 0, none⟩)] 78 (0, 0))) :
    Does w s F a nb sb N S φ (fun a => a.upd (a.idx name) fun x => (x.1, x.1)) (.func (.func 73) #[] #[.pointer (some ⟨c0, 0, none⟩)]) := by
  intro b w1 hb' hS hm R hR
  have hidx : b.idx name = i := by rcases hb' with rfl | rfl <;> (rw [AS.idx]; show (dget a.dir name).getD 0 = i; rw [hi]; rfl)
  have hlv : b.Live i := by rcases hb' with rfl | rfl <;> exact .inl ⟨name, dget_some hi⟩
  have g0 := onS_at hm h0 h.st.cell (by decide)
  rw [show (fun (a : AS) => a.upd (a.idx name) fun x => (x.1, x.1)) b = b.upd i fun x => (x.1, x.1) by rw [← hidx]] at hR
  refine (ca73 (some ⟨c0, 0, none⟩) w1 R ?_ : Ca _ _ _ _ _)
  intro w2 e2
  have m2 : Mod no w1 w2 := by subst e2; exact Mod.drew _
  clear e2
  have hS2 := hS.no m2
  have g02 := m2.at' g0
  obtain ⟨pa, ca, pb, cb, hfc, ha, hb, hra, hrb⟩ := hS2.file i hlv
  have hfl := hS.ok.flen i
  obtain ⟨q1, q2, q3, q4⟩ := setFile hfc 1 (by simp) (.slice pa (b.file i).1.length ca)
  refine ⟨some ⟨φ i, 0, none⟩, by rw [cl g02]; rfl, some ⟨φ i, 0, none⟩, by rw [cl g02]; rfl, pa, _, ca, by rw [cl1 hfc]; rfl, q1, q2, fun w5 e5 => hR w5 ?_⟩
  rw [← e5] at q3 q4
  clear e5
  have hnr : NoRow w2 (on (φ i)) := fun k cs z hk hr => by cases hk; rw [hfc] at hr; cases hr
  have r5 := els_norow ha q3 hnr
  exact hS.updP hlv m2 q3 (F' := F) _ (fun k hk => hk) (fun k hk => .inl hk) ⟨pa, ca, pa, ca, q4, r5, r5, hra, hra⟩ ⟨hfl.1, hfl.1⟩

theorem drop1_does (h : SR w s F a nb sb N S φ) {c0 c1 : Nat} {name : ByteArray} (h0 : w.heap[c0]? = some (.cells #[.pointer (some ⟨s, 0, none⟩)] 24 (0, 0))) (h1 : w.heap[c1]? = some (.cells #[.string name] 9 (0, 0))) :
    Does w s F a nb sb N S φ (fun a => { a with dir := ddel name a.dir }) (.func (.func 83) #[] #[.pointer (some ⟨c0, 0, none⟩), .pointer (some ⟨c1, 0, none⟩)]) := by
  intro b w1 hb' hS hm R hR
  have g0 := onS_at hm h0 h.st.cell (by decide)
  have g1 := onS_at hm h1 h.st.cell (by decide)
  refine (ca83 (some ⟨c0, 0, none⟩) (some ⟨c1, 0, none⟩) w1 R ?_ : Ca _ _ _ _ _)
  intro w2 e2
  have m2 : Mod no w1 w2 := by subst e2; exact Mod.drew _
  clear e2
  have hS2 := hS.no m2
  obtain ⟨w4, hrun, m4, n4⟩ := delete_k keysDir (u := 9) (ty := 0) Tryz.underlying62 hS2.st.now name trivial (fun _ _ => trivial)
  refine ⟨some ⟨s, 0, none⟩, by rw [cl (m2.at' g0)]; rfl, some nb, by rw [cl1 hS2.st.cell]; rfl, name, by rw [cl (m2.at' g1)]; rfl, _, w4, hrun, rfl, hR w4 ?_⟩
  obtain ⟨N', hN', hperm⟩ := dirL_del name N hS.dirN
  have hx : MapAt w4 nb (kvL Value.string (dirL N')) := by rw [← hN']; exact n4
  refine ⟨F, ⟨nb, sb, N', S, φ, hS2.dir m4 hx ?_ (fun n i hn => .inl ⟨n, (mem_ddel.1 hn).1⟩) (hS.ok.del name)⟩, fun k hk => .inl hk, m2.no_trans (m4.mono fun k _ hk => by cases hk; exact hS.fn)⟩
  rw [← ddel_map]
  exact hperm.trans (ddel_perm hS.now)

theorem move1_does (h : SR w s F a nb sb N S φ) {c0 c1 c2 c3 i : Nat} {name to : ByteArray} (hi : dget a.dir name = some i) (hg : goodB to = true) (h0 : w.heap[c0]? = some (.cells #[.pointer (some ⟨s, 0, none⟩)] 24 (0, 0))) (h1 : w.heap[c1]? = some (.cells #[.string name] 9 (0, 0)))
    (h2 : w.heap[c2]? = some (.cells #[.pointer (some ⟨φ i, 0, none⟩)] 78 (0, 0))) (h3 : w.heap[c3]? = some (.cells #[.string to] 9 (0, 0))) :
    Does w s F a nb sb N S φ (fun a => { a with dir := dset to (a.idx name) (ddel name a.dir) }) (.func (.func 84) #[] #[.pointer (some ⟨c0, 0, none⟩), .pointer (some ⟨c1, 0, none⟩), .pointer (some ⟨c2, 0, none⟩), .pointer (some ⟨c3, 0, none⟩)]) := by
  intro b w1 hb' hS hm R hR
  have hidx : b.idx name = i := by rcases hb' with rfl | rfl <;> (rw [AS.idx]; show (dget a.dir name).getD 0 = i; rw [hi]; rfl)
  have hbi : dget b.dir name = some i := by rcases hb' with rfl | rfl <;> exact hi
  have g0 := onS_at hm h0 h.st.cell (by decide)
  have g1 := onS_at hm h1 h.st.cell (by decide)
  have g2 := onS_at hm h2 h.st.cell (by decide)
  have g3 := onS_at hm h3 h.st.cell (by decide)
  simp only [hidx] at hR
  refine (ca84 (some ⟨c0, 0, none⟩) (some ⟨c1, 0, none⟩) (some ⟨c2, 0, none⟩) (some ⟨c3, 0, none⟩) w1 R ?_ : Ca _ _ _ _ _)
  intro w2 e2
  have m2 : Mod no w1 w2 := by subst e2; exact Mod.drew _
  clear e2
  have hS2 := hS.no m2
  obtain ⟨w4, hrun, m4, n4⟩ := delete_k keysDir (u := 9) (ty := 0) Tryz.underlying62 hS2.st.now name trivial (fun _ _ => trivial)
  refine ⟨some ⟨s, 0, none⟩, by rw [cl (m2.at' g0)]; rfl, some nb, by rw [cl1 hS2.st.cell]; rfl, name, by rw [cl (m2.at' g1)]; rfl, _, w4, hrun, rfl, fun w5 e5 => ?_⟩
  have m5 : Mod (on nb) w2 w5 := by subst e5; exact m4.trans_no (Mod.drew _)
  have n5 : MapAt w5 nb (kvL Value.string (delG name (dirL N))) := by subst e5; exact n4.mod (Mod.drew _) id
  clear e5
  obtain ⟨N', hN', hperm⟩ := dirL_del name N hS.dirN
  rw [hN'] at n5
  have hcell : ∀ {k o}, w2.heap[k]? = some o → (∀ es c, o ≠ .map es c) → k ≠ nb := by
    intro k o hk ho e
    subst e
    obtain ⟨es, c, q, _⟩ := hS2.st.now
    simp only at q
    rw [q] at hk
    cases hk
    exact ho _ _ rfl
  have c5 : ∀ {k : Nat} {cs : Array Value} {t : TypeId}, w2.heap[k]? = some (.cells cs t (0, 0)) → w5.heap[k]? = some (.cells cs t (0, 0)) := fun hk => m5.at hk (hcell hk fun _ _ h => by cases h)
  obtain ⟨w6, hrun6, m6, n6⟩ := update_k keysDir Tryz.underlying62 n5 to trivial (fun _ _ => trivial) (.pointer (some ⟨φ i, 0, none⟩))
  refine ⟨some ⟨s, 0, none⟩, by rw [cl (c5 (m2.at' g0))]; rfl, some nb, by rw [cl1 (c5 hS2.st.cell)]; rfl, to, by rw [cl (c5 (m2.at' g3))]; rfl, some ⟨φ i, 0, none⟩, by rw [cl (c5 (m2.at' g2))]; rfl, w6, hrun6, hR w6 ?_⟩
  have hN'n : (N'.map (·.1)).Nodup := by
    refine ((hperm.map (·.1)).nodup_iff).2 ?_
    exact hS.dirN.sublist (List.Sublist.map _ List.filter_sublist)
  obtain ⟨N2, hN2, hperm2⟩ := dirL_set to (φ i) N' hN'n
  have hx : MapAt w6 nb (kvL Value.string (dirL N2)) := by rw [← hN2]; exact n6
  have hp : N'.Perm ((ddel name b.dir).map fun p => (p.1, φ p.2)) := by rw [← ddel_map]; exact hperm.trans (ddel_perm hS.now)
  refine ⟨F, ⟨nb, sb, N2, S, φ, hS2.dir (m5.trans m6) hx (hperm2.trans (dset_map_perm hp)) (fun n j hn => ?_) (hS.ok.mv hg hbi)⟩, fun k hk => .inl hk, m2.no_trans ((m5.trans m6).mono fun k _ hk => by cases hk; exact hS.fn)⟩
  rcases mem_dset.1 hn with e | e
  · injection e with _ e
    subst e
    exact .inl ⟨name, dget_some hbi⟩
  · exact .inl ⟨n, (mem_ddel.1 e.1).1⟩

theorem commit1_does (h : SR w s F a nb sb N S φ) {c0 : Nat} (h0 : w.heap[c0]? = some (.cells #[.pointer (some ⟨s, 0, none⟩)] 24 (0, 0))) :
    Does w s F a nb sb N S φ (fun a => { a with sure := a.dir }) (.func (.func 76) #[] #[.pointer (some ⟨c0, 0, none⟩)]) := by
  intro b w1 hb' hS hm R hR
  have g0 := onS_at hm h0 h.st.cell (by decide)
  refine (ca76 (some ⟨c0, 0, none⟩) w1 R ?_ : Ca _ _ _ _ _)
  intro w2 e2
  have m2 : Mod no w1 w2 := by subst e2; exact Mod.drew _
  clear e2
  have hS2 := hS.no m2
  have g02 := m2.at' g0
  refine ⟨some ⟨s, 0, none⟩, by rw [cl g02]; rfl, some ⟨s, 0, none⟩, by rw [cl g02]; rfl, some nb, by rw [cl1 hS2.st.cell]; rfl, ?_⟩
  refine clone_ok (some nb) w2 _ (fun h => by cases h) ?_ (fun b hb => by cases hb; exact ⟨_, hS2.st.now⟩)
  intro b0 kvs w4 hb hk3 hk4 m4
  cases hb
  have hk : kvs = kvL Value.string (dirL N) := by
    obtain ⟨es, clock, q1, q2, _⟩ := hk3
    obtain ⟨es', clock', r1, r2, _⟩ := hS2.st.now
    rw [q1] at r1
    cases r1
    rw [← q2, r2]
  subst hk
  have hS4 := hS2.no m4
  have s4 := hS4.st.cell
  obtain ⟨q1, q2, q3, q4⟩ := setFile s4 2 (by simp) (.map (some w2.heap.size))
  refine ⟨_, rfl, by rw [cl1 (m4.at' g02)]; rfl, q1, q2, fun w6 e6 => hR w6 ?_⟩
  rw [← e6] at q3 q4
  clear e6
  have hnlt : nb < w2.heap.size := hS2.st.now.lt
  have hslt : s < w2.heap.size := lt_of_heap hS2.st.cell
  have hsn : s ≠ nb := fun e => by
    obtain ⟨_, _, hx, _⟩ := hS2.st.now
    simp only at hx
    rw [← e, hS2.st.cell] at hx; cases hx
  have hfs : ∀ i, b.Live i → φ i ≠ s := fun i hi e => by
    obtain ⟨cs, hc⟩ := (hS2.file i hi).cell
    rw [e, hS2.st.cell] at hc; cases hc
  have hlv : ∀ i, ({ b with sure := b.dir } : AS).Live i → b.Live i := by
    rintro i (hi | hi)
    · exact .inl hi
    · exact .inl hi
  have hnr : NoRow w4 (on s) := fun k cs z hk hr => by cases hk; rw [s4] at hr; cases hr
  refine ⟨fun k => F k ∨ k = w2.heap.size, ⟨nb, w2.heap.size, N, N, φ, ⟨q4, hS4.st.now.mod q3 fun e => hsn e.symm, hk4.mod q3 fun e => by cases e; omega⟩, hS.now, hS.now, fun i hi => ?_, fun i j hi hj => hS.inj i j (hlv i hi) (hlv j hj), by omega, hS.ok.commit, .inl hS.fs, .inl hS.fn, .inr rfl, fun i hi => .inl (hS.ff i (hlv i hi))⟩, ?_, ?_⟩
  · exact ((hS4.file i (hlv i hi)).norow q3 (hfs i (hlv i hi)) hnr).mono fun k hk => .inl hk
  · rintro k (hk | hk)
    · exact .inl hk
    · exact .inr (by have := m2.size; omega)
  · exact (m2.trans m4).no_trans (q3.mono fun k _ hk => by cases hk; exact hS.fs)
end
end Go.Proofs.YtgjdandnncjegaaGreatDoor

/- The library's AppendSeq, Collect: of one-word elements. -/
namespace Go.Proofs.YtgjdandnncjegaaGreatDoor.Seqstring
open Go Go.Proofs.YtgjdandnncjegaaGreatDoor Go.Proofs.YtgjdandnncjegaaGreatDoor.St

theorem rowE : rowOk Tryz.prog 93 9 = true := by kernel_rfl

/-- What AppendSeq has gathered: in a box that is the block w.heap.size, in a row of its own. -/
def Got (w : World) (Rdy : World → Prop) (xs : List Value) (w' : World) : Prop :=
  Rdy w' ∧ ∃ a l c, w'.heap[w.heap.size]? = some (.cells #[.slice a l c] 93 (0, 0)) ∧ w'.ownsRow 0 9 1 (.slice a l c) xs.length xs ∧ ∀ k, rowB a k → w.heap.size < k

theorem appendSeq_ok (seq : Value) (N : Nat) (S : List Value → Prop) (w : World) (hN : N ≤ 1099511627775) (hseq : SeqOf Tryz.prog seq w.heap.size w N (fun v => ∃ k, v = Value.string k) S) (R : Value → World → Prop)
    (h : ∀ w' a l c xs, S xs → w'.ownsRow 0 9 1 (.slice a l c) l xs → Mod no w w' → (∀ k, rowB a k → w.heap.size < k) → R (.slice a l c) w') :
    Ca Tryz.prog 121 #[.slice none 0 0, seq] w R := by
  refine ca121 none 0 0 seq w R ?_
  intro w0 e0
  have m0 : Mod no w w0 := by subst e0; exact Mod.alloc _ _
  have b0 : w0.heap[w.heap.size]? = some (.cells #[.slice none 0 0] 93 (0, 0)) := by subst e0; exact new_at _ _
  have s0 : w0.heap.size = w.heap.size + 1 := by subst e0; simp
  clear e0
  refine ⟨hseq.1, ?_⟩
  intro Rdy Bsy hrs hbs hrb w1 m1 s1 hr1 hy
  have b1 := Mod.at' m1 b0
  -- how a record's blocks are apart from others
  have hrec : ∀ w', Rdy w' ∨ Bsy w' → ∀ k cs t fz, w'.heap[k]? = some (.cells cs t fz) → k ≠ w0.heap.size ∧ k ≠ w0.heap.size + 1 := by
    intro w' hw k cs t fz hk
    obtain ⟨h1, r, h2⟩ := hrb w' hw
    exact ⟨fun e => (by rw [e, h1] at hk; cases hk), fun e => (by rw [e, h2] at hk; cases hk)⟩
  have hstab : Stab (Got w Rdy) := by
    constructor
    · rintro l w1 w2 ⟨hr, a, ll, c, hb, ho, hn⟩ hm
      obtain ⟨h1, r, h2⟩ := hrb w1 (.inl hr)
      exact ⟨hrs w1 w2 hr (by rw [hm.at' h1, h1]) (by rw [hm.at' h2, h2]), a, ll, c, hm.at' hb, row_mod ho hm fun _ _ => id, hn⟩
    · rintro l w1 w2 b o ⟨hr, a, ll, c, hb, ho, hn⟩ hbo hit hm
      obtain ⟨h1, r, h2⟩ := hrb w1 (.inl hr)
      have hne : ∀ k o', w1.heap[k]? = some o' → isIt o' = false → ¬ on b k := by
        intro k o' hk hf e
        cases e
        rw [hbo] at hk
        cases hk
        rw [hit] at hf
        cases hf
      refine ⟨hrs w1 w2 hr (by rw [hm.at h1 (hne _ _ h1 rfl), h1]) (by rw [hm.at h2 (hne _ _ h2 rfl), h2]), a, ll, c, hm.at hb (hne _ _ hb rfl), row_mod ho hm ?_, hn⟩
      intro k hk2
      rcases ho.2 with ⟨hv, _⟩ | ⟨g, cap, cur, hv, _, hg, _⟩
      · injection hv with e1; subst e1; simp [rowB] at hk2
      · injection hv with e1; subst e1; simp [rowB] at hk2; subst hk2; exact hne _ _ hg rfl
  refine hseq.2 (Got w Rdy) _ w1 _ (Kp.of_no (m0.trans m1)) hstab ⟨hr1, none, 0, 0, b1, World.ownsRow_nil _ _ _ _, fun k hk => by simp [rowB] at hk⟩ ?_ ?_
  · rintro pre x w2 hk2 ⟨hr2, a, ll, c, hb2, ho2, hn2⟩ hlen ⟨k, rfl⟩ R' hR'
    refine (hy (Value.string k) w2 (fun w3 => R' (.bool true) w3) hr2 ?_).mono fun v w3 ⟨hv, hR⟩ => by rw [hv]; exact hR
    refine ⟨hr2, fun w6 hbz m6 s6 => ?_⟩
    obtain ⟨q1, q2⟩ := hrec w2 (.inl hr2) _ _ _ _ hb2
    have hrow2 : ∀ k, rowB a k → k ≠ w0.heap.size ∧ k ≠ w0.heap.size + 1 := by
      intro k hk
      rcases ho2.2 with ⟨hv, _⟩ | ⟨g, cap, cur, hv, _, hg, _⟩
      · injection hv with e1; subst e1; simp [rowB] at hk
      · injection hv with e1; subst e1; simp [rowB] at hk; subst hk; exact hrec w2 (.inl hr2) _ _ _ _ hg
    have b6 := m6.at hb2 q2
    have o6 := row_mod ho2 m6 fun k hk => (hrow2 k hk).2
    obtain ⟨hll, _, _, _⟩ := row_len o6
    subst hll
    refine ⟨a, pre.length, c, by rw [cl b6]; rfl, ?_⟩
    intro w10 e10
    have m10 : Mod no w6 w10 := by subst e10; exact Mod.alloc _ _
    have b10 : w10.heap[w6.heap.size]? = some (.cells #[Value.string k] 9 (0, 0)) := by subst e10; exact new_at _ _
    have s10 : w10.heap.size = w6.heap.size + 1 := by subst e10; simp
    clear e10
    obtain ⟨a', c', w12, hrun, o12, m12, hnew⟩ := row_push (ty := 93) rowE (row_mod o6 m10 fun _ _ => id) (b := ⟨w6.heap.size, 0, none⟩) (m := 1) (cc := 1) (news := [Value.string k]) rfl (by decide)
      (by intro j v hj; cases j with
          | zero => simp at hj; subst hj; rw [cl1 b10]; rfl
          | succ j => simp at hj) (by simp [Value.oneCell']) (by omega)
    have hbox : ¬ rowB a w.heap.size := fun hk => by have := hn2 _ hk; omega
    have b12 := m12.at (m10.at' b6) hbox
    refine ⟨_, w12, hrun, _, _, _, rfl, ⟨_, by rw [cl1 b12]; rfl⟩, fz1 b12 _, ?_⟩
    intro w17 e17
    have m17 : Mod (on w.heap.size) w12 w17 := by subst e17; exact Mod.set1 _ _ _ _
    have b17 : w17.heap[w.heap.size]? = some (.cells #[.slice (some a') (pre.length + 1) c'] 93 (0, 0)) := by subst e17; rw [set1 b12]; rfl
    clear e17
    have hlt2 := lt_of_heap hb2
    have hnew' : ∀ k, rowB (some a') k → w.heap.size < k ∧ (rowB a k ∨ w6.heap.size ≤ k) := by
      intro k hk
      rcases hnew k hk with h | h
      · exact ⟨hn2 k h, .inl h⟩
      · exact ⟨by omega, .inr (by omega)⟩
    have o17 := row_mod o12 m17 fun k hk e => by cases e; have := (hnew' _ hk).1; omega
    have mA : Mod (fun k => rowB a k ∨ k = w.heap.size) w6 w17 := (m10.no_trans (m12.mono fun k _ hk => .inl hk)).trans' m17 fun k _ hk => .inr hk
    obtain ⟨h1, r, h2⟩ := hrb w6 (.inr hbz)
    have n1 : ¬ (rowB a w0.heap.size ∨ w0.heap.size = w.heap.size) := fun h => h.elim (fun h => (hrow2 _ h).1 rfl) (by omega)
    have n2 : ¬ (rowB a (w0.heap.size + 1) ∨ w0.heap.size + 1 = w.heap.size) := fun h => h.elim (fun h => (hrow2 _ h).2 rfl) (by omega)
    refine ⟨hbs w6 w17 hbz (by rw [mA.at h1 n1, h1]) (by rw [mA.at h2 n2, h2]), fun w3 hr3 m3 s3 => hR' w3 ?_ ?_⟩
    · -- what was older stands, and iterators do
      have mB : Mod (fun k => k = w0.heap.size + 1 ∨ (rowB a k ∨ k = w.heap.size)) w2 w3 := ((m6.mono fun k _ hk => .inl hk).trans' mA fun k _ hk => .inr hk).trans' m3 fun k _ hk => .inl hk
      refine Kp.of_mod mB fun k o ho hk hS => ?_
      obtain ⟨g1, r, g2⟩ := hrb w2 (.inl hr2)
      rcases hS with rfl | hS | rfl
      · rw [g2] at ho
        cases ho
        rcases hk with hk | hk
        · omega
        · cases hk
      · rcases ho2.2 with ⟨hv, _⟩ | ⟨g, cap, cur, hv, _, hg, _⟩
        · injection hv with e1; subst e1; simp [rowB] at hS
        · injection hv with e1
          subst e1
          have := hn2 _ hS
          simp [rowB] at hS
          subst hS
          rw [hg] at ho
          cases ho
          rcases hk with hk | hk
          · omega
          · cases hk
      · rw [hb2] at ho
        cases ho
        rcases hk with hk | hk
        · omega
        · cases hk
    · refine ⟨hr3, some a', pre.length + 1, c', m3.at b17 (fun e => q2 e), ?_, fun k hk => (hnew' k hk).1⟩
      rw [List.length_append]
      refine row_mod o17 m3 fun k hk e => ?_
      cases e
      rcases (hnew' _ hk).2 with h | h
      · exact (hrow2 _ h).2 rfl
      · have := lt_of_heap h2
        omega
  · rintro w2 xs hS ⟨hr2, a, ll, c, hb2, ho2, hn2⟩ hk2
    refine ⟨hr2, fun w3 m3 s3 hd3 => ?_⟩
    obtain ⟨q1, q2⟩ := hrec w2 (.inl hr2) _ _ _ _ hb2
    have hrow2 : ∀ k, rowB a k → k ≠ w0.heap.size ∧ k ≠ w0.heap.size + 1 := by
      intro k hk
      rcases ho2.2 with ⟨hv, _⟩ | ⟨g, cap, cur, hv, _, hg, _⟩
      · injection hv with e1; subst e1; simp [rowB] at hk
      · injection hv with e1; subst e1; simp [rowB] at hk; subst hk; exact hrec w2 (.inl hr2) _ _ _ _ hg
    have b3 := m3.at hb2 (fun e => e.elim q1 q2)
    have o3 := row_mod ho2 m3 fun k hk e => e.elim (hrow2 k hk).1 (hrow2 k hk).2
    obtain ⟨hll, _, _, _⟩ := row_len o3
    subst hll
    refine ⟨a, _, c, by rw [cl b3]; rfl, hd3, ?_⟩
    intro w4 e4
    have m4 : Mod (on w0.heap.size) w3 w4 := by subst e4; exact Mod.putObj _ _ _
    have o4 := row_mod o3 m4 fun k hk e => by cases e; exact (hrow2 _ hk).1 rfl
    refine h w4 a xs.length c xs hS o4 ?_ hn2
    have mB : Mod (fun k => k = w0.heap.size ∨ k = w0.heap.size + 1) w2 w4 := m3.trans' m4 fun k _ hk => .inl hk
    exact hk2.mod.new mB fun k hk => by rcases hk with rfl | rfl <;> omega

end Go.Proofs.YtgjdandnncjegaaGreatDoor.Seqstring

/- The formulas of functions, printed by a program of mine (gen.py) out of the translation. -/
namespace Go.Proofs.YtgjdandnncjegaaGreatDoor
open Go Go.Proofs.YtgjdandnncjegaaGreatDoor.St
open _root_.Go.Value (string int bool slice pointer agg tuple map func nilFunc iface)
open _root_.Go.World (cell? frozen? setCell alloc drew)
open _root_.Go.Addr (add)
open _root_.Go.Obj (cells)
open _root_.Go.IntKind (wrap i64 u64 i32 u32 u8)
set_option maxRecDepth 100000

/-- cmp.isNaN[string] -/
noncomputable def C153 : Code := (Tryz.f153.body).getD .skip
def pl153 : Nat → Plan := fun _ => .done
def ls153 : Nat → List (Nat × LT) := fun _ => []
def W153 (x : ByteArray) (w : World) (R : Value → World → Prop) : Prop :=
  (R (bool !ByteArray.toList x == ByteArray.toList x) (w))
theorem ca153 (x : ByteArray) (w : World) (R : Value → World → Prop) (h : W153 x w R) : Ca Tryz.prog 153 ⟨[(.string x)]⟩ w R :=
  caB (fn := Tryz.f153) (pl := pl153) (ls := ls153) Tryz.func153 (by kernel_rfl) (by kernel_rfl) h

/-- cmp.Less[string] -/
noncomputable def C142 : Code := (Tryz.f142.body).getD .skip
def pl142 : Nat → Plan := fun _ => .done
def ls142 : Nat → List (Nat × LT) := fun _ => []
def W142 (x : ByteArray) (y : ByteArray) (w : World) (R : Value → World → Prop) : Prop :=
  (Ca Tryz.prog (153) (Array.mk [string x]) (w) (fun v0 => (fun w1 =>
(∃ b2 : Bool, ((v0 = bool b2) ∧ (ifK (b2)
(Ca Tryz.prog (153) (Array.mk [string y]) (w1) (fun v3 => (fun w4 =>
(∃ b5 : Bool, ((v3 = bool b5) ∧ (ifK (!b5)
(R (bool true) (w4))
(R (bool (Op.bytesLess (ByteArray.toList x) (ByteArray.toList y))) (w4))))))))
(R (bool (Op.bytesLess (ByteArray.toList x) (ByteArray.toList y))) (w1))))))))
theorem ca142 (x : ByteArray) (y : ByteArray) (w : World) (R : Value → World → Prop) (h : W142 x y w R) : Ca Tryz.prog 142 ⟨[(.string x), (.string y)]⟩ w R :=
  caB (fn := Tryz.f142) (pl := pl142) (ls := ls142) Tryz.func142 (by kernel_rfl) (by kernel_rfl) h

/-- slices.insertionSortOrdered[string] -/
noncomputable def C136 : Code := (Tryz.f136.body).getD .skip
def pl136 : Nat → Plan
  | 4 => (.quiet 0 (.quiet 1 (.quiet 2 (.quiet 3 (.quiet 4 (.quiet 5 (.quiet 6 (.quiet 7 (.quiet 8 (.quiet 9 (.quiet 10 (.quiet 11 (.quiet 12 (.eff 13 [] (.quiet 14 .done)))))))))))))))
  | 6 => (.quiet 0 (.quiet 1 (.quiet 2 (.quiet 3 (.quiet 4 (.quiet 5 (.quiet 6 (.quiet 7 (.quiet 8 (.quiet 9 (.quiet 10 (.quiet 11 (.quiet 12 (.quiet 13 (.quiet 14 (.eff 15 [] (.quiet 16 (.eff 17 [] .done))))))))))))))))))
  | _ => .done
def ls136 : Nat → List (Nat × LT)
  | 1 => [(6, (.one (.int .i64)))]
  | 6 => [(7, (.one (.int .i64)))]
  | _ => []
def W136 (dataa : Option Addr) (datal : Nat) (_datac : Nat) (a_ : Int) (b : Int) (w : World) (R : Value → World → Prop) : Prop :=
  (∃ z0 : Int → World → Prop, (∃ z1 : Int → World → Nat, ((z0 (wrap i64 (a_ + 1)) (w)) ∧ (∀ (_ : Nat → Value), (∀ (x3 : Int), (∀ (w4 : World), ((z0 (x3) (w4)) → (ifK (decide (x3 < b))
(∃ z5 : Int → World → Prop, (∃ z6 : Int → World → Nat, ((z5 (x3) (w4)) ∧ (∀ (_ : Nat → Value), (∀ (x8 : Int), (∀ (w9 : World), ((z5 (x8) (w9)) → (atW (drew w9) (fun w10 =>
(ifK (decide (x8 > a_))
(∃ a11 : Addr, ((dataa = some a11) ∧ (((0 : Int) ≤ x8) ∧ (((x8 : Int) < (↑datal : Int)) ∧ (∃ s12 : ByteArray, ((cell? w10 (add a11 (Int.toNat x8 * 1)) = some (string s12)) ∧ (∃ a13 : Addr, ((dataa = some a13) ∧ (((0 : Int) ≤ wrap i64 (x8 - 1)) ∧ (((wrap i64 (x8 - 1) : Int) < (↑datal : Int)) ∧ (∃ s14 : ByteArray, ((cell? w10 (add a13 (Int.toNat (wrap i64 (x8 - 1)) * 1)) = some (string s14)) ∧ (Ca Tryz.prog (142) (Array.mk [string s12, string s14]) (w10) (fun v15 => (fun w16 =>
(∃ b17 : Bool, ((v15 = bool b17) ∧ (ifK (b17)
(atW (drew w16) (fun w18 =>
(∃ a19 : Addr, ((dataa = some a19) ∧ (((0 : Int) ≤ wrap i64 (x8 - 1)) ∧ (((wrap i64 (x8 - 1) : Int) < (↑datal : Int)) ∧ (∃ s20 : ByteArray, ((cell? w18 (add a19 (Int.toNat (wrap i64 (x8 - 1)) * 1)) = some (string s20)) ∧ (∃ a21 : Addr, ((dataa = some a21) ∧ (((0 : Int) ≤ x8) ∧ (((x8 : Int) < (↑datal : Int)) ∧ (∃ s22 : ByteArray, ((cell? w18 (add a21 (Int.toNat x8 * 1)) = some (string s22)) ∧ (∃ a23 : Addr, ((dataa = some a23) ∧ (((0 : Int) ≤ x8) ∧ (((x8 : Int) < (↑datal : Int)) ∧ (st1 (add (add a23 (Int.toNat x8 * 1)) 0) (string s20) w18 (fun w25 =>
(∃ a26 : Addr, ((dataa = some a26) ∧ (((0 : Int) ≤ wrap i64 (x8 - 1)) ∧ (((wrap i64 (x8 - 1) : Int) < (↑datal : Int)) ∧ (st1 (add (add a26 (Int.toNat (wrap i64 (x8 - 1)) * 1)) 0) (string s22) w25 (fun w28 =>
((z5 (wrap i64 (x8 - 1)) (w28)) ∧ (z6 (wrap i64 (x8 - 1)) w28 < z6 x8 w9))))))))))))))))))))))))))))
((z0 (wrap i64 (x3 + 1)) (w16)) ∧ (z1 (wrap i64 (x3 + 1)) w16 < z1 x3 w4))))))))))))))))))))
((z0 (wrap i64 (x3 + 1)) (w10)) ∧ (z1 (wrap i64 (x3 + 1)) w10 < z1 x3 w4))))))))))))
(R (tuple (Array.mk (List.reverse []))) (w4))))))))))
theorem ca136 (dataa : Option Addr) (datal : Nat) (datac : Nat) (a_ : Int) (b : Int) (w : World) (R : Value → World → Prop) (h : W136 dataa datal datac a_ b w R) : Ca Tryz.prog 136 ⟨[(.slice dataa datal datac), (.int .i64 a_), (.int .i64 b)]⟩ w R :=
  caB (fn := Tryz.f136) (pl := pl136) (ls := ls136) Tryz.func136 (by kernel_rfl) (by kernel_rfl) h
end Go.Proofs.YtgjdandnncjegaaGreatDoor

/- The library's sort of one-cell elements (numbers, strings), at one type of them: Less, insertion sort. -/

namespace Go.Proofs.YtgjdandnncjegaaGreatDoor.Sortstring
open Go Go.Proofs.YtgjdandnncjegaaGreatDoor Go.Proofs.YtgjdandnncjegaaGreatDoor.St

theorem isNaN_ok (x : ByteArray) (w : World) (R : Value → World → Prop) (h : R (.bool false) w) : Ca Tryz.prog 153 #[Value.string x] w R := by
  refine ca153 x w R ?_
  exact (by simpa [W153] using h)
theorem less_ok (x y : ByteArray) (w : World) (R : Value → World → Prop) (h : R (.bool (decide (x < y))) w) : Ca Tryz.prog 142 #[Value.string x, Value.string y] w R := by
  refine ca142 x y w R ?_
  exact isNaN_ok x w _ ⟨false, rfl, (strLess h)⟩

section
variable {e : TypeId} {d : Option Addr} {l c : Nat} {xs : List ByteArray} {w : World}
/-- Is the one less than the other? -/
theorem lss (hd : Els Value.string e w d l c xs) {i j : Int} (m n : Nat) (hi : i = m) (hj : j = n) (hm : m < l) (hn : n < l) {A B : World → Prop} (hA : at0 xs m < at0 xs n → A w) (hB : ¬ at0 xs m < at0 xs n → B w) :
    ∃ ad : Addr, d = some ad ∧ (0 : Int) ≤ i ∧ i < (↑l : Int) ∧ ∃ x : ByteArray, w.cell? (Addr.add ad (Int.toNat i * 1)) = some (Value.string x) ∧
    ∃ ad : Addr, d = some ad ∧ (0 : Int) ≤ j ∧ j < (↑l : Int) ∧ ∃ y : ByteArray, w.cell? (Addr.add ad (Int.toNat j * 1)) = some (Value.string y) ∧
    Ca Tryz.prog 142 (Array.mk [Value.string x, Value.string y]) w (fun v w' => ∃ b : Bool, v = Value.bool b ∧ ifK b (A w') (B w')) :=
  hd.rd m hi hm (hd.rd n hj hn (less_ok _ _ _ _ ⟨_, rfl, ifK_dec hA hB⟩))
/-- Is the one not less than the other? -/
theorem nls (hd : Els Value.string e w d l c xs) {i j : Int} (m n : Nat) (hi : i = m) (hj : j = n) (hm : m < l) (hn : n < l) {A B : World → Prop} (hA : ¬ at0 xs m < at0 xs n → A w) (hB : at0 xs m < at0 xs n → B w) :
    ∃ ad : Addr, d = some ad ∧ (0 : Int) ≤ i ∧ i < (↑l : Int) ∧ ∃ x : ByteArray, w.cell? (Addr.add ad (Int.toNat i * 1)) = some (Value.string x) ∧
    ∃ ad : Addr, d = some ad ∧ (0 : Int) ≤ j ∧ j < (↑l : Int) ∧ ∃ y : ByteArray, w.cell? (Addr.add ad (Int.toNat j * 1)) = some (Value.string y) ∧
    Ca Tryz.prog 142 (Array.mk [Value.string x, Value.string y]) w (fun v w' => ∃ b : Bool, v = Value.bool b ∧ ifK (!b) (A w') (B w')) :=
  hd.rd m hi hm (hd.rd n hj hn (less_ok _ _ _ _ ⟨_, rfl, ifK_not (fun h => hA (of_decide_eq_false h)) (fun h => hB (of_decide_eq_true h))⟩))
end

theorem insertion_ok (e : TypeId) (d : Option Addr) (l c : Nat) (a b : Nat) (xs : List ByteArray) (w : World) (hd : Els Value.string e w d l c xs) (hab : a ≤ b) (hb : b ≤ l) (hl : l < 4611686018427387904) (R : Value → World → Prop)
    (h : ∀ w' ys, Els Value.string e w' d l c ys → Seg a b xs ys → Srt ys a b → Mod (rowB d) w w' → R (.tuple #[]) w') :
    Ca Tryz.prog 136 #[.slice d l c, .int .i64 a, .int .i64 b] w R := by
  obtain ⟨hxl, hlc, hcm⟩ := hd.len
  refine ca136 d l c a b w R ?_
  refine ⟨fun x w' => ∃ (i : Nat) (ys : List ByteArray), x = i ∧ a < i ∧ (i ≤ b ∨ i = a + 1) ∧ Els Value.string e w' d l c ys ∧ Seg a b xs ys ∧ Srt ys a (min i b) ∧ Mod (rowB d) w w',
    fun x _ => ((b : Int) - x).toNat, ⟨a + 1, xs, (by first | (simp only [IntKind.wrap_i64]; omega) | omega), by omega, .inr rfl, hd, Seg.refl _ _ _, Srt.nil _ _ _ (by omega), Mod.refl _ _⟩, ?_⟩
  rintro _ x w4 ⟨i, ys, rfl, hai, hib, hys, hseg, hsrt, hm⟩
  refine ifK_dec (fun hlt => ?_) (fun hge => ?_)
  · have hsrt : Srt ys a i := by rwa [Nat.min_eq_left (by omega)] at hsrt
    refine ⟨fun x w' => ∃ (j : Nat) (zs : List ByteArray), x = j ∧ a ≤ j ∧ j ≤ i ∧ Els Value.string e w' d l c zs ∧ Seg a b xs zs ∧ Ins zs a i j ∧ Mod (rowB d) w w', fun x _ => (x - a).toNat,
      ⟨i, ys, rfl, by omega, Nat.le_refl _, hys, hseg, Ins.start hsrt, hm⟩, ?_⟩
    rintro _ x w9 ⟨j, zs, rfl, haj, hji, hzs, hsg, hins, hm9⟩
    have hzl := hzs.len.1
    intro w10 e10
    have m10 : Mod no w9 w10 := by subst e10; exact Mod.drew _
    clear e10
    have hz10 := hzs.no m10
    have hm10 := hm9.trans_no m10
    have next : (j ≤ a ∨ at0 zs (j - 1) ≤ at0 zs j) → (∃ (i' : Nat) (ys : List ByteArray), IntKind.i64.wrap ((i : Int) + 1) = i' ∧ a < i' ∧ (i' ≤ b ∨ i' = a + 1) ∧ Els Value.string e w10 d l c ys ∧ Seg a b xs ys ∧ Srt ys a (min i' b) ∧ Mod (rowB d) w w10) ∧
        ((b : Int) - IntKind.i64.wrap ((i : Int) + 1)).toNat < ((b : Int) - i).toNat := by
      intro hj
      refine ⟨⟨i + 1, zs, (by first | (simp only [IntKind.wrap_i64]; omega) | omega), by omega, .inl (by omega), hz10, hsg, ?_, hm10⟩, (by first | (simp only [IntKind.wrap_i64]; omega) | omega)⟩
      rw [Nat.min_eq_left (by omega)]
      exact hins.done hj
    refine ifK_dec (fun hgt => ?_) (fun hle => next (.inl (by omega)))
    refine lss hz10 j (j - 1) rfl (by first | (simp only [IntKind.wrap_i64]; omega) | omega) (by omega) (by omega) (fun hls => ?_) (fun hls => next (.inr (Lin.nlt hls)))
    intro w18 e18
    have m18 : Mod no w10 w18 := by subst e18; exact Mod.drew _
    clear e18
    refine (hz10.no m18).swp j (j - 1) rfl (by first | (simp only [IntKind.wrap_i64]; omega) | omega) (by omega) (by omega) fun w28 hz28 m28 => ?_
    exact ⟨⟨j - 1, swapL zs j (j - 1), (by first | (simp only [IntKind.wrap_i64]; omega) | omega), by omega, by omega, hz28, hsg.trans (Seg.swap (by omega) (by omega) (by omega) (by omega) (by omega) (by omega)),
      hins.step (by omega) (by omega) hji hls, (hm10.trans_no m18).trans m28⟩, (by first | (simp only [IntKind.wrap_i64]; omega) | omega)⟩
  · rw [Nat.min_eq_right (by omega)] at hsrt
    exact h w4 ys hys hseg hsrt hm
end Go.Proofs.YtgjdandnncjegaaGreatDoor.Sortstring

/- The formulas of functions, printed by a program of mine (gen.py) out of the translation. -/
namespace Go.Proofs.YtgjdandnncjegaaGreatDoor
open Go Go.Proofs.YtgjdandnncjegaaGreatDoor.St
open _root_.Go.Value (string int bool slice pointer agg tuple map func nilFunc iface)
open _root_.Go.World (cell? frozen? setCell alloc drew)
open _root_.Go.Addr (add)
open _root_.Go.Obj (cells)
open _root_.Go.IntKind (wrap i64 u64 i32 u32 u8)
set_option maxRecDepth 100000

/-- math/bits.Len64 -/
noncomputable def C116 : Code := (Tryz.f116.body).getD .skip
def pl116 : Nat → Plan := fun _ => .done
def ls116 : Nat → List (Nat × LT) := fun _ => []
def W116 (x : Int) (w : World) (R : Value → World → Prop) : Prop :=
  (ifK (decide (x ≥ 4294967296))
(((0 : Int) ≤ 32) ∧ (ifK (decide (Int.fdiv x (2 ^ 32) ≥ 65536))
(((0 : Int) ≤ 16) ∧ (ifK (decide (Int.fdiv (Int.fdiv x (2 ^ 32)) (2 ^ 16) ≥ 256))
(((0 : Int) ≤ 8) ∧ (((0 : Int) ≤ wrap u8 (Int.fdiv (Int.fdiv (Int.fdiv x (2 ^ 32)) (2 ^ 16)) (2 ^ 8))) ∧ (((wrap u8 (Int.fdiv (Int.fdiv (Int.fdiv x (2 ^ 32)) (2 ^ 16)) (2 ^ 8)) : Int) < (↑256 : Int)) ∧ (R (int i64 (wrap i64 (wrap i64 (wrap i64 (32 + 16) + 8) + wrap i64 (byteAt (ByteArray.mk #[0, 1, 2, 2, 3, 3, 3, 3, 4, 4, 4, 4, 4, 4, 4, 4, 5, 5, 5, 5, 5, 5, 5, 5, 5, 5, 5, 5, 5, 5, 5, 5, 6, 6, 6, 6, 6, 6, 6, 6, 6, 6, 6, 6, 6, 6, 6, 6, 6, 6, 6, 6, 6, 6, 6, 6, 6, 6, 6, 6, 6, 6, 6, 6, 7, 7, 7, 7, 7, 7, 7, 7, 7, 7, 7, 7, 7, 7, 7, 7, 7, 7, 7, 7, 7, 7, 7, 7, 7, 7, 7, 7, 7, 7, 7, 7, 7, 7, 7, 7, 7, 7, 7, 7, 7, 7, 7, 7, 7, 7, 7, 7, 7, 7, 7, 7, 7, 7, 7, 7, 7, 7, 7, 7, 7, 7, 7, 7, 8, 8, 8, 8, 8, 8, 8, 8, 8, 8, 8, 8, 8, 8, 8, 8, 8, 8, 8, 8, 8, 8, 8, 8, 8, 8, 8, 8, 8, 8, 8, 8, 8, 8, 8, 8, 8, 8, 8, 8, 8, 8, 8, 8, 8, 8, 8, 8, 8, 8, 8, 8, 8, 8, 8, 8, 8, 8, 8, 8, 8, 8, 8, 8, 8, 8, 8, 8, 8, 8, 8, 8, 8, 8, 8, 8, 8, 8, 8, 8, 8, 8, 8, 8, 8, 8, 8, 8, 8, 8, 8, 8, 8, 8, 8, 8, 8, 8, 8, 8, 8, 8, 8, 8, 8, 8, 8, 8, 8, 8, 8, 8, 8, 8, 8, 8, 8, 8, 8, 8, 8, 8, 8, 8, 8, 8, 8, 8]) (Int.toNat (wrap u8 (Int.fdiv (Int.fdiv (Int.fdiv x (2 ^ 32)) (2 ^ 16)) (2 ^ 8)))))))) (w)))))
(((0 : Int) ≤ wrap u8 (Int.fdiv (Int.fdiv x (2 ^ 32)) (2 ^ 16))) ∧ (((wrap u8 (Int.fdiv (Int.fdiv x (2 ^ 32)) (2 ^ 16)) : Int) < (↑256 : Int)) ∧ (R (int i64 (wrap i64 (wrap i64 (32 + 16) + wrap i64 (byteAt (ByteArray.mk #[0, 1, 2, 2, 3, 3, 3, 3, 4, 4, 4, 4, 4, 4, 4, 4, 5, 5, 5, 5, 5, 5, 5, 5, 5, 5, 5, 5, 5, 5, 5, 5, 6, 6, 6, 6, 6, 6, 6, 6, 6, 6, 6, 6, 6, 6, 6, 6, 6, 6, 6, 6, 6, 6, 6, 6, 6, 6, 6, 6, 6, 6, 6, 6, 7, 7, 7, 7, 7, 7, 7, 7, 7, 7, 7, 7, 7, 7, 7, 7, 7, 7, 7, 7, 7, 7, 7, 7, 7, 7, 7, 7, 7, 7, 7, 7, 7, 7, 7, 7, 7, 7, 7, 7, 7, 7, 7, 7, 7, 7, 7, 7, 7, 7, 7, 7, 7, 7, 7, 7, 7, 7, 7, 7, 7, 7, 7, 7, 8, 8, 8, 8, 8, 8, 8, 8, 8, 8, 8, 8, 8, 8, 8, 8, 8, 8, 8, 8, 8, 8, 8, 8, 8, 8, 8, 8, 8, 8, 8, 8, 8, 8, 8, 8, 8, 8, 8, 8, 8, 8, 8, 8, 8, 8, 8, 8, 8, 8, 8, 8, 8, 8, 8, 8, 8, 8, 8, 8, 8, 8, 8, 8, 8, 8, 8, 8, 8, 8, 8, 8, 8, 8, 8, 8, 8, 8, 8, 8, 8, 8, 8, 8, 8, 8, 8, 8, 8, 8, 8, 8, 8, 8, 8, 8, 8, 8, 8, 8, 8, 8, 8, 8, 8, 8, 8, 8, 8, 8, 8, 8, 8, 8, 8, 8, 8, 8, 8, 8, 8, 8, 8, 8, 8, 8, 8, 8]) (Int.toNat (wrap u8 (Int.fdiv (Int.fdiv x (2 ^ 32)) (2 ^ 16)))))))) (w))))))
(ifK (decide (Int.fdiv x (2 ^ 32) ≥ 256))
(((0 : Int) ≤ 8) ∧ (((0 : Int) ≤ wrap u8 (Int.fdiv (Int.fdiv x (2 ^ 32)) (2 ^ 8))) ∧ (((wrap u8 (Int.fdiv (Int.fdiv x (2 ^ 32)) (2 ^ 8)) : Int) < (↑256 : Int)) ∧ (R (int i64 (wrap i64 (wrap i64 (32 + 8) + wrap i64 (byteAt (ByteArray.mk #[0, 1, 2, 2, 3, 3, 3, 3, 4, 4, 4, 4, 4, 4, 4, 4, 5, 5, 5, 5, 5, 5, 5, 5, 5, 5, 5, 5, 5, 5, 5, 5, 6, 6, 6, 6, 6, 6, 6, 6, 6, 6, 6, 6, 6, 6, 6, 6, 6, 6, 6, 6, 6, 6, 6, 6, 6, 6, 6, 6, 6, 6, 6, 6, 7, 7, 7, 7, 7, 7, 7, 7, 7, 7, 7, 7, 7, 7, 7, 7, 7, 7, 7, 7, 7, 7, 7, 7, 7, 7, 7, 7, 7, 7, 7, 7, 7, 7, 7, 7, 7, 7, 7, 7, 7, 7, 7, 7, 7, 7, 7, 7, 7, 7, 7, 7, 7, 7, 7, 7, 7, 7, 7, 7, 7, 7, 7, 7, 8, 8, 8, 8, 8, 8, 8, 8, 8, 8, 8, 8, 8, 8, 8, 8, 8, 8, 8, 8, 8, 8, 8, 8, 8, 8, 8, 8, 8, 8, 8, 8, 8, 8, 8, 8, 8, 8, 8, 8, 8, 8, 8, 8, 8, 8, 8, 8, 8, 8, 8, 8, 8, 8, 8, 8, 8, 8, 8, 8, 8, 8, 8, 8, 8, 8, 8, 8, 8, 8, 8, 8, 8, 8, 8, 8, 8, 8, 8, 8, 8, 8, 8, 8, 8, 8, 8, 8, 8, 8, 8, 8, 8, 8, 8, 8, 8, 8, 8, 8, 8, 8, 8, 8, 8, 8, 8, 8, 8, 8, 8, 8, 8, 8, 8, 8, 8, 8, 8, 8, 8, 8, 8, 8, 8, 8, 8, 8]) (Int.toNat (wrap u8 (Int.fdiv (Int.fdiv x (2 ^ 32)) (2 ^ 8)))))))) (w)))))
(((0 : Int) ≤ wrap u8 (Int.fdiv x (2 ^ 32))) ∧ (((wrap u8 (Int.fdiv x (2 ^ 32)) : Int) < (↑256 : Int)) ∧ (R (int i64 (wrap i64 (32 + wrap i64 (byteAt (ByteArray.mk #[0, 1, 2, 2, 3, 3, 3, 3, 4, 4, 4, 4, 4, 4, 4, 4, 5, 5, 5, 5, 5, 5, 5, 5, 5, 5, 5, 5, 5, 5, 5, 5, 6, 6, 6, 6, 6, 6, 6, 6, 6, 6, 6, 6, 6, 6, 6, 6, 6, 6, 6, 6, 6, 6, 6, 6, 6, 6, 6, 6, 6, 6, 6, 6, 7, 7, 7, 7, 7, 7, 7, 7, 7, 7, 7, 7, 7, 7, 7, 7, 7, 7, 7, 7, 7, 7, 7, 7, 7, 7, 7, 7, 7, 7, 7, 7, 7, 7, 7, 7, 7, 7, 7, 7, 7, 7, 7, 7, 7, 7, 7, 7, 7, 7, 7, 7, 7, 7, 7, 7, 7, 7, 7, 7, 7, 7, 7, 7, 8, 8, 8, 8, 8, 8, 8, 8, 8, 8, 8, 8, 8, 8, 8, 8, 8, 8, 8, 8, 8, 8, 8, 8, 8, 8, 8, 8, 8, 8, 8, 8, 8, 8, 8, 8, 8, 8, 8, 8, 8, 8, 8, 8, 8, 8, 8, 8, 8, 8, 8, 8, 8, 8, 8, 8, 8, 8, 8, 8, 8, 8, 8, 8, 8, 8, 8, 8, 8, 8, 8, 8, 8, 8, 8, 8, 8, 8, 8, 8, 8, 8, 8, 8, 8, 8, 8, 8, 8, 8, 8, 8, 8, 8, 8, 8, 8, 8, 8, 8, 8, 8, 8, 8, 8, 8, 8, 8, 8, 8, 8, 8, 8, 8, 8, 8, 8, 8, 8, 8, 8, 8, 8, 8, 8, 8, 8, 8]) (Int.toNat (wrap u8 (Int.fdiv x (2 ^ 32)))))))) (w)))))))
(ifK (decide (x ≥ 65536))
(((0 : Int) ≤ 16) ∧ (ifK (decide (Int.fdiv x (2 ^ 16) ≥ 256))
(((0 : Int) ≤ 8) ∧ (((0 : Int) ≤ wrap u8 (Int.fdiv (Int.fdiv x (2 ^ 16)) (2 ^ 8))) ∧ (((wrap u8 (Int.fdiv (Int.fdiv x (2 ^ 16)) (2 ^ 8)) : Int) < (↑256 : Int)) ∧ (R (int i64 (wrap i64 (wrap i64 (wrap i64 (0 + 16) + 8) + wrap i64 (byteAt (ByteArray.mk #[0, 1, 2, 2, 3, 3, 3, 3, 4, 4, 4, 4, 4, 4, 4, 4, 5, 5, 5, 5, 5, 5, 5, 5, 5, 5, 5, 5, 5, 5, 5, 5, 6, 6, 6, 6, 6, 6, 6, 6, 6, 6, 6, 6, 6, 6, 6, 6, 6, 6, 6, 6, 6, 6, 6, 6, 6, 6, 6, 6, 6, 6, 6, 6, 7, 7, 7, 7, 7, 7, 7, 7, 7, 7, 7, 7, 7, 7, 7, 7, 7, 7, 7, 7, 7, 7, 7, 7, 7, 7, 7, 7, 7, 7, 7, 7, 7, 7, 7, 7, 7, 7, 7, 7, 7, 7, 7, 7, 7, 7, 7, 7, 7, 7, 7, 7, 7, 7, 7, 7, 7, 7, 7, 7, 7, 7, 7, 7, 8, 8, 8, 8, 8, 8, 8, 8, 8, 8, 8, 8, 8, 8, 8, 8, 8, 8, 8, 8, 8, 8, 8, 8, 8, 8, 8, 8, 8, 8, 8, 8, 8, 8, 8, 8, 8, 8, 8, 8, 8, 8, 8, 8, 8, 8, 8, 8, 8, 8, 8, 8, 8, 8, 8, 8, 8, 8, 8, 8, 8, 8, 8, 8, 8, 8, 8, 8, 8, 8, 8, 8, 8, 8, 8, 8, 8, 8, 8, 8, 8, 8, 8, 8, 8, 8, 8, 8, 8, 8, 8, 8, 8, 8, 8, 8, 8, 8, 8, 8, 8, 8, 8, 8, 8, 8, 8, 8, 8, 8, 8, 8, 8, 8, 8, 8, 8, 8, 8, 8, 8, 8, 8, 8, 8, 8, 8, 8]) (Int.toNat (wrap u8 (Int.fdiv (Int.fdiv x (2 ^ 16)) (2 ^ 8)))))))) (w)))))
(((0 : Int) ≤ wrap u8 (Int.fdiv x (2 ^ 16))) ∧ (((wrap u8 (Int.fdiv x (2 ^ 16)) : Int) < (↑256 : Int)) ∧ (R (int i64 (wrap i64 (wrap i64 (0 + 16) + wrap i64 (byteAt (ByteArray.mk #[0, 1, 2, 2, 3, 3, 3, 3, 4, 4, 4, 4, 4, 4, 4, 4, 5, 5, 5, 5, 5, 5, 5, 5, 5, 5, 5, 5, 5, 5, 5, 5, 6, 6, 6, 6, 6, 6, 6, 6, 6, 6, 6, 6, 6, 6, 6, 6, 6, 6, 6, 6, 6, 6, 6, 6, 6, 6, 6, 6, 6, 6, 6, 6, 7, 7, 7, 7, 7, 7, 7, 7, 7, 7, 7, 7, 7, 7, 7, 7, 7, 7, 7, 7, 7, 7, 7, 7, 7, 7, 7, 7, 7, 7, 7, 7, 7, 7, 7, 7, 7, 7, 7, 7, 7, 7, 7, 7, 7, 7, 7, 7, 7, 7, 7, 7, 7, 7, 7, 7, 7, 7, 7, 7, 7, 7, 7, 7, 8, 8, 8, 8, 8, 8, 8, 8, 8, 8, 8, 8, 8, 8, 8, 8, 8, 8, 8, 8, 8, 8, 8, 8, 8, 8, 8, 8, 8, 8, 8, 8, 8, 8, 8, 8, 8, 8, 8, 8, 8, 8, 8, 8, 8, 8, 8, 8, 8, 8, 8, 8, 8, 8, 8, 8, 8, 8, 8, 8, 8, 8, 8, 8, 8, 8, 8, 8, 8, 8, 8, 8, 8, 8, 8, 8, 8, 8, 8, 8, 8, 8, 8, 8, 8, 8, 8, 8, 8, 8, 8, 8, 8, 8, 8, 8, 8, 8, 8, 8, 8, 8, 8, 8, 8, 8, 8, 8, 8, 8, 8, 8, 8, 8, 8, 8, 8, 8, 8, 8, 8, 8, 8, 8, 8, 8, 8, 8]) (Int.toNat (wrap u8 (Int.fdiv x (2 ^ 16)))))))) (w))))))
(ifK (decide (x ≥ 256))
(((0 : Int) ≤ 8) ∧ (((0 : Int) ≤ wrap u8 (Int.fdiv x (2 ^ 8))) ∧ (((wrap u8 (Int.fdiv x (2 ^ 8)) : Int) < (↑256 : Int)) ∧ (R (int i64 (wrap i64 (wrap i64 (0 + 8) + wrap i64 (byteAt (ByteArray.mk #[0, 1, 2, 2, 3, 3, 3, 3, 4, 4, 4, 4, 4, 4, 4, 4, 5, 5, 5, 5, 5, 5, 5, 5, 5, 5, 5, 5, 5, 5, 5, 5, 6, 6, 6, 6, 6, 6, 6, 6, 6, 6, 6, 6, 6, 6, 6, 6, 6, 6, 6, 6, 6, 6, 6, 6, 6, 6, 6, 6, 6, 6, 6, 6, 7, 7, 7, 7, 7, 7, 7, 7, 7, 7, 7, 7, 7, 7, 7, 7, 7, 7, 7, 7, 7, 7, 7, 7, 7, 7, 7, 7, 7, 7, 7, 7, 7, 7, 7, 7, 7, 7, 7, 7, 7, 7, 7, 7, 7, 7, 7, 7, 7, 7, 7, 7, 7, 7, 7, 7, 7, 7, 7, 7, 7, 7, 7, 7, 8, 8, 8, 8, 8, 8, 8, 8, 8, 8, 8, 8, 8, 8, 8, 8, 8, 8, 8, 8, 8, 8, 8, 8, 8, 8, 8, 8, 8, 8, 8, 8, 8, 8, 8, 8, 8, 8, 8, 8, 8, 8, 8, 8, 8, 8, 8, 8, 8, 8, 8, 8, 8, 8, 8, 8, 8, 8, 8, 8, 8, 8, 8, 8, 8, 8, 8, 8, 8, 8, 8, 8, 8, 8, 8, 8, 8, 8, 8, 8, 8, 8, 8, 8, 8, 8, 8, 8, 8, 8, 8, 8, 8, 8, 8, 8, 8, 8, 8, 8, 8, 8, 8, 8, 8, 8, 8, 8, 8, 8, 8, 8, 8, 8, 8, 8, 8, 8, 8, 8, 8, 8, 8, 8, 8, 8, 8, 8]) (Int.toNat (wrap u8 (Int.fdiv x (2 ^ 8)))))))) (w)))))
(((0 : Int) ≤ wrap u8 x) ∧ (((wrap u8 x : Int) < (↑256 : Int)) ∧ (R (int i64 (wrap i64 (0 + wrap i64 (byteAt (ByteArray.mk #[0, 1, 2, 2, 3, 3, 3, 3, 4, 4, 4, 4, 4, 4, 4, 4, 5, 5, 5, 5, 5, 5, 5, 5, 5, 5, 5, 5, 5, 5, 5, 5, 6, 6, 6, 6, 6, 6, 6, 6, 6, 6, 6, 6, 6, 6, 6, 6, 6, 6, 6, 6, 6, 6, 6, 6, 6, 6, 6, 6, 6, 6, 6, 6, 7, 7, 7, 7, 7, 7, 7, 7, 7, 7, 7, 7, 7, 7, 7, 7, 7, 7, 7, 7, 7, 7, 7, 7, 7, 7, 7, 7, 7, 7, 7, 7, 7, 7, 7, 7, 7, 7, 7, 7, 7, 7, 7, 7, 7, 7, 7, 7, 7, 7, 7, 7, 7, 7, 7, 7, 7, 7, 7, 7, 7, 7, 7, 7, 8, 8, 8, 8, 8, 8, 8, 8, 8, 8, 8, 8, 8, 8, 8, 8, 8, 8, 8, 8, 8, 8, 8, 8, 8, 8, 8, 8, 8, 8, 8, 8, 8, 8, 8, 8, 8, 8, 8, 8, 8, 8, 8, 8, 8, 8, 8, 8, 8, 8, 8, 8, 8, 8, 8, 8, 8, 8, 8, 8, 8, 8, 8, 8, 8, 8, 8, 8, 8, 8, 8, 8, 8, 8, 8, 8, 8, 8, 8, 8, 8, 8, 8, 8, 8, 8, 8, 8, 8, 8, 8, 8, 8, 8, 8, 8, 8, 8, 8, 8, 8, 8, 8, 8, 8, 8, 8, 8, 8, 8, 8, 8, 8, 8, 8, 8, 8, 8, 8, 8, 8, 8, 8, 8, 8, 8, 8, 8]) (Int.toNat (wrap u8 x)))))) (w)))))))
theorem ca116 (x : Int) (w : World) (R : Value → World → Prop) (h : W116 x w R) : Ca Tryz.prog 116 ⟨[(.int .u64 x)]⟩ w R :=
  caB (fn := Tryz.f116) (pl := pl116) (ls := ls116) Tryz.func116 (by kernel_rfl) (by kernel_rfl) h

/-- math/bits.Len -/
noncomputable def C93 : Code := (Tryz.f93.body).getD .skip
def pl93 : Nat → Plan := fun _ => .done
def ls93 : Nat → List (Nat × LT) := fun _ => []
def W93 (x : Int) (w : World) (R : Value → World → Prop) : Prop :=
  (Ca Tryz.prog (116) (Array.mk [int u64 x]) (w) (fun v0 => (fun w1 =>
(∃ x2 : Int, ((v0 = int i64 x2) ∧ (R (int i64 x2) (w1)))))))
theorem ca93 (x : Int) (w : World) (R : Value → World → Prop) (h : W93 x w R) : Ca Tryz.prog 93 ⟨[(.int .u64 x)]⟩ w R :=
  caB (fn := Tryz.f93) (pl := pl93) (ls := ls93) Tryz.func93 (by kernel_rfl) (by kernel_rfl) h
end Go.Proofs.YtgjdandnncjegaaGreatDoor

/- The library's bits.Len: a number n comes out, and 2^n is at most twice what was asked. -/
namespace Go.Proofs.YtgjdandnncjegaaGreatDoor
open Go Go.Proofs.YtgjdandnncjegaaGreatDoor.St

theorem fdivP (x : Int) (n : Nat) : Int.fdiv x (2 ^ n) = x / 2 ^ n := Int.fdiv_eq_ediv_of_nonneg x (Int.le_of_lt (Int.pow_pos (by decide)))
def lenTab (T : ByteArray) : Bool := (List.range 256).all fun n => Nat.ble (byteAt T n).toNat 8 && (byteAt T n == ((byteAt T n).toNat : Int)) && (n == 0 || Nat.ble (2 ^ (byteAt T n).toNat) (2 * n))
theorem len_leaf {x y A : Int} {R : Value → World → Prop} {w : World} {T : ByteArray} (h : ∀ n : Nat, (0 < x → x < 18446744073709551616 → n ≤ 64 ∧ (2 : Int) ^ n ≤ 2 * x) → R (.int .i64 n) w) (hT : lenTab T = true) (N : Nat) (hA : A = N) (hN : N ≤ 56)
    (hy : 0 < x → x < 18446744073709551616 → 0 < y ∧ y < 256 ∧ 2 ^ N * y ≤ x) : R (.int .i64 (IntKind.wrap .i64 (A + IntKind.wrap .i64 (byteAt T (Int.toNat (IntKind.wrap .u8 y)))))) w := by
  have hu : (0 : Int) ≤ IntKind.wrap .u8 y ∧ IntKind.wrap .u8 y < 256 := by rw [IntKind.wrap_u8]; omega
  obtain ⟨n, hn⟩ : ∃ n : Nat, IntKind.wrap .u8 y = n := ⟨_, (Int.toNat_of_nonneg hu.1).symm⟩
  have hn' : n < 256 := by omega
  have ht := List.all_eq_true.1 hT n (List.mem_range.2 hn')
  simp only [Bool.and_eq_true, Bool.or_eq_true, beq_iff_eq, Nat.ble_eq] at ht
  obtain ⟨⟨h1, h2⟩, h3⟩ := ht
  generalize hk : (byteAt T n).toNat = k at h1 h2 h3
  have e1 : IntKind.wrap .i64 (A + IntKind.wrap .i64 (byteAt T (Int.toNat (IntKind.wrap .u8 y)))) = ((N + k : Nat) : Int) := by
    rw [hn, Int.toNat_natCast, h2, hA, wrap64 (x := (k : Int)) (by omega) (by omega), wrap64 (by omega) (by omega)]; rfl
  rw [e1]
  refine h _ fun h4 h5 => ⟨by omega, ?_⟩
  obtain ⟨h6, h7, h8⟩ := hy h4 h5
  have hyn : y = n := by rw [IntKind.wrap_u8] at hn; omega
  have h9 : (2 ^ k : Nat) ≤ 2 * n := by rcases h3 with h3 | h3 <;> omega
  have h10 : ((2 ^ k : Nat) : Int) ≤ 2 * y := by omega
  rw [Int.pow_add]
  have h11 : (2 : Int) ^ N * 2 ^ k ≤ 2 ^ N * (2 * y) := by
    refine Int.mul_le_mul_of_nonneg_left ?_ (Int.le_of_lt (Int.pow_pos (by decide)))
    simpa using h10
  have h12 : (2 : Int) ^ N * (2 * y) = 2 * (2 ^ N * y) := by rw [← Int.mul_assoc, Int.mul_comm _ 2, Int.mul_assoc]
  omega
theorem len64_ok (x : Int) (w : World) (R : Value → World → Prop) (h : ∀ n : Nat, (0 < x → x < 18446744073709551616 → n ≤ 64 ∧ 2 ^ n ≤ 2 * x) → R (.int .i64 n) w) : Ca Tryz.prog 116 #[.int .u64 x] w R := by
  refine ca116 x w R ?_
  have hu : ∀ y, (0 : Int) ≤ IntKind.wrap .u8 y ∧ IntKind.wrap .u8 y < 256 := fun y => by rw [IntKind.wrap_u8]; omega
  rw [W116]
  repeat' first
    | exact len_leaf h (by kernel_rfl) 0 (by decide) (by decide) (by first | omega | (simp only [fdivP] at *; omega))
    | exact len_leaf h (by kernel_rfl) 8 (by decide) (by decide) (by first | omega | (simp only [fdivP] at *; omega))
    | exact len_leaf h (by kernel_rfl) 16 (by decide) (by decide) (by first | omega | (simp only [fdivP] at *; omega))
    | exact len_leaf h (by kernel_rfl) 24 (by decide) (by decide) (by first | omega | (simp only [fdivP] at *; omega))
    | exact len_leaf h (by kernel_rfl) 32 (by decide) (by decide) (by first | omega | (simp only [fdivP] at *; omega))
    | exact len_leaf h (by kernel_rfl) 40 (by decide) (by decide) (by first | omega | (simp only [fdivP] at *; omega))
    | exact len_leaf h (by kernel_rfl) 48 (by decide) (by decide) (by first | omega | (simp only [fdivP] at *; omega))
    | exact len_leaf h (by kernel_rfl) 56 (by decide) (by decide) (by first | omega | (simp only [fdivP] at *; omega))
    | refine ifK_dec (fun _ => ?_) (fun _ => ?_)
    | refine ⟨by decide, ?_⟩
    | refine ⟨(hu _).1, (hu _).2, ?_⟩
theorem bitsLen_ok (x : Int) (w : World) (R : Value → World → Prop) (h : ∀ n : Nat, (0 < x → x < 18446744073709551616 → n ≤ 64 ∧ 2 ^ n ≤ 2 * x) → R (.int .i64 n) w) : Ca Tryz.prog 93 #[.int .u64 x] w R := by
  refine ca93 x w R ?_
  exact len64_ok x w _ fun n hn => ⟨n, rfl, h n hn⟩
end Go.Proofs.YtgjdandnncjegaaGreatDoor

/- The formulas of functions, printed by a program of mine (gen.py) out of the translation. -/
namespace Go.Proofs.YtgjdandnncjegaaGreatDoor
open Go Go.Proofs.YtgjdandnncjegaaGreatDoor.St
open _root_.Go.Value (string int bool slice pointer agg tuple map func nilFunc iface)
open _root_.Go.World (cell? frozen? setCell alloc drew)
open _root_.Go.Addr (add)
open _root_.Go.Obj (cells)
open _root_.Go.IntKind (wrap i64 u64 i32 u32 u8)
set_option maxRecDepth 100000

/-- slices.nextPowerOfTwo -/
noncomputable def C127 : Code := (Tryz.f127.body).getD .skip
def pl127 : Nat → Plan := fun _ => .done
def ls127 : Nat → List (Nat × LT) := fun _ => []
def W127 (length : Int) (w : World) (R : Value → World → Prop) : Prop :=
  (Ca Tryz.prog (93) (Array.mk [int u64 (wrap u64 length)]) (w) (fun v0 => (fun w1 =>
(∃ x2 : Int, ((v0 = int i64 x2) ∧ (((0 : Int) ≤ x2) ∧ (R (int u64 (wrap u64 (1 * 2 ^ min (Int.toNat x2) 64))) (w1))))))))
theorem ca127 (length : Int) (w : World) (R : Value → World → Prop) (h : W127 length w R) : Ca Tryz.prog 127 ⟨[(.int .i64 length)]⟩ w R :=
  caB (fn := Tryz.f127) (pl := pl127) (ls := ls127) Tryz.func127 (by kernel_rfl) (by kernel_rfl) h

/-- (*slices.xorshift).Next -/
noncomputable def C128 : Code := (Tryz.f128.body).getD .skip
def pl128 : Nat → Plan
  | 1 => (.quiet 0 (.quiet 1 (.quiet 2 (.quiet 3 (.quiet 4 (.quiet 5 (.quiet 6 (.quiet 7 (.quiet 8 (.eff 9 [] .done))))))))))
  | 2 => (.quiet 0 (.quiet 1 (.quiet 2 (.quiet 3 (.quiet 4 (.quiet 5 (.quiet 6 (.quiet 7 (.quiet 8 (.eff 9 [] .done))))))))))
  | 3 => (.quiet 0 (.quiet 1 (.quiet 2 (.quiet 3 (.quiet 4 (.quiet 5 (.quiet 6 (.quiet 7 (.quiet 8 (.eff 9 [] .done))))))))))
  | _ => .done
def ls128 : Nat → List (Nat × LT) := fun _ => []
def W128 (r : Option Addr) (w : World) (R : Value → World → Prop) : Prop :=
  (atW (drew w) (fun w0 =>
(onP (r) (fun a1 =>
(∃ x2 : Int, ((cell? w0 a1 = some (int u64 x2)) ∧ (onP (r) (fun a3 =>
(∃ x4 : Int, ((cell? w0 a3 = some (int u64 x4)) ∧ (((0 : Int) ≤ 13) ∧ (onP (r) (fun a5 =>
((∃ v6 : Value, (cell? w0 (add a5 0) = some v6)) ∧ ((frozen? w0 (add a5 0) = false) ∧ (atW (setCell w0 (add a5 0) (int u64 (wrap u64 (↑(BitVec.toNat (BitVec.ofInt 64 x2 ^^^ BitVec.ofInt 64 (wrap u64 (x4 * 2 ^ 13)))) : Int)))) (fun w7 =>
(atW (drew w7) (fun w8 =>
(onP (r) (fun a9 =>
(∃ x10 : Int, ((cell? w8 a9 = some (int u64 x10)) ∧ (onP (r) (fun a11 =>
(∃ x12 : Int, ((cell? w8 a11 = some (int u64 x12)) ∧ (((0 : Int) ≤ 7) ∧ (onP (r) (fun a13 =>
((∃ v14 : Value, (cell? w8 (add a13 0) = some v14)) ∧ ((frozen? w8 (add a13 0) = false) ∧ (atW (setCell w8 (add a13 0) (int u64 (wrap u64 (↑(BitVec.toNat (BitVec.ofInt 64 x10 ^^^ BitVec.ofInt 64 (Int.fdiv x12 (2 ^ 7)))) : Int)))) (fun w15 =>
(atW (drew w15) (fun w16 =>
(onP (r) (fun a17 =>
(∃ x18 : Int, ((cell? w16 a17 = some (int u64 x18)) ∧ (onP (r) (fun a19 =>
(∃ x20 : Int, ((cell? w16 a19 = some (int u64 x20)) ∧ (((0 : Int) ≤ 17) ∧ (onP (r) (fun a21 =>
((∃ v22 : Value, (cell? w16 (add a21 0) = some v22)) ∧ ((frozen? w16 (add a21 0) = false) ∧ (atW (setCell w16 (add a21 0) (int u64 (wrap u64 (↑(BitVec.toNat (BitVec.ofInt 64 x18 ^^^ BitVec.ofInt 64 (wrap u64 (x20 * 2 ^ 17)))) : Int)))) (fun w23 =>
(onP (r) (fun a24 =>
(∃ x25 : Int, ((cell? w23 a24 = some (int u64 x25)) ∧ (R (int u64 x25) (w23)))))))))))))))))))))))))))))))))))))))))))))))))))))))))
theorem ca128 (r : Option Addr) (w : World) (R : Value → World → Prop) (h : W128 r w R) : Ca Tryz.prog 128 ⟨[(.pointer r)]⟩ w R :=
  caB (fn := Tryz.f128) (pl := pl128) (ls := ls128) Tryz.func128 (by kernel_rfl) (by kernel_rfl) h
end Go.Proofs.YtgjdandnncjegaaGreatDoor

/- The formulas of functions, printed by a program of mine (gen.py) out of the translation. -/
namespace Go.Proofs.YtgjdandnncjegaaGreatDoor
open Go Go.Proofs.YtgjdandnncjegaaGreatDoor.St
open _root_.Go.Value (string int bool slice pointer agg tuple map func nilFunc iface)
open _root_.Go.World (cell? frozen? setCell alloc drew)
open _root_.Go.Addr (add)
open _root_.Go.Obj (cells)
open _root_.Go.IntKind (wrap i64 u64 i32 u32 u8)
set_option maxRecDepth 100000

/-- slices.order2Ordered[string] -/
noncomputable def C154 : Code := (Tryz.f154.body).getD .skip
def pl154 : Nat → Plan
  | 1 => (.quiet 0 (.quiet 1 (.quiet 2 (.quiet 3 (.quiet 4 (.quiet 5 (.quiet 6 (.quiet 7 (.eff 8 [] .done)))))))))
  | _ => .done
def ls154 : Nat → List (Nat × LT) := fun _ => []
def W154 (dataa : Option Addr) (datal : Nat) (_datac : Nat) (a_ : Int) (b : Int) (swaps : Option Addr) (w : World) (R : Value → World → Prop) : Prop :=
  (atW (drew w) (fun w0 =>
(∃ a1 : Addr, ((dataa = some a1) ∧ (((0 : Int) ≤ b) ∧ (((b : Int) < (↑datal : Int)) ∧ (∃ s2 : ByteArray, ((cell? w0 (add a1 (Int.toNat b * 1)) = some (string s2)) ∧ (∃ a3 : Addr, ((dataa = some a3) ∧ (((0 : Int) ≤ a_) ∧ (((a_ : Int) < (↑datal : Int)) ∧ (∃ s4 : ByteArray, ((cell? w0 (add a3 (Int.toNat a_ * 1)) = some (string s4)) ∧ (Ca Tryz.prog (142) (Array.mk [string s2, string s4]) (w0) (fun v5 => (fun w6 =>
(∃ b7 : Bool, ((v5 = bool b7) ∧ (ifK (b7)
(onP (swaps) (fun a8 =>
(∃ x9 : Int, ((cell? w6 a8 = some (int i64 x9)) ∧ (onP (swaps) (fun a10 =>
(st1 (add a10 0) (int i64 (wrap i64 (x9 + 1))) w6 (fun w12 =>
(R (tuple (Array.mk [int i64 b, int i64 a_])) (w12))))))))))
(R (tuple (Array.mk [int i64 a_, int i64 b])) (w6))))))))))))))))))))))
theorem ca154 (dataa : Option Addr) (datal : Nat) (datac : Nat) (a_ : Int) (b : Int) (swaps : Option Addr) (w : World) (R : Value → World → Prop) (h : W154 dataa datal datac a_ b swaps w R) : Ca Tryz.prog 154 ⟨[(.slice dataa datal datac), (.int .i64 a_), (.int .i64 b), (.pointer swaps)]⟩ w R :=
  caB (fn := Tryz.f154) (pl := pl154) (ls := ls154) Tryz.func154 (by kernel_rfl) (by kernel_rfl) h

/-- slices.medianOrdered[string] -/
noncomputable def C152 : Code := (Tryz.f152.body).getD .skip
def pl152 : Nat → Plan := fun _ => .done
def ls152 : Nat → List (Nat × LT) := fun _ => []
def W152 (dataa : Option Addr) (datal : Nat) (datac : Nat) (a_ : Int) (b : Int) (c : Int) (swaps : Option Addr) (w : World) (R : Value → World → Prop) : Prop :=
  (Ca Tryz.prog (154) (Array.mk [slice dataa datal datac, int i64 a_, int i64 b, pointer swaps]) (w) (fun v0 => (fun w1 =>
(∃ x2 : Int, (∃ x3 : Int, ((v0 = tuple (Array.mk (List.reverse [int i64 x3, int i64 x2]))) ∧ (Ca Tryz.prog (154) (Array.mk [slice dataa datal datac, int i64 x3, int i64 c, pointer swaps]) (w1) (fun v4 => (fun w5 =>
(∃ x6 : Int, (∃ x7 : Int, ((v4 = tuple (Array.mk (List.reverse [int i64 x7, int i64 x6]))) ∧ (Ca Tryz.prog (154) (Array.mk [slice dataa datal datac, int i64 x2, int i64 x6, pointer swaps]) (w5) (fun v8 => (fun w9 =>
(∃ x10 : Int, (∃ x11 : Int, ((v8 = tuple (Array.mk (List.reverse [int i64 x11, int i64 x10]))) ∧ (R (int i64 x11) (w9))))))))))))))))))))
theorem ca152 (dataa : Option Addr) (datal : Nat) (datac : Nat) (a_ : Int) (b : Int) (c : Int) (swaps : Option Addr) (w : World) (R : Value → World → Prop) (h : W152 dataa datal datac a_ b c swaps w R) : Ca Tryz.prog 152 ⟨[(.slice dataa datal datac), (.int .i64 a_), (.int .i64 b), (.int .i64 c), (.pointer swaps)]⟩ w R :=
  caB (fn := Tryz.f152) (pl := pl152) (ls := ls152) Tryz.func152 (by kernel_rfl) (by kernel_rfl) h

/-- slices.medianAdjacentOrdered[string] -/
noncomputable def C151 : Code := (Tryz.f151.body).getD .skip
def pl151 : Nat → Plan := fun _ => .done
def ls151 : Nat → List (Nat × LT) := fun _ => []
def W151 (dataa : Option Addr) (datal : Nat) (datac : Nat) (a_ : Int) (swaps : Option Addr) (w : World) (R : Value → World → Prop) : Prop :=
  (Ca Tryz.prog (152) (Array.mk [slice dataa datal datac, int i64 (wrap i64 (a_ - 1)), int i64 a_, int i64 (wrap i64 (a_ + 1)), pointer swaps]) (w) (fun v0 => (fun w1 =>
(∃ x2 : Int, ((v0 = int i64 x2) ∧ (R (int i64 x2) (w1)))))))
theorem ca151 (dataa : Option Addr) (datal : Nat) (datac : Nat) (a_ : Int) (swaps : Option Addr) (w : World) (R : Value → World → Prop) (h : W151 dataa datal datac a_ swaps w R) : Ca Tryz.prog 151 ⟨[(.slice dataa datal datac), (.int .i64 a_), (.pointer swaps)]⟩ w R :=
  caB (fn := Tryz.f151) (pl := pl151) (ls := ls151) Tryz.func151 (by kernel_rfl) (by kernel_rfl) h

/-- slices.choosePivotOrdered[string] -/
noncomputable def C139 : Code := (Tryz.f139.body).getD .skip
def pl139 : Nat → Plan := fun _ => .done
def ls139 : Nat → List (Nat × LT)
  | 6 => [(0, .agg []), (11, (.one (.int .i64)))]
  | _ => []
def W139 (dataa : Option Addr) (datal : Nat) (datac : Nat) (a_ : Int) (b : Int) (w : World) (R : Value → World → Prop) : Prop :=
  (atW (alloc w (cells (Array.mk [int i64 0]) 3 (0, 0))) (fun w0 =>
(((4 : Int) ≠ 0) ∧ (((4 : Int) ≠ 0) ∧ (((4 : Int) ≠ 0) ∧ (∃ z1 : Int → World → Prop, ((ifK (decide (wrap i64 (b - a_) ≥ 8))
(ifK (decide (wrap i64 (b - a_) ≥ 50))
(Ca Tryz.prog (151) (Array.mk [slice dataa datal datac, int i64 (wrap i64 (a_ + wrap i64 (wrap i64 (Int.tdiv (wrap i64 (b - a_)) 4) * 1))), pointer (some (nw w))]) (w0) (fun v2 => (fun w3 =>
(∃ x4 : Int, ((v2 = int i64 x4) ∧ (Ca Tryz.prog (151) (Array.mk [slice dataa datal datac, int i64 (wrap i64 (a_ + wrap i64 (wrap i64 (Int.tdiv (wrap i64 (b - a_)) 4) * 2))), pointer (some (nw w))]) (w3) (fun v5 => (fun w6 =>
(∃ x7 : Int, ((v5 = int i64 x7) ∧ (Ca Tryz.prog (151) (Array.mk [slice dataa datal datac, int i64 (wrap i64 (a_ + wrap i64 (wrap i64 (Int.tdiv (wrap i64 (b - a_)) 4) * 3))), pointer (some (nw w))]) (w6) (fun v8 => (fun w9 =>
(∃ x10 : Int, ((v8 = int i64 x10) ∧ (Ca Tryz.prog (152) (Array.mk [slice dataa datal datac, int i64 x4, int i64 x7, int i64 x10, pointer (some (nw w))]) (w9) (fun v11 => (fun w12 =>
(∃ x13 : Int, ((v11 = int i64 x13) ∧ (z1 (x13) (w12))))))))))))))))))))))
(Ca Tryz.prog (152) (Array.mk [slice dataa datal datac, int i64 (wrap i64 (a_ + wrap i64 (wrap i64 (Int.tdiv (wrap i64 (b - a_)) 4) * 1))), int i64 (wrap i64 (a_ + wrap i64 (wrap i64 (Int.tdiv (wrap i64 (b - a_)) 4) * 2))), int i64 (wrap i64 (a_ + wrap i64 (wrap i64 (Int.tdiv (wrap i64 (b - a_)) 4) * 3))), pointer (some (nw w))]) (w0) (fun v14 => (fun w15 =>
(∃ x16 : Int, ((v14 = int i64 x16) ∧ (z1 (x16) (w15))))))))
(z1 (wrap i64 (a_ + wrap i64 (wrap i64 (Int.tdiv (wrap i64 (b - a_)) 4) * 2))) (w0))) ∧ (∀ (_ : Nat → Value), (∀ (x18 : Int), (∀ (w19 : World), ((z1 (x18) (w19)) → (∃ x20 : Int, ((cell? w19 (nw w) = some (int i64 x20)) ∧ (ifK (x20 == 0)
(R (tuple (Array.mk [int i64 x18, int i64 1])) (w19))
(ifK (x20 == 12)
(R (tuple (Array.mk [int i64 x18, int i64 2])) (w19))
(R (tuple (Array.mk [int i64 x18, int i64 0])) (w19)))))))))))))))))
theorem ca139 (dataa : Option Addr) (datal : Nat) (datac : Nat) (a_ : Int) (b : Int) (w : World) (R : Value → World → Prop) (h : W139 dataa datal datac a_ b w R) : Ca Tryz.prog 139 ⟨[(.slice dataa datal datac), (.int .i64 a_), (.int .i64 b)]⟩ w R :=
  caB (fn := Tryz.f139) (pl := pl139) (ls := ls139) Tryz.func139 (by kernel_rfl) (by kernel_rfl) h

/-- slices.reverseRangeOrdered[string] -/
noncomputable def C140 : Code := (Tryz.f140.body).getD .skip
def pl140 : Nat → Plan
  | 3 => (.quiet 0 (.quiet 1 (.quiet 2 (.quiet 3 (.quiet 4 (.quiet 5 (.quiet 6 (.quiet 7 (.quiet 8 (.quiet 9 (.quiet 10 (.quiet 11 (.quiet 12 (.eff 13 [] (.quiet 14 (.eff 15 [] .done))))))))))))))))
  | _ => .done
def ls140 : Nat → List (Nat × LT)
  | 2 => [(6, (.one (.int .i64))), (7, (.one (.int .i64)))]
  | _ => []
def W140 (dataa : Option Addr) (datal : Nat) (_datac : Nat) (a_ : Int) (b : Int) (w : World) (R : Value → World → Prop) : Prop :=
  (∃ z0 : Int → Int → World → Prop, (∃ z1 : Int → Int → World → Nat, ((z0 (a_) (wrap i64 (b - 1)) (w)) ∧ (∀ (_ : Nat → Value), (∀ (x3 : Int), (∀ (x4 : Int), (∀ (w5 : World), ((z0 (x3) (x4) (w5)) → (ifK (decide (x3 < x4))
(atW (drew w5) (fun w6 =>
(∃ a7 : Addr, ((dataa = some a7) ∧ (((0 : Int) ≤ x4) ∧ (((x4 : Int) < (↑datal : Int)) ∧ (∃ s8 : ByteArray, ((cell? w6 (add a7 (Int.toNat x4 * 1)) = some (string s8)) ∧ (∃ a9 : Addr, ((dataa = some a9) ∧ (((0 : Int) ≤ x3) ∧ (((x3 : Int) < (↑datal : Int)) ∧ (∃ s10 : ByteArray, ((cell? w6 (add a9 (Int.toNat x3 * 1)) = some (string s10)) ∧ (∃ a11 : Addr, ((dataa = some a11) ∧ (((0 : Int) ≤ x3) ∧ (((x3 : Int) < (↑datal : Int)) ∧ (st1 (add (add a11 (Int.toNat x3 * 1)) 0) (string s8) w6 (fun w13 =>
(∃ a14 : Addr, ((dataa = some a14) ∧ (((0 : Int) ≤ x4) ∧ (((x4 : Int) < (↑datal : Int)) ∧ (st1 (add (add a14 (Int.toNat x4 * 1)) 0) (string s10) w13 (fun w16 =>
((z0 (wrap i64 (x3 + 1)) (wrap i64 (x4 - 1)) (w16)) ∧ (z1 (wrap i64 (x3 + 1)) (wrap i64 (x4 - 1)) w16 < z1 x3 x4 w5))))))))))))))))))))))))))))
(R (tuple (Array.mk (List.reverse []))) (w5)))))))))))
theorem ca140 (dataa : Option Addr) (datal : Nat) (datac : Nat) (a_ : Int) (b : Int) (w : World) (R : Value → World → Prop) (h : W140 dataa datal datac a_ b w R) : Ca Tryz.prog 140 ⟨[(.slice dataa datal datac), (.int .i64 a_), (.int .i64 b)]⟩ w R :=
  caB (fn := Tryz.f140) (pl := pl140) (ls := ls140) Tryz.func140 (by kernel_rfl) (by kernel_rfl) h

/-- slices.partitionOrdered[string] -/
noncomputable def C144 : Code := (Tryz.f144.body).getD .skip
def pl144 : Nat → Plan
  | 1 => (.quiet 0 (.quiet 1 (.quiet 2 (.quiet 3 (.quiet 4 (.quiet 5 (.quiet 6 (.quiet 7 (.quiet 8 (.quiet 9 (.quiet 10 (.quiet 11 (.quiet 12 (.eff 13 [] (.quiet 14 (.eff 15 [] .done))))))))))))))))
  | 3 => (.quiet 0 (.quiet 1 (.quiet 2 (.quiet 3 (.quiet 4 (.quiet 5 (.quiet 6 (.quiet 7 (.quiet 8 (.quiet 9 (.quiet 10 (.quiet 11 (.eff 12 [] (.quiet 13 .done))))))))))))))
  | 5 => (.quiet 0 (.quiet 1 (.quiet 2 (.quiet 3 (.quiet 4 (.quiet 5 (.quiet 6 (.quiet 7 (.quiet 8 (.quiet 9 (.quiet 10 (.quiet 11 (.eff 12 [] (.quiet 13 (.quiet 14 .done)))))))))))))))
  | 8 => (.quiet 0 (.quiet 1 (.quiet 2 (.quiet 3 (.quiet 4 (.quiet 5 (.quiet 6 (.quiet 7 (.quiet 8 (.quiet 9 (.quiet 10 (.quiet 11 (.quiet 12 (.eff 13 [] (.quiet 14 (.eff 15 [] .done))))))))))))))))
  | 10 => (.quiet 0 (.quiet 1 (.quiet 2 (.quiet 3 (.quiet 4 (.quiet 5 (.quiet 6 (.quiet 7 (.quiet 8 (.quiet 9 (.quiet 10 (.quiet 11 (.quiet 12 (.eff 13 [] (.quiet 14 (.eff 15 [] .done))))))))))))))))
  | 13 => (.quiet 0 (.quiet 1 (.quiet 2 (.quiet 3 (.quiet 4 (.quiet 5 (.quiet 6 (.quiet 7 (.quiet 8 (.quiet 9 (.quiet 10 (.quiet 11 (.eff 12 [] (.quiet 13 .done))))))))))))))
  | 15 => (.quiet 0 (.quiet 1 (.quiet 2 (.quiet 3 (.quiet 4 (.quiet 5 (.quiet 6 (.quiet 7 (.quiet 8 (.quiet 9 (.quiet 10 (.quiet 11 (.eff 12 [] (.quiet 13 (.quiet 14 .done)))))))))))))))
  | 18 => (.quiet 0 (.quiet 1 (.quiet 2 (.quiet 3 (.quiet 4 (.quiet 5 (.quiet 6 (.quiet 7 (.quiet 8 (.quiet 9 (.quiet 10 (.quiet 11 (.quiet 12 (.eff 13 [] (.quiet 14 (.eff 15 [] .done))))))))))))))))
  | 21 => (.quiet 0 (.quiet 1 (.quiet 2 (.quiet 3 (.quiet 4 (.quiet 5 (.quiet 6 (.quiet 7 (.quiet 8 (.quiet 9 (.quiet 10 (.quiet 11 (.quiet 12 (.eff 13 [] (.quiet 14 (.eff 15 [] .done))))))))))))))))
  | _ => .done
def ls144 : Nat → List (Nat × LT)
  | 3 => [(0, .agg []), (10, (.one (.int .i64)))]
  | 4 => [(10, (.one (.int .i64)))]
  | 7 => [(0, .agg []), (11, (.one (.int .i64)))]
  | 8 => [(11, (.one (.int .i64)))]
  | 19 => [(10, (.one (.int .i64))), (11, (.one (.int .i64)))]
  | 20 => [(0, .agg []), (10, (.one (.int .i64)))]
  | 21 => [(10, (.one (.int .i64)))]
  | 24 => [(0, .agg []), (11, (.one (.int .i64)))]
  | 25 => [(11, (.one (.int .i64)))]
  | _ => []
def W144 (dataa : Option Addr) (datal : Nat) (_datac : Nat) (a_ : Int) (b : Int) (pivot : Int) (w : World) (R : Value → World → Prop) : Prop :=
  (atW (drew w) (fun w0 =>
(∃ a1 : Addr, ((dataa = some a1) ∧ (((0 : Int) ≤ pivot) ∧ (((pivot : Int) < (↑datal : Int)) ∧ (∃ s2 : ByteArray, ((cell? w0 (add a1 (Int.toNat pivot * 1)) = some (string s2)) ∧ (∃ a3 : Addr, ((dataa = some a3) ∧ (((0 : Int) ≤ a_) ∧ (((a_ : Int) < (↑datal : Int)) ∧ (∃ s4 : ByteArray, ((cell? w0 (add a3 (Int.toNat a_ * 1)) = some (string s4)) ∧ (∃ a5 : Addr, ((dataa = some a5) ∧ (((0 : Int) ≤ a_) ∧ (((a_ : Int) < (↑datal : Int)) ∧ (st1 (add (add a5 (Int.toNat a_ * 1)) 0) (string s2) w0 (fun w7 =>
(∃ a8 : Addr, ((dataa = some a8) ∧ (((0 : Int) ≤ pivot) ∧ (((pivot : Int) < (↑datal : Int)) ∧ (st1 (add (add a8 (Int.toNat pivot * 1)) 0) (string s4) w7 (fun w10 =>
(∃ z11 : Int → World → Prop, ((∃ z12 : Int → World → Prop, (∃ z13 : Int → World → Nat, ((z12 (wrap i64 (a_ + 1)) (w10)) ∧ (∀ (_ : Nat → Value), (∀ (x15 : Int), (∀ (w16 : World), ((z12 (x15) (w16)) → (atW (drew w16) (fun w17 =>
(ifK (decide (x15 ≤ wrap i64 (b - 1)))
(∃ a18 : Addr, ((dataa = some a18) ∧ (((0 : Int) ≤ x15) ∧ (((x15 : Int) < (↑datal : Int)) ∧ (∃ s19 : ByteArray, ((cell? w17 (add a18 (Int.toNat x15 * 1)) = some (string s19)) ∧ (∃ a20 : Addr, ((dataa = some a20) ∧ (((0 : Int) ≤ a_) ∧ (((a_ : Int) < (↑datal : Int)) ∧ (∃ s21 : ByteArray, ((cell? w17 (add a20 (Int.toNat a_ * 1)) = some (string s21)) ∧ (Ca Tryz.prog (142) (Array.mk [string s19, string s21]) (w17) (fun v22 => (fun w23 =>
(∃ b24 : Bool, ((v22 = bool b24) ∧ (ifK (b24)
((z12 (wrap i64 (x15 + 1)) (w23)) ∧ (z13 (wrap i64 (x15 + 1)) w23 < z13 x15 w16))
(z11 (x15) (w23))))))))))))))))))))
(z11 (x15) (w17)))))))))))) ∧ (∀ (_ : Nat → Value), (∀ (x26 : Int), (∀ (w27 : World), ((z11 (x26) (w27)) → (∃ z28 : Int → World → Prop, ((∃ z29 : Int → World → Prop, (∃ z30 : Int → World → Nat, ((z29 (wrap i64 (b - 1)) (w27)) ∧ (∀ (_ : Nat → Value), (∀ (x32 : Int), (∀ (w33 : World), ((z29 (x32) (w33)) → (atW (drew w33) (fun w34 =>
(ifK (decide (x26 ≤ x32))
(∃ a35 : Addr, ((dataa = some a35) ∧ (((0 : Int) ≤ x32) ∧ (((x32 : Int) < (↑datal : Int)) ∧ (∃ s36 : ByteArray, ((cell? w34 (add a35 (Int.toNat x32 * 1)) = some (string s36)) ∧ (∃ a37 : Addr, ((dataa = some a37) ∧ (((0 : Int) ≤ a_) ∧ (((a_ : Int) < (↑datal : Int)) ∧ (∃ s38 : ByteArray, ((cell? w34 (add a37 (Int.toNat a_ * 1)) = some (string s38)) ∧ (Ca Tryz.prog (142) (Array.mk [string s36, string s38]) (w34) (fun v39 => (fun w40 =>
(∃ b41 : Bool, ((v39 = bool b41) ∧ (ifK (!b41)
((z29 (wrap i64 (x32 - 1)) (w40)) ∧ (z30 (wrap i64 (x32 - 1)) w40 < z30 x32 w33))
(z28 (x32) (w40))))))))))))))))))))
(z28 (x32) (w34)))))))))))) ∧ (∀ (_ : Nat → Value), (∀ (x43 : Int), (∀ (w44 : World), ((z28 (x43) (w44)) → (ifK (decide (x26 > x43))
(atW (drew w44) (fun w45 =>
(∃ a46 : Addr, ((dataa = some a46) ∧ (((0 : Int) ≤ a_) ∧ (((a_ : Int) < (↑datal : Int)) ∧ (∃ s47 : ByteArray, ((cell? w45 (add a46 (Int.toNat a_ * 1)) = some (string s47)) ∧ (∃ a48 : Addr, ((dataa = some a48) ∧ (((0 : Int) ≤ x43) ∧ (((x43 : Int) < (↑datal : Int)) ∧ (∃ s49 : ByteArray, ((cell? w45 (add a48 (Int.toNat x43 * 1)) = some (string s49)) ∧ (∃ a50 : Addr, ((dataa = some a50) ∧ (((0 : Int) ≤ x43) ∧ (((x43 : Int) < (↑datal : Int)) ∧ (st1 (add (add a50 (Int.toNat x43 * 1)) 0) (string s47) w45 (fun w52 =>
(∃ a53 : Addr, ((dataa = some a53) ∧ (((0 : Int) ≤ a_) ∧ (((a_ : Int) < (↑datal : Int)) ∧ (st1 (add (add a53 (Int.toNat a_ * 1)) 0) (string s49) w52 (fun w55 =>
(R (tuple (Array.mk [int i64 x43, bool true])) (w55))))))))))))))))))))))))))))
(atW (drew w44) (fun w56 =>
(∃ a57 : Addr, ((dataa = some a57) ∧ (((0 : Int) ≤ x43) ∧ (((x43 : Int) < (↑datal : Int)) ∧ (∃ s58 : ByteArray, ((cell? w56 (add a57 (Int.toNat x43 * 1)) = some (string s58)) ∧ (∃ a59 : Addr, ((dataa = some a59) ∧ (((0 : Int) ≤ x26) ∧ (((x26 : Int) < (↑datal : Int)) ∧ (∃ s60 : ByteArray, ((cell? w56 (add a59 (Int.toNat x26 * 1)) = some (string s60)) ∧ (∃ a61 : Addr, ((dataa = some a61) ∧ (((0 : Int) ≤ x26) ∧ (((x26 : Int) < (↑datal : Int)) ∧ (st1 (add (add a61 (Int.toNat x26 * 1)) 0) (string s58) w56 (fun w63 =>
(∃ a64 : Addr, ((dataa = some a64) ∧ (((0 : Int) ≤ x43) ∧ (((x43 : Int) < (↑datal : Int)) ∧ (st1 (add (add a64 (Int.toNat x43 * 1)) 0) (string s60) w63 (fun w66 =>
(∃ z67 : Int → Int → World → Prop, (∃ z68 : Int → Int → World → Nat, ((z67 (wrap i64 (x26 + 1)) (wrap i64 (x43 - 1)) (w66)) ∧ (∀ (_ : Nat → Value), (∀ (x70 : Int), (∀ (x71 : Int), (∀ (w72 : World), ((z67 (x70) (x71) (w72)) → (∃ z73 : Int → World → Prop, ((∃ z74 : Int → World → Prop, (∃ z75 : Int → World → Nat, ((z74 (x70) (w72)) ∧ (∀ (_ : Nat → Value), (∀ (x77 : Int), (∀ (w78 : World), ((z74 (x77) (w78)) → (atW (drew w78) (fun w79 =>
(ifK (decide (x77 ≤ x71))
(∃ a80 : Addr, ((dataa = some a80) ∧ (((0 : Int) ≤ x77) ∧ (((x77 : Int) < (↑datal : Int)) ∧ (∃ s81 : ByteArray, ((cell? w79 (add a80 (Int.toNat x77 * 1)) = some (string s81)) ∧ (∃ a82 : Addr, ((dataa = some a82) ∧ (((0 : Int) ≤ a_) ∧ (((a_ : Int) < (↑datal : Int)) ∧ (∃ s83 : ByteArray, ((cell? w79 (add a82 (Int.toNat a_ * 1)) = some (string s83)) ∧ (Ca Tryz.prog (142) (Array.mk [string s81, string s83]) (w79) (fun v84 => (fun w85 =>
(∃ b86 : Bool, ((v84 = bool b86) ∧ (ifK (b86)
((z74 (wrap i64 (x77 + 1)) (w85)) ∧ (z75 (wrap i64 (x77 + 1)) w85 < z75 x77 w78))
(z73 (x77) (w85))))))))))))))))))))
(z73 (x77) (w79)))))))))))) ∧ (∀ (_ : Nat → Value), (∀ (x88 : Int), (∀ (w89 : World), ((z73 (x88) (w89)) → (∃ z90 : Int → World → Prop, ((∃ z91 : Int → World → Prop, (∃ z92 : Int → World → Nat, ((z91 (x71) (w89)) ∧ (∀ (_ : Nat → Value), (∀ (x94 : Int), (∀ (w95 : World), ((z91 (x94) (w95)) → (atW (drew w95) (fun w96 =>
(ifK (decide (x88 ≤ x94))
(∃ a97 : Addr, ((dataa = some a97) ∧ (((0 : Int) ≤ x94) ∧ (((x94 : Int) < (↑datal : Int)) ∧ (∃ s98 : ByteArray, ((cell? w96 (add a97 (Int.toNat x94 * 1)) = some (string s98)) ∧ (∃ a99 : Addr, ((dataa = some a99) ∧ (((0 : Int) ≤ a_) ∧ (((a_ : Int) < (↑datal : Int)) ∧ (∃ s100 : ByteArray, ((cell? w96 (add a99 (Int.toNat a_ * 1)) = some (string s100)) ∧ (Ca Tryz.prog (142) (Array.mk [string s98, string s100]) (w96) (fun v101 => (fun w102 =>
(∃ b103 : Bool, ((v101 = bool b103) ∧ (ifK (!b103)
((z91 (wrap i64 (x94 - 1)) (w102)) ∧ (z92 (wrap i64 (x94 - 1)) w102 < z92 x94 w95))
(z90 (x94) (w102))))))))))))))))))))
(z90 (x94) (w96)))))))))))) ∧ (∀ (_ : Nat → Value), (∀ (x105 : Int), (∀ (w106 : World), ((z90 (x105) (w106)) → (ifK (decide (x88 > x105))
(atW (drew w106) (fun w107 =>
(∃ a108 : Addr, ((dataa = some a108) ∧ (((0 : Int) ≤ a_) ∧ (((a_ : Int) < (↑datal : Int)) ∧ (∃ s109 : ByteArray, ((cell? w107 (add a108 (Int.toNat a_ * 1)) = some (string s109)) ∧ (∃ a110 : Addr, ((dataa = some a110) ∧ (((0 : Int) ≤ x105) ∧ (((x105 : Int) < (↑datal : Int)) ∧ (∃ s111 : ByteArray, ((cell? w107 (add a110 (Int.toNat x105 * 1)) = some (string s111)) ∧ (∃ a112 : Addr, ((dataa = some a112) ∧ (((0 : Int) ≤ x105) ∧ (((x105 : Int) < (↑datal : Int)) ∧ (st1 (add (add a112 (Int.toNat x105 * 1)) 0) (string s109) w107 (fun w114 =>
(∃ a115 : Addr, ((dataa = some a115) ∧ (((0 : Int) ≤ a_) ∧ (((a_ : Int) < (↑datal : Int)) ∧ (st1 (add (add a115 (Int.toNat a_ * 1)) 0) (string s111) w114 (fun w117 =>
(R (tuple (Array.mk [int i64 x105, bool false])) (w117))))))))))))))))))))))))))))
(atW (drew w106) (fun w118 =>
(∃ a119 : Addr, ((dataa = some a119) ∧ (((0 : Int) ≤ x105) ∧ (((x105 : Int) < (↑datal : Int)) ∧ (∃ s120 : ByteArray, ((cell? w118 (add a119 (Int.toNat x105 * 1)) = some (string s120)) ∧ (∃ a121 : Addr, ((dataa = some a121) ∧ (((0 : Int) ≤ x88) ∧ (((x88 : Int) < (↑datal : Int)) ∧ (∃ s122 : ByteArray, ((cell? w118 (add a121 (Int.toNat x88 * 1)) = some (string s122)) ∧ (∃ a123 : Addr, ((dataa = some a123) ∧ (((0 : Int) ≤ x88) ∧ (((x88 : Int) < (↑datal : Int)) ∧ (st1 (add (add a123 (Int.toNat x88 * 1)) 0) (string s120) w118 (fun w125 =>
(∃ a126 : Addr, ((dataa = some a126) ∧ (((0 : Int) ≤ x105) ∧ (((x105 : Int) < (↑datal : Int)) ∧ (st1 (add (add a126 (Int.toNat x105 * 1)) 0) (string s122) w125 (fun w128 =>
((z67 (wrap i64 (x88 + 1)) (wrap i64 (x105 - 1)) (w128)) ∧ (z68 (wrap i64 (x88 + 1)) (wrap i64 (x105 - 1)) w128 < z68 x70 x71 w72))))))))))))))))))))))))))))))))))))))))))))))))))))))))))))))))))))))))))))))))))))))))))))))))))))))))))))))))))
theorem ca144 (dataa : Option Addr) (datal : Nat) (datac : Nat) (a_ : Int) (b : Int) (pivot : Int) (w : World) (R : Value → World → Prop) (h : W144 dataa datal datac a_ b pivot w R) : Ca Tryz.prog 144 ⟨[(.slice dataa datal datac), (.int .i64 a_), (.int .i64 b), (.int .i64 pivot)]⟩ w R :=
  caB (fn := Tryz.f144) (pl := pl144) (ls := ls144) Tryz.func144 (by kernel_rfl) (by kernel_rfl) h

/-- slices.partitionEqualOrdered[string] -/
noncomputable def C143 : Code := (Tryz.f143.body).getD .skip
def pl143 : Nat → Plan
  | 1 => (.quiet 0 (.quiet 1 (.quiet 2 (.quiet 3 (.quiet 4 (.quiet 5 (.quiet 6 (.quiet 7 (.quiet 8 (.quiet 9 (.quiet 10 (.quiet 11 (.quiet 12 (.eff 13 [] (.quiet 14 (.eff 15 [] .done))))))))))))))))
  | 3 => (.quiet 0 (.quiet 1 (.quiet 2 (.quiet 3 (.quiet 4 (.quiet 5 (.quiet 6 (.quiet 7 (.quiet 8 (.quiet 9 (.quiet 10 (.quiet 11 (.eff 12 [] (.quiet 13 (.quiet 14 .done)))))))))))))))
  | 5 => (.quiet 0 (.quiet 1 (.quiet 2 (.quiet 3 (.quiet 4 (.quiet 5 (.quiet 6 (.quiet 7 (.quiet 8 (.quiet 9 (.quiet 10 (.quiet 11 (.eff 12 [] (.quiet 13 .done))))))))))))))
  | 8 => (.quiet 0 (.quiet 1 (.quiet 2 (.quiet 3 (.quiet 4 (.quiet 5 (.quiet 6 (.quiet 7 (.quiet 8 (.quiet 9 (.quiet 10 (.quiet 11 (.quiet 12 (.eff 13 [] (.quiet 14 (.eff 15 [] .done))))))))))))))))
  | _ => .done
def ls143 : Nat → List (Nat × LT)
  | 4 => [(9, (.one (.int .i64))), (10, (.one (.int .i64)))]
  | 5 => [(0, .agg []), (9, (.one (.int .i64)))]
  | 6 => [(9, (.one (.int .i64)))]
  | 9 => [(0, .agg []), (10, (.one (.int .i64)))]
  | 10 => [(10, (.one (.int .i64)))]
  | _ => []
def W143 (dataa : Option Addr) (datal : Nat) (_datac : Nat) (a_ : Int) (b : Int) (pivot : Int) (w : World) (R : Value → World → Prop) : Prop :=
  (atW (drew w) (fun w0 =>
(∃ a1 : Addr, ((dataa = some a1) ∧ (((0 : Int) ≤ pivot) ∧ (((pivot : Int) < (↑datal : Int)) ∧ (∃ s2 : ByteArray, ((cell? w0 (add a1 (Int.toNat pivot * 1)) = some (string s2)) ∧ (∃ a3 : Addr, ((dataa = some a3) ∧ (((0 : Int) ≤ a_) ∧ (((a_ : Int) < (↑datal : Int)) ∧ (∃ s4 : ByteArray, ((cell? w0 (add a3 (Int.toNat a_ * 1)) = some (string s4)) ∧ (∃ a5 : Addr, ((dataa = some a5) ∧ (((0 : Int) ≤ a_) ∧ (((a_ : Int) < (↑datal : Int)) ∧ (st1 (add (add a5 (Int.toNat a_ * 1)) 0) (string s2) w0 (fun w7 =>
(∃ a8 : Addr, ((dataa = some a8) ∧ (((0 : Int) ≤ pivot) ∧ (((pivot : Int) < (↑datal : Int)) ∧ (st1 (add (add a8 (Int.toNat pivot * 1)) 0) (string s4) w7 (fun w10 =>
(∃ z11 : Int → Int → World → Prop, (∃ z12 : Int → Int → World → Nat, ((z11 (wrap i64 (a_ + 1)) (wrap i64 (b - 1)) (w10)) ∧ (∀ (_ : Nat → Value), (∀ (x14 : Int), (∀ (x15 : Int), (∀ (w16 : World), ((z11 (x14) (x15) (w16)) → (∃ z17 : Int → World → Prop, ((∃ z18 : Int → World → Prop, (∃ z19 : Int → World → Nat, ((z18 (x14) (w16)) ∧ (∀ (_ : Nat → Value), (∀ (x21 : Int), (∀ (w22 : World), ((z18 (x21) (w22)) → (atW (drew w22) (fun w23 =>
(ifK (decide (x21 ≤ x15))
(∃ a24 : Addr, ((dataa = some a24) ∧ (((0 : Int) ≤ a_) ∧ (((a_ : Int) < (↑datal : Int)) ∧ (∃ s25 : ByteArray, ((cell? w23 (add a24 (Int.toNat a_ * 1)) = some (string s25)) ∧ (∃ a26 : Addr, ((dataa = some a26) ∧ (((0 : Int) ≤ x21) ∧ (((x21 : Int) < (↑datal : Int)) ∧ (∃ s27 : ByteArray, ((cell? w23 (add a26 (Int.toNat x21 * 1)) = some (string s27)) ∧ (Ca Tryz.prog (142) (Array.mk [string s25, string s27]) (w23) (fun v28 => (fun w29 =>
(∃ b30 : Bool, ((v28 = bool b30) ∧ (ifK (!b30)
((z18 (wrap i64 (x21 + 1)) (w29)) ∧ (z19 (wrap i64 (x21 + 1)) w29 < z19 x21 w22))
(z17 (x21) (w29))))))))))))))))))))
(z17 (x21) (w23)))))))))))) ∧ (∀ (_ : Nat → Value), (∀ (x32 : Int), (∀ (w33 : World), ((z17 (x32) (w33)) → (∃ z34 : Int → World → Prop, ((∃ z35 : Int → World → Prop, (∃ z36 : Int → World → Nat, ((z35 (x15) (w33)) ∧ (∀ (_ : Nat → Value), (∀ (x38 : Int), (∀ (w39 : World), ((z35 (x38) (w39)) → (atW (drew w39) (fun w40 =>
(ifK (decide (x32 ≤ x38))
(∃ a41 : Addr, ((dataa = some a41) ∧ (((0 : Int) ≤ a_) ∧ (((a_ : Int) < (↑datal : Int)) ∧ (∃ s42 : ByteArray, ((cell? w40 (add a41 (Int.toNat a_ * 1)) = some (string s42)) ∧ (∃ a43 : Addr, ((dataa = some a43) ∧ (((0 : Int) ≤ x38) ∧ (((x38 : Int) < (↑datal : Int)) ∧ (∃ s44 : ByteArray, ((cell? w40 (add a43 (Int.toNat x38 * 1)) = some (string s44)) ∧ (Ca Tryz.prog (142) (Array.mk [string s42, string s44]) (w40) (fun v45 => (fun w46 =>
(∃ b47 : Bool, ((v45 = bool b47) ∧ (ifK (b47)
((z35 (wrap i64 (x38 - 1)) (w46)) ∧ (z36 (wrap i64 (x38 - 1)) w46 < z36 x38 w39))
(z34 (x38) (w46))))))))))))))))))))
(z34 (x38) (w40)))))))))))) ∧ (∀ (_ : Nat → Value), (∀ (x49 : Int), (∀ (w50 : World), ((z34 (x49) (w50)) → (ifK (decide (x32 > x49))
(R (int i64 x32) (w50))
(atW (drew w50) (fun w51 =>
(∃ a52 : Addr, ((dataa = some a52) ∧ (((0 : Int) ≤ x49) ∧ (((x49 : Int) < (↑datal : Int)) ∧ (∃ s53 : ByteArray, ((cell? w51 (add a52 (Int.toNat x49 * 1)) = some (string s53)) ∧ (∃ a54 : Addr, ((dataa = some a54) ∧ (((0 : Int) ≤ x32) ∧ (((x32 : Int) < (↑datal : Int)) ∧ (∃ s55 : ByteArray, ((cell? w51 (add a54 (Int.toNat x32 * 1)) = some (string s55)) ∧ (∃ a56 : Addr, ((dataa = some a56) ∧ (((0 : Int) ≤ x32) ∧ (((x32 : Int) < (↑datal : Int)) ∧ (st1 (add (add a56 (Int.toNat x32 * 1)) 0) (string s53) w51 (fun w58 =>
(∃ a59 : Addr, ((dataa = some a59) ∧ (((0 : Int) ≤ x49) ∧ (((x49 : Int) < (↑datal : Int)) ∧ (st1 (add (add a59 (Int.toNat x49 * 1)) 0) (string s55) w58 (fun w61 =>
((z11 (wrap i64 (x32 + 1)) (wrap i64 (x49 - 1)) (w61)) ∧ (z12 (wrap i64 (x32 + 1)) (wrap i64 (x49 - 1)) w61 < z12 x14 x15 w16)))))))))))))))))))))))))))))))))))))))))))))))))))))))))))))))))))))))))))
theorem ca143 (dataa : Option Addr) (datal : Nat) (datac : Nat) (a_ : Int) (b : Int) (pivot : Int) (w : World) (R : Value → World → Prop) (h : W143 dataa datal datac a_ b pivot w R) : Ca Tryz.prog 143 ⟨[(.slice dataa datal datac), (.int .i64 a_), (.int .i64 b), (.int .i64 pivot)]⟩ w R :=
  caB (fn := Tryz.f143) (pl := pl143) (ls := ls143) Tryz.func143 (by kernel_rfl) (by kernel_rfl) h

/-- slices.siftDownOrdered[string] -/
noncomputable def C150 : Code := (Tryz.f150.body).getD .skip
def pl150 : Nat → Plan
  | 3 => (.quiet 0 (.quiet 1 (.quiet 2 (.quiet 3 (.quiet 4 (.quiet 5 (.quiet 6 (.quiet 7 (.quiet 8 (.quiet 9 (.quiet 10 (.quiet 11 (.quiet 12 (.quiet 13 (.quiet 14 (.quiet 15 (.quiet 16 (.quiet 17 (.eff 18 [] (.quiet 19 .done))))))))))))))))))))
  | 5 => (.quiet 0 (.quiet 1 (.quiet 2 (.quiet 3 (.quiet 4 (.quiet 5 (.quiet 6 (.quiet 7 (.quiet 8 (.quiet 9 (.quiet 10 (.quiet 11 (.eff 12 [] (.quiet 13 .done))))))))))))))
  | 6 => (.quiet 0 (.quiet 1 (.quiet 2 (.quiet 3 (.quiet 4 (.quiet 5 (.quiet 6 (.quiet 7 (.quiet 8 (.quiet 9 (.quiet 10 (.quiet 11 (.quiet 12 (.quiet 13 (.quiet 14 (.quiet 15 (.quiet 16 (.quiet 17 (.quiet 18 (.quiet 19 (.quiet 20 (.eff 21 [] (.quiet 22 (.eff 23 [] .done))))))))))))))))))))))))
  | _ => .done
def ls150 : Nat → List (Nat × LT)
  | 1 => [(8, (.one (.int .i64)))]
  | 5 => [(0, .agg []), (9, (.one (.int .i64)))]
  | _ => []
def W150 (dataa : Option Addr) (datal : Nat) (_datac : Nat) (lo : Int) (hi : Int) (first : Int) (w : World) (R : Value → World → Prop) : Prop :=
  (∃ z0 : Int → World → Prop, (∃ z1 : Int → World → Nat, ((z0 (lo) (w)) ∧ (∀ (_ : Nat → Value), (∀ (x3 : Int), (∀ (w4 : World), ((z0 (x3) (w4)) → (ifK (decide (wrap i64 (wrap i64 (2 * x3) + 1) ≥ hi))
(R (tuple (Array.mk (List.reverse []))) (w4))
(∃ z5 : Int → World → Prop, ((atW (drew w4) (fun w6 =>
(ifK (decide (wrap i64 (wrap i64 (wrap i64 (2 * x3) + 1) + 1) < hi))
(∃ a7 : Addr, ((dataa = some a7) ∧ (((0 : Int) ≤ wrap i64 (first + wrap i64 (wrap i64 (2 * x3) + 1))) ∧ (((wrap i64 (first + wrap i64 (wrap i64 (2 * x3) + 1)) : Int) < (↑datal : Int)) ∧ (∃ s8 : ByteArray, ((cell? w6 (add a7 (Int.toNat (wrap i64 (first + wrap i64 (wrap i64 (2 * x3) + 1))) * 1)) = some (string s8)) ∧ (∃ a9 : Addr, ((dataa = some a9) ∧ (((0 : Int) ≤ wrap i64 (wrap i64 (first + wrap i64 (wrap i64 (2 * x3) + 1)) + 1)) ∧ (((wrap i64 (wrap i64 (first + wrap i64 (wrap i64 (2 * x3) + 1)) + 1) : Int) < (↑datal : Int)) ∧ (∃ s10 : ByteArray, ((cell? w6 (add a9 (Int.toNat (wrap i64 (wrap i64 (first + wrap i64 (wrap i64 (2 * x3) + 1)) + 1)) * 1)) = some (string s10)) ∧ (Ca Tryz.prog (142) (Array.mk [string s8, string s10]) (w6) (fun v11 => (fun w12 =>
(∃ b13 : Bool, ((v11 = bool b13) ∧ (ifK (b13)
(z5 (wrap i64 (wrap i64 (wrap i64 (2 * x3) + 1) + 1)) (w12))
(z5 (wrap i64 (wrap i64 (2 * x3) + 1)) (w12))))))))))))))))))))
(z5 (wrap i64 (wrap i64 (2 * x3) + 1)) (w6))))) ∧ (∀ (_ : Nat → Value), (∀ (x15 : Int), (∀ (w16 : World), ((z5 (x15) (w16)) → (atW (drew w16) (fun w17 =>
(∃ a18 : Addr, ((dataa = some a18) ∧ (((0 : Int) ≤ wrap i64 (first + x3)) ∧ (((wrap i64 (first + x3) : Int) < (↑datal : Int)) ∧ (∃ s19 : ByteArray, ((cell? w17 (add a18 (Int.toNat (wrap i64 (first + x3)) * 1)) = some (string s19)) ∧ (∃ a20 : Addr, ((dataa = some a20) ∧ (((0 : Int) ≤ wrap i64 (first + x15)) ∧ (((wrap i64 (first + x15) : Int) < (↑datal : Int)) ∧ (∃ s21 : ByteArray, ((cell? w17 (add a20 (Int.toNat (wrap i64 (first + x15)) * 1)) = some (string s21)) ∧ (Ca Tryz.prog (142) (Array.mk [string s19, string s21]) (w17) (fun v22 => (fun w23 =>
(∃ b24 : Bool, ((v22 = bool b24) ∧ (ifK (!b24)
(R (tuple (Array.mk (List.reverse []))) (w23))
(atW (drew w23) (fun w25 =>
(∃ a26 : Addr, ((dataa = some a26) ∧ (((0 : Int) ≤ wrap i64 (first + x15)) ∧ (((wrap i64 (first + x15) : Int) < (↑datal : Int)) ∧ (∃ s27 : ByteArray, ((cell? w25 (add a26 (Int.toNat (wrap i64 (first + x15)) * 1)) = some (string s27)) ∧ (∃ a28 : Addr, ((dataa = some a28) ∧ (((0 : Int) ≤ wrap i64 (first + x3)) ∧ (((wrap i64 (first + x3) : Int) < (↑datal : Int)) ∧ (∃ s29 : ByteArray, ((cell? w25 (add a28 (Int.toNat (wrap i64 (first + x3)) * 1)) = some (string s29)) ∧ (∃ a30 : Addr, ((dataa = some a30) ∧ (((0 : Int) ≤ wrap i64 (first + x3)) ∧ (((wrap i64 (first + x3) : Int) < (↑datal : Int)) ∧ (st1 (add (add a30 (Int.toNat (wrap i64 (first + x3)) * 1)) 0) (string s27) w25 (fun w32 =>
(∃ a33 : Addr, ((dataa = some a33) ∧ (((0 : Int) ≤ wrap i64 (first + x15)) ∧ (((wrap i64 (first + x15) : Int) < (↑datal : Int)) ∧ (st1 (add (add a33 (Int.toNat (wrap i64 (first + x15)) * 1)) 0) (string s29) w32 (fun w35 =>
((z0 (x15) (w35)) ∧ (z1 x15 w35 < z1 x3 w4))))))))))))))))))))))))))))))))))))))))))))))))))))))))))))))
theorem ca150 (dataa : Option Addr) (datal : Nat) (datac : Nat) (lo : Int) (hi : Int) (first : Int) (w : World) (R : Value → World → Prop) (h : W150 dataa datal datac lo hi first w R) : Ca Tryz.prog 150 ⟨[(.slice dataa datal datac), (.int .i64 lo), (.int .i64 hi), (.int .i64 first)]⟩ w R :=
  caB (fn := Tryz.f150) (pl := pl150) (ls := ls150) Tryz.func150 (by kernel_rfl) (by kernel_rfl) h

/-- slices.heapSortOrdered[string] -/
noncomputable def C137 : Code := (Tryz.f137.body).getD .skip
def pl137 : Nat → Plan
  | 10 => (.quiet 0 (.quiet 1 (.quiet 2 (.quiet 3 (.quiet 4 (.quiet 5 (.quiet 6 (.quiet 7 (.quiet 8 (.quiet 9 (.quiet 10 (.quiet 11 (.quiet 12 (.quiet 13 (.quiet 14 (.quiet 15 (.quiet 16 (.eff 17 [] (.quiet 18 (.eff 19 [] .done))))))))))))))))))))
  | _ => .done
def ls137 : Nat → List (Nat × LT)
  | 5 => [(9, (.one (.int .i64)))]
  | 10 => [(10, (.one (.int .i64)))]
  | _ => []
def W137 (dataa : Option Addr) (datal : Nat) (datac : Nat) (a_ : Int) (b : Int) (w : World) (R : Value → World → Prop) : Prop :=
  (((2 : Int) ≠ 0) ∧ (∃ z0 : Int → World → Prop, (∃ z1 : Int → World → Nat, ((z0 (wrap i64 (Int.tdiv (wrap i64 (wrap i64 (b - a_) - 1)) 2)) (w)) ∧ (∀ (_ : Nat → Value), (∀ (x3 : Int), (∀ (w4 : World), ((z0 (x3) (w4)) → (ifK (decide (x3 ≥ 0))
(Ca Tryz.prog (150) (Array.mk [slice dataa datal datac, int i64 x3, int i64 (wrap i64 (b - a_)), int i64 a_]) (w4) (fun v5 => (fun w6 =>
((v5 = tuple (Array.mk (List.reverse []))) ∧ ((z0 (wrap i64 (x3 - 1)) (w6)) ∧ (z1 (wrap i64 (x3 - 1)) w6 < z1 x3 w4))))))
(∃ z7 : Int → World → Prop, (∃ z8 : Int → World → Nat, ((z7 (wrap i64 (wrap i64 (b - a_) - 1)) (w4)) ∧ (∀ (_ : Nat → Value), (∀ (x10 : Int), (∀ (w11 : World), ((z7 (x10) (w11)) → (ifK (decide (x10 ≥ 0))
(atW (drew w11) (fun w12 =>
(∃ a13 : Addr, ((dataa = some a13) ∧ (((0 : Int) ≤ wrap i64 (a_ + x10)) ∧ (((wrap i64 (a_ + x10) : Int) < (↑datal : Int)) ∧ (∃ s14 : ByteArray, ((cell? w12 (add a13 (Int.toNat (wrap i64 (a_ + x10)) * 1)) = some (string s14)) ∧ (∃ a15 : Addr, ((dataa = some a15) ∧ (((0 : Int) ≤ a_) ∧ (((a_ : Int) < (↑datal : Int)) ∧ (∃ s16 : ByteArray, ((cell? w12 (add a15 (Int.toNat a_ * 1)) = some (string s16)) ∧ (∃ a17 : Addr, ((dataa = some a17) ∧ (((0 : Int) ≤ a_) ∧ (((a_ : Int) < (↑datal : Int)) ∧ (st1 (add (add a17 (Int.toNat a_ * 1)) 0) (string s14) w12 (fun w19 =>
(∃ a20 : Addr, ((dataa = some a20) ∧ (((0 : Int) ≤ wrap i64 (a_ + x10)) ∧ (((wrap i64 (a_ + x10) : Int) < (↑datal : Int)) ∧ (st1 (add (add a20 (Int.toNat (wrap i64 (a_ + x10)) * 1)) 0) (string s16) w19 (fun w22 =>
(Ca Tryz.prog (150) (Array.mk [slice dataa datal datac, int i64 0, int i64 x10, int i64 a_]) (w22) (fun v23 => (fun w24 =>
((v23 = tuple (Array.mk (List.reverse []))) ∧ ((z7 (wrap i64 (x10 - 1)) (w24)) ∧ (z8 (wrap i64 (x10 - 1)) w24 < z8 x10 w11))))))))))))))))))))))))))))))))
(R (tuple (Array.mk (List.reverse []))) (w11)))))))))))))))))))
theorem ca137 (dataa : Option Addr) (datal : Nat) (datac : Nat) (a_ : Int) (b : Int) (w : World) (R : Value → World → Prop) (h : W137 dataa datal datac a_ b w R) : Ca Tryz.prog 137 ⟨[(.slice dataa datal datac), (.int .i64 a_), (.int .i64 b)]⟩ w R :=
  caB (fn := Tryz.f137) (pl := pl137) (ls := ls137) Tryz.func137 (by kernel_rfl) (by kernel_rfl) h

/-- slices.breakPatternsOrdered[string] -/
noncomputable def C138 : Code := (Tryz.f138.body).getD .skip
def pl138 : Nat → Plan
  | 10 => (.quiet 0 (.quiet 1 (.quiet 2 (.quiet 3 (.quiet 4 (.quiet 5 (.quiet 6 (.quiet 7 (.quiet 8 (.quiet 9 (.quiet 10 (.quiet 11 (.quiet 12 (.quiet 13 (.quiet 14 (.quiet 15 (.quiet 16 (.eff 17 [] (.quiet 18 (.eff 19 [] .done))))))))))))))))))))
  | _ => .done
def ls138 : Nat → List (Nat × LT)
  | 5 => [(9, (.one (.int .i64)))]
  | 10 => [(0, .agg []), (10, (.one (.int .i64)))]
  | _ => []
def W138 (dataa : Option Addr) (datal : Nat) (_datac : Nat) (a_ : Int) (b : Int) (w : World) (R : Value → World → Prop) : Prop :=
  (ifK (decide (wrap i64 (b - a_) ≥ 8))
(atW (alloc w (cells (Array.mk [int u64 0]) 153 (0, 0))) (fun w0 =>
(st1 (add (nw w) 0) (int u64 (wrap u64 (wrap i64 (b - a_)))) w0 (fun w2 =>
(Ca Tryz.prog (127) (Array.mk [int i64 (wrap i64 (b - a_))]) (w2) (fun v3 => (fun w4 =>
(∃ x5 : Int, ((v3 = int u64 x5) ∧ (((4 : Int) ≠ 0) ∧ (∃ z6 : Int → World → Prop, (∃ z7 : Int → World → Nat, ((z6 (wrap i64 (wrap i64 (a_ + wrap i64 (wrap i64 (Int.tdiv (wrap i64 (b - a_)) 4) * 2)) - 1)) (w4)) ∧ (∀ (_ : Nat → Value), (∀ (x9 : Int), (∀ (w10 : World), ((z6 (x9) (w10)) → (((4 : Int) ≠ 0) ∧ (ifK (decide (x9 ≤ wrap i64 (wrap i64 (a_ + wrap i64 (wrap i64 (Int.tdiv (wrap i64 (b - a_)) 4) * 2)) + 1)))
(Ca Tryz.prog (128) (Array.mk [pointer (some (nw w))]) (w10) (fun v11 => (fun w12 =>
(∃ x13 : Int, ((v11 = int u64 x13) ∧ (∃ z14 : Int → World → Prop, ((ifK (decide (wrap i64 (wrap u64 (↑(BitVec.toNat (BitVec.ofInt 64 x13 &&& BitVec.ofInt 64 (wrap u64 (x5 - 1)))) : Int)) ≥ wrap i64 (b - a_)))
(z14 (wrap i64 (wrap i64 (wrap u64 (↑(BitVec.toNat (BitVec.ofInt 64 x13 &&& BitVec.ofInt 64 (wrap u64 (x5 - 1)))) : Int)) - wrap i64 (b - a_))) (w12))
(z14 (wrap i64 (wrap u64 (↑(BitVec.toNat (BitVec.ofInt 64 x13 &&& BitVec.ofInt 64 (wrap u64 (x5 - 1)))) : Int))) (w12))) ∧ (∀ (_ : Nat → Value), (∀ (x16 : Int), (∀ (w17 : World), ((z14 (x16) (w17)) → (atW (drew w17) (fun w18 =>
(∃ a19 : Addr, ((dataa = some a19) ∧ (((0 : Int) ≤ wrap i64 (a_ + x16)) ∧ (((wrap i64 (a_ + x16) : Int) < (↑datal : Int)) ∧ (∃ s20 : ByteArray, ((cell? w18 (add a19 (Int.toNat (wrap i64 (a_ + x16)) * 1)) = some (string s20)) ∧ (∃ a21 : Addr, ((dataa = some a21) ∧ (((0 : Int) ≤ x9) ∧ (((x9 : Int) < (↑datal : Int)) ∧ (∃ s22 : ByteArray, ((cell? w18 (add a21 (Int.toNat x9 * 1)) = some (string s22)) ∧ (∃ a23 : Addr, ((dataa = some a23) ∧ (((0 : Int) ≤ x9) ∧ (((x9 : Int) < (↑datal : Int)) ∧ (st1 (add (add a23 (Int.toNat x9 * 1)) 0) (string s20) w18 (fun w25 =>
(∃ a26 : Addr, ((dataa = some a26) ∧ (((0 : Int) ≤ wrap i64 (a_ + x16)) ∧ (((wrap i64 (a_ + x16) : Int) < (↑datal : Int)) ∧ (st1 (add (add a26 (Int.toNat (wrap i64 (a_ + x16)) * 1)) 0) (string s22) w25 (fun w28 =>
((z6 (wrap i64 (x9 + 1)) (w28)) ∧ (z7 (wrap i64 (x9 + 1)) w28 < z7 x9 w10)))))))))))))))))))))))))))))))))))))))
(R (tuple (Array.mk (List.reverse []))) (w10)))))))))))))))))))))
(R (tuple (Array.mk (List.reverse []))) (w)))
theorem ca138 (dataa : Option Addr) (datal : Nat) (datac : Nat) (a_ : Int) (b : Int) (w : World) (R : Value → World → Prop) (h : W138 dataa datal datac a_ b w R) : Ca Tryz.prog 138 ⟨[(.slice dataa datal datac), (.int .i64 a_), (.int .i64 b)]⟩ w R :=
  caB (fn := Tryz.f138) (pl := pl138) (ls := ls138) Tryz.func138 (by kernel_rfl) (by kernel_rfl) h

/-- slices.partialInsertionSortOrdered[string] -/
noncomputable def C141 : Code := (Tryz.f141.body).getD .skip
def pl141 : Nat → Plan
  | 5 => (.quiet 0 (.quiet 1 (.quiet 2 (.quiet 3 (.quiet 4 (.quiet 5 (.quiet 6 (.quiet 7 (.quiet 8 (.quiet 9 (.quiet 10 (.quiet 11 (.quiet 12 (.eff 13 [] (.quiet 14 (.quiet 15 .done))))))))))))))))
  | 11 => (.quiet 0 (.quiet 1 (.quiet 2 (.quiet 3 (.quiet 4 (.quiet 5 (.quiet 6 (.quiet 7 (.quiet 8 (.quiet 9 (.quiet 10 (.quiet 11 (.quiet 12 (.quiet 13 (.quiet 14 (.eff 15 [] (.quiet 16 (.eff 17 [] .done))))))))))))))))))
  | 16 => (.quiet 0 (.quiet 1 (.quiet 2 (.quiet 3 (.quiet 4 (.quiet 5 (.quiet 6 (.quiet 7 (.quiet 8 (.eff 9 [] (.quiet 10 .done)))))))))))
  | 17 => (.quiet 0 (.quiet 1 (.quiet 2 (.quiet 3 (.quiet 4 (.quiet 5 (.quiet 6 (.quiet 7 (.quiet 8 (.quiet 9 (.quiet 10 (.quiet 11 (.quiet 12 (.quiet 13 (.quiet 14 (.eff 15 [] (.quiet 16 (.eff 17 [] .done))))))))))))))))))
  | 22 => (.quiet 0 (.quiet 1 (.quiet 2 (.quiet 3 (.quiet 4 (.quiet 5 (.quiet 6 (.quiet 7 (.quiet 8 (.eff 9 [] (.quiet 10 .done)))))))))))
  | 23 => (.quiet 0 (.quiet 1 (.quiet 2 (.quiet 3 (.quiet 4 (.quiet 5 (.quiet 6 (.quiet 7 (.quiet 8 (.quiet 9 (.quiet 10 (.quiet 11 (.quiet 12 (.quiet 13 (.quiet 14 (.eff 15 [] (.quiet 16 (.eff 17 [] .done))))))))))))))))))
  | _ => .done
def ls141 : Nat → List (Nat × LT)
  | 4 => [(7, (.one (.int .i64))), (8, (.one (.int .i64)))]
  | 8 => [(0, .agg []), (7, (.one (.int .i64)))]
  | 9 => [(7, (.one (.int .i64)))]
  | 19 => [(0, .agg [])]
  | 22 => [(9, (.one (.int .i64)))]
  | 30 => [(10, (.one (.int .i64)))]
  | _ => []
def W141 (dataa : Option Addr) (datal : Nat) (_datac : Nat) (a_ : Int) (b : Int) (w : World) (R : Value → World → Prop) : Prop :=
  (∃ z0 : Int → Int → World → Prop, (∃ z1 : Int → Int → World → Nat, ((z0 (wrap i64 (a_ + 1)) (0) (w)) ∧ (∀ (_ : Nat → Value), (∀ (x3 : Int), (∀ (x4 : Int), (∀ (w5 : World), ((z0 (x3) (x4) (w5)) → (ifK (decide (x4 < 5))
(∃ z6 : Int → World → Prop, ((∃ z7 : Int → World → Prop, (∃ z8 : Int → World → Nat, ((z7 (x3) (w5)) ∧ (∀ (_ : Nat → Value), (∀ (x10 : Int), (∀ (w11 : World), ((z7 (x10) (w11)) → (atW (drew w11) (fun w12 =>
(ifK (decide (x10 < b))
(∃ a13 : Addr, ((dataa = some a13) ∧ (((0 : Int) ≤ x10) ∧ (((x10 : Int) < (↑datal : Int)) ∧ (∃ s14 : ByteArray, ((cell? w12 (add a13 (Int.toNat x10 * 1)) = some (string s14)) ∧ (∃ a15 : Addr, ((dataa = some a15) ∧ (((0 : Int) ≤ wrap i64 (x10 - 1)) ∧ (((wrap i64 (x10 - 1) : Int) < (↑datal : Int)) ∧ (∃ s16 : ByteArray, ((cell? w12 (add a15 (Int.toNat (wrap i64 (x10 - 1)) * 1)) = some (string s16)) ∧ (Ca Tryz.prog (142) (Array.mk [string s14, string s16]) (w12) (fun v17 => (fun w18 =>
(∃ b19 : Bool, ((v17 = bool b19) ∧ (ifK (!b19)
((z7 (wrap i64 (x10 + 1)) (w18)) ∧ (z8 (wrap i64 (x10 + 1)) w18 < z8 x10 w11))
(z6 (x10) (w18))))))))))))))))))))
(z6 (x10) (w12)))))))))))) ∧ (∀ (_ : Nat → Value), (∀ (x21 : Int), (∀ (w22 : World), ((z6 (x21) (w22)) → (ifK (x21 == b)
(R (bool true) (w22))
(ifK (decide (wrap i64 (b - a_) < 50))
(R (bool false) (w22))
(atW (drew w22) (fun w23 =>
(∃ a24 : Addr, ((dataa = some a24) ∧ (((0 : Int) ≤ wrap i64 (x21 - 1)) ∧ (((wrap i64 (x21 - 1) : Int) < (↑datal : Int)) ∧ (∃ s25 : ByteArray, ((cell? w23 (add a24 (Int.toNat (wrap i64 (x21 - 1)) * 1)) = some (string s25)) ∧ (∃ a26 : Addr, ((dataa = some a26) ∧ (((0 : Int) ≤ x21) ∧ (((x21 : Int) < (↑datal : Int)) ∧ (∃ s27 : ByteArray, ((cell? w23 (add a26 (Int.toNat x21 * 1)) = some (string s27)) ∧ (∃ a28 : Addr, ((dataa = some a28) ∧ (((0 : Int) ≤ x21) ∧ (((x21 : Int) < (↑datal : Int)) ∧ (st1 (add (add a28 (Int.toNat x21 * 1)) 0) (string s25) w23 (fun w30 =>
(∃ a31 : Addr, ((dataa = some a31) ∧ (((0 : Int) ≤ wrap i64 (x21 - 1)) ∧ (((wrap i64 (x21 - 1) : Int) < (↑datal : Int)) ∧ (st1 (add (add a31 (Int.toNat (wrap i64 (x21 - 1)) * 1)) 0) (string s27) w30 (fun w33 =>
(∃ z34 : World → Prop, ((ifK (decide (wrap i64 (x21 - a_) ≥ 2))
(∃ z35 : Int → World → Prop, (∃ z36 : Int → World → Nat, ((z35 (wrap i64 (x21 - 1)) (w33)) ∧ (∀ (_ : Nat → Value), (∀ (x38 : Int), (∀ (w39 : World), ((z35 (x38) (w39)) → (ifK (decide (x38 ≥ 1))
(atW (drew w39) (fun w40 =>
(∃ a41 : Addr, ((dataa = some a41) ∧ (((0 : Int) ≤ x38) ∧ (((x38 : Int) < (↑datal : Int)) ∧ (∃ s42 : ByteArray, ((cell? w40 (add a41 (Int.toNat x38 * 1)) = some (string s42)) ∧ (∃ a43 : Addr, ((dataa = some a43) ∧ (((0 : Int) ≤ wrap i64 (x38 - 1)) ∧ (((wrap i64 (x38 - 1) : Int) < (↑datal : Int)) ∧ (∃ s44 : ByteArray, ((cell? w40 (add a43 (Int.toNat (wrap i64 (x38 - 1)) * 1)) = some (string s44)) ∧ (Ca Tryz.prog (142) (Array.mk [string s42, string s44]) (w40) (fun v45 => (fun w46 =>
(∃ b47 : Bool, ((v45 = bool b47) ∧ (ifK (!b47)
(z34 (w46))
(atW (drew w46) (fun w48 =>
(∃ a49 : Addr, ((dataa = some a49) ∧ (((0 : Int) ≤ wrap i64 (x38 - 1)) ∧ (((wrap i64 (x38 - 1) : Int) < (↑datal : Int)) ∧ (∃ s50 : ByteArray, ((cell? w48 (add a49 (Int.toNat (wrap i64 (x38 - 1)) * 1)) = some (string s50)) ∧ (∃ a51 : Addr, ((dataa = some a51) ∧ (((0 : Int) ≤ x38) ∧ (((x38 : Int) < (↑datal : Int)) ∧ (∃ s52 : ByteArray, ((cell? w48 (add a51 (Int.toNat x38 * 1)) = some (string s52)) ∧ (∃ a53 : Addr, ((dataa = some a53) ∧ (((0 : Int) ≤ x38) ∧ (((x38 : Int) < (↑datal : Int)) ∧ (st1 (add (add a53 (Int.toNat x38 * 1)) 0) (string s50) w48 (fun w55 =>
(∃ a56 : Addr, ((dataa = some a56) ∧ (((0 : Int) ≤ wrap i64 (x38 - 1)) ∧ (((wrap i64 (x38 - 1) : Int) < (↑datal : Int)) ∧ (st1 (add (add a56 (Int.toNat (wrap i64 (x38 - 1)) * 1)) 0) (string s52) w55 (fun w58 =>
((z35 (wrap i64 (x38 - 1)) (w58)) ∧ (z36 (wrap i64 (x38 - 1)) w58 < z36 x38 w39))))))))))))))))))))))))))))))))))))))))))))))))
(z34 (w39))))))))))
(z34 (w33))) ∧ (∀ (_ : Nat → Value), (∀ (w60 : World), ((z34 (w60)) → (ifK (decide (wrap i64 (b - x21) ≥ 2))
(∃ z61 : Int → World → Prop, (∃ z62 : Int → World → Nat, ((z61 (wrap i64 (x21 + 1)) (w60)) ∧ (∀ (_ : Nat → Value), (∀ (x64 : Int), (∀ (w65 : World), ((z61 (x64) (w65)) → (ifK (decide (x64 < b))
(atW (drew w65) (fun w66 =>
(∃ a67 : Addr, ((dataa = some a67) ∧ (((0 : Int) ≤ x64) ∧ (((x64 : Int) < (↑datal : Int)) ∧ (∃ s68 : ByteArray, ((cell? w66 (add a67 (Int.toNat x64 * 1)) = some (string s68)) ∧ (∃ a69 : Addr, ((dataa = some a69) ∧ (((0 : Int) ≤ wrap i64 (x64 - 1)) ∧ (((wrap i64 (x64 - 1) : Int) < (↑datal : Int)) ∧ (∃ s70 : ByteArray, ((cell? w66 (add a69 (Int.toNat (wrap i64 (x64 - 1)) * 1)) = some (string s70)) ∧ (Ca Tryz.prog (142) (Array.mk [string s68, string s70]) (w66) (fun v71 => (fun w72 =>
(∃ b73 : Bool, ((v71 = bool b73) ∧ (ifK (!b73)
((z0 (x21) (wrap i64 (x4 + 1)) (w72)) ∧ (z1 x21 (wrap i64 (x4 + 1)) w72 < z1 x3 x4 w5))
(atW (drew w72) (fun w74 =>
(∃ a75 : Addr, ((dataa = some a75) ∧ (((0 : Int) ≤ wrap i64 (x64 - 1)) ∧ (((wrap i64 (x64 - 1) : Int) < (↑datal : Int)) ∧ (∃ s76 : ByteArray, ((cell? w74 (add a75 (Int.toNat (wrap i64 (x64 - 1)) * 1)) = some (string s76)) ∧ (∃ a77 : Addr, ((dataa = some a77) ∧ (((0 : Int) ≤ x64) ∧ (((x64 : Int) < (↑datal : Int)) ∧ (∃ s78 : ByteArray, ((cell? w74 (add a77 (Int.toNat x64 * 1)) = some (string s78)) ∧ (∃ a79 : Addr, ((dataa = some a79) ∧ (((0 : Int) ≤ x64) ∧ (((x64 : Int) < (↑datal : Int)) ∧ (st1 (add (add a79 (Int.toNat x64 * 1)) 0) (string s76) w74 (fun w81 =>
(∃ a82 : Addr, ((dataa = some a82) ∧ (((0 : Int) ≤ wrap i64 (x64 - 1)) ∧ (((wrap i64 (x64 - 1) : Int) < (↑datal : Int)) ∧ (st1 (add (add a82 (Int.toNat (wrap i64 (x64 - 1)) * 1)) 0) (string s78) w81 (fun w84 =>
((z61 (wrap i64 (x64 + 1)) (w84)) ∧ (z62 (wrap i64 (x64 + 1)) w84 < z62 x64 w65))))))))))))))))))))))))))))))))))))))))))))))))
((z0 (x21) (wrap i64 (x4 + 1)) (w65)) ∧ (z1 x21 (wrap i64 (x4 + 1)) w65 < z1 x3 x4 w5))))))))))
((z0 (x21) (wrap i64 (x4 + 1)) (w60)) ∧ (z1 x21 (wrap i64 (x4 + 1)) w60 < z1 x3 x4 w5))))))))))))))))))))))))))))))))))))))))))
(R (bool false) (w5)))))))))))
theorem ca141 (dataa : Option Addr) (datal : Nat) (datac : Nat) (a_ : Int) (b : Int) (w : World) (R : Value → World → Prop) (h : W141 dataa datal datac a_ b w R) : Ca Tryz.prog 141 ⟨[(.slice dataa datal datac), (.int .i64 a_), (.int .i64 b)]⟩ w R :=
  caB (fn := Tryz.f141) (pl := pl141) (ls := ls141) Tryz.func141 (by kernel_rfl) (by kernel_rfl) h
end Go.Proofs.YtgjdandnncjegaaGreatDoor

/- The library's general sort, at one type: what its parts do. -/
namespace Go.Proofs.YtgjdandnncjegaaGreatDoor.Sortstring
open Go Go.Proofs.YtgjdandnncjegaaGreatDoor Go.Proofs.YtgjdandnncjegaaGreatDoor.St

theorem piv_eqs (a b l : Nat) (hab : a ≤ b) (hb : b ≤ l) (hl : l < 4611686018427387904) :
    IntKind.i64.wrap ((b : Int) - a) = ((b - a : Nat) : Int) ∧ Int.tdiv ((b - a : Nat) : Int) 4 = (((b - a) / 4 : Nat) : Int) ∧
    IntKind.i64.wrap ((a : Int) + IntKind.i64.wrap (IntKind.i64.wrap (((b - a) / 4 : Nat) : Int) * 1)) = ((a + (b - a) / 4 : Nat) : Int) ∧
    IntKind.i64.wrap ((a : Int) + IntKind.i64.wrap (IntKind.i64.wrap (((b - a) / 4 : Nat) : Int) * 2)) = ((a + (b - a) / 4 * 2 : Nat) : Int) ∧
    IntKind.i64.wrap ((a : Int) + IntKind.i64.wrap (IntKind.i64.wrap (((b - a) / 4 : Nat) : Int) * 3)) = ((a + (b - a) / 4 * 3 : Nat) : Int) :=
  ⟨(by first | (simp only [IntKind.wrap_i64]; omega) | omega), by rw [show (4 : Int) = ((4 : Nat) : Int) from rfl, ← Int.ofNat_tdiv], (by first | (simp only [IntKind.wrap_i64]; omega) | omega), (by first | (simp only [IntKind.wrap_i64]; omega) | omega), (by first | (simp only [IntKind.wrap_i64]; omega) | omega)⟩

section
variable (e : TypeId) (d : Option Addr) (l c : Nat) (xs : List ByteArray) (w : World) (hd : Els Value.string e w d l c xs) (hl : l < 4611686018427387904)
include hd hl

/-! ### The pivot -/
omit hl in
theorem order2_ok (s : Nat) (t : TypeId) (n : Int) (hs : w.heap[s]? = some (.cells #[.int .i64 n] t (0, 0))) (x y : Nat) (hx : x < l) (hy : y < l) (R : Value → World → Prop)
    (h : ∀ w' (n' : Int) (x' y' : Nat), (x' = x ∧ y' = y ∨ x' = y ∧ y' = x) → w'.heap[s]? = some (.cells #[.int .i64 n'] t (0, 0)) → Mod (on s) w w' → R (.tuple #[.int .i64 x', .int .i64 y']) w') :
    Ca Tryz.prog 154 #[.slice d l c, .int .i64 x, .int .i64 y, .pointer (some ⟨s, 0, none⟩)] w R := by
  refine ca154 d l c x y (some ⟨s, 0, none⟩) w R ?_
  intro w0 e0
  have m0 : Mod no w w0 := by subst e0; exact Mod.drew _
  clear e0
  have hs0 := m0.at' hs
  refine lss (hd.no m0) y x rfl rfl hy hx (fun _ => ?_) (fun _ => ?_)
  · refine ⟨n, by rw [cl hs0]; rfl, ⟨_, by rw [cl1 hs0]; rfl⟩, fz1 hs0 _, ?_⟩
    intro w1 e1
    have hs1 : w1.heap[s]? = some (.cells #[.int .i64 (IntKind.i64.wrap (n + 1))] t (0, 0)) := by subst e1; exact set1 hs0 _ _
    have m1 : Mod (on s) w0 w1 := by subst e1; exact Mod.set1 _ _ _ _
    exact h w1 _ y x (.inr ⟨rfl, rfl⟩) hs1 (m0.no_trans m1)
  · exact h w0 n x y (.inl ⟨rfl, rfl⟩) hs0 m0.of_no

omit hl in
theorem median_ok (s : Nat) (t : TypeId) (n : Int) (hs : w.heap[s]? = some (.cells #[.int .i64 n] t (0, 0))) (hne : ¬ rowB d s) (x y z : Nat) (hx : x < l) (hy : y < l) (hz : z < l) (R : Value → World → Prop)
    (h : ∀ w' (n' : Int) (m : Nat), (m = x ∨ m = y ∨ m = z) → w'.heap[s]? = some (.cells #[.int .i64 n'] t (0, 0)) → Mod (on s) w w' → R (.int .i64 m) w') :
    Ca Tryz.prog 152 #[.slice d l c, .int .i64 x, .int .i64 y, .int .i64 z, .pointer (some ⟨s, 0, none⟩)] w R := by
  refine ca152 d l c x y z (some ⟨s, 0, none⟩) w R ?_
  have keep : ∀ {w'}, Mod (on s) w w' → Els Value.string e w' d l c xs := fun hm => hd.mod hm fun k hk he => hne (by cases he; exact hk)
  refine order2_ok e d l c xs w hd s t n hs x y hx hy _ fun w1 n1 x1 y1 h1 hs1 m1 => ⟨_, _, rfl, ?_⟩
  refine order2_ok e d l c xs w1 (keep m1) s t n1 hs1 y1 z (by omega) hz _ fun w2 n2 y2 z2 h2 hs2 m2 => ⟨_, _, rfl, ?_⟩
  refine order2_ok e d l c xs w2 (keep (m1.trans m2)) s t n2 hs2 x1 y2 (by omega) (by omega) _ fun w3 n3 x3 y3 h3 hs3 m3 => ⟨_, _, rfl, ?_⟩
  exact h w3 n3 y3 (by omega) hs3 ((m1.trans m2).trans m3)

theorem medianAdj_ok (s : Nat) (t : TypeId) (n : Int) (hs : w.heap[s]? = some (.cells #[.int .i64 n] t (0, 0))) (hne : ¬ rowB d s) (x : Nat) (hx : 0 < x) (hx1 : x + 1 < l) (R : Value → World → Prop)
    (h : ∀ w' (n' : Int) (m : Nat), (x ≤ m + 1 ∧ m ≤ x + 1) → w'.heap[s]? = some (.cells #[.int .i64 n'] t (0, 0)) → Mod (on s) w w' → R (.int .i64 m) w') :
    Ca Tryz.prog 151 #[.slice d l c, .int .i64 x, .pointer (some ⟨s, 0, none⟩)] w R := by
  refine ca151 d l c x (some ⟨s, 0, none⟩) w R ?_
  have e1 : IntKind.i64.wrap ((x : Int) - 1) = ((x - 1 : Nat) : Int) := (by first | (simp only [IntKind.wrap_i64]; omega) | omega)
  have e2 : IntKind.i64.wrap ((x : Int) + 1) = ((x + 1 : Nat) : Int) := (by first | (simp only [IntKind.wrap_i64]; omega) | omega)
  rw [W151, e1, e2]
  exact median_ok e d l c xs w hd s t n hs hne (x - 1) x (x + 1) (by omega) (by omega) hx1 _ fun w1 n1 m h1 hs1 m1 => ⟨_, rfl, h w1 n1 m (by rcases h1 with rfl | rfl | rfl <;> omega) hs1 m1⟩

theorem choosePivot_ok (a b : Nat) (hab : a + 8 ≤ b) (hb : b ≤ l) (R : Value → World → Prop)
    (h : ∀ w' (p : Nat) (hint : Int), a ≤ p → p < b → Mod no w w' → R (.tuple #[.int .i64 p, .int .i64 hint]) w') :
    Ca Tryz.prog 139 #[.slice d l c, .int .i64 a, .int .i64 b] w R := by
  refine ca139 d l c a b w R ?_
  obtain ⟨elen, e4, ei, ej, ek⟩ := piv_eqs a b l (by omega) hb hl
  rw [W139]
  simp only [elen, e4, ei, ej, ek]
  clear elen e4 ei ej ek
  intro w0 e0
  have m0 : Mod no w w0 := by subst e0; exact Mod.alloc _ _
  have hs0 : w0.heap[w.heap.size]? = some (.cells #[.int .i64 0] 3 (0, 0)) := by subst e0; exact new_at _ _
  clear e0
  have hne : ¬ rowB d w.heap.size := by
    intro hk
    obtain ⟨g, rfl, hc⟩ := hd.get (i := 0) (by have := hd.len; omega)
    have : g = w.heap.size := by simpa [rowB] using hk
    subst this
    have := hd.at (i := 0) (by have := hd.len; omega)
    obtain ⟨g', hg', hc'⟩ := this
    injection hg' with hg'; injection hg' with hg'; subst hg'
    rw [World.cell?, Array.getElem?_eq_none (by simp [Addr.add])] at hc'
    cases hc'
  have hd0 := hd.no m0
  have keep : ∀ {w'}, Mod (on w.heap.size) w0 w' → Els Value.string e w' d l c xs := fun hm => hd0.mod hm fun k hk he => hne (by cases he; exact hk)
  refine ⟨by decide, by decide, by decide, fun x w' => ∃ (m : Nat) (n : Int), x = m ∧ a ≤ m ∧ m < b ∧ w'.heap[w.heap.size]? = some (.cells #[.int .i64 n] 3 (0, 0)) ∧ Mod (on w.heap.size) w0 w', ?_, ?_⟩
  · refine ifK_dec (fun _ => ifK_dec (fun h50 => ?_) (fun _ => ?_)) (fun hn => ?_)
    · refine medianAdj_ok e d l c xs w0 hd0 hl _ 3 0 hs0 hne _ (by omega) (by omega) _ fun w1 n1 x1 h1 hs1 m1 => ⟨_, rfl, ?_⟩
      refine medianAdj_ok e d l c xs w1 (keep m1) hl _ 3 n1 hs1 hne _ (by omega) (by omega) _ fun w2 n2 x2 h2 hs2 m2 => ⟨_, rfl, ?_⟩
      refine medianAdj_ok e d l c xs w2 (keep (m1.trans m2)) hl _ 3 n2 hs2 hne _ (by omega) (by omega) _ fun w3 n3 x3 h3 hs3 m3 => ⟨_, rfl, ?_⟩
      refine median_ok e d l c xs w3 (keep ((m1.trans m2).trans m3)) _ 3 n3 hs3 hne _ _ _ (by omega) (by omega) (by omega) _ fun w4 n4 x4 h4 hs4 m4 => ⟨_, rfl, ?_⟩
      have hx : a ≤ x4 ∧ x4 < b := by
        clear hs1 hs2 hs3 hs4 m1 m2 m3 m4 h
        rcases h4 with rfl | rfl | rfl <;> omega
      exact ⟨x4, n4, rfl, hx.1, hx.2, hs4, ((m1.trans m2).trans m3).trans m4⟩
    · refine median_ok e d l c xs w0 hd0 _ 3 0 hs0 hne _ _ _ (by omega) (by omega) (by omega) _ fun w4 n4 x4 h4 hs4 m4 => ⟨_, rfl, ?_⟩
      have hx : a ≤ x4 ∧ x4 < b := by rcases h4 with rfl | rfl | rfl <;> omega
      exact ⟨x4, n4, rfl, hx.1, hx.2, hs4, m4⟩
    · exact absurd hn (by omega)
  · rintro _ _ w1 ⟨m, n, rfl, h1, h2, hs1, m1⟩
    have m01 : Mod no w w1 := m0.new m1 fun k hk => by cases hk; exact Nat.le_refl _
    refine ⟨n, by rw [cl hs1]; rfl, ifK_of (fun _ => ?_) (fun _ => ifK_of (fun _ => ?_) (fun _ => ?_))⟩
    all_goals exact h w1 m _ h1 h2 m01

/-! ### Reversing, scattering -/
theorem reverse_ok (a b : Nat) (hab : a < b) (hb : b ≤ l) (R : Value → World → Prop)
    (h : ∀ w' ys, Els Value.string e w' d l c ys → Seg a b xs ys → Mod (rowB d) w w' → R (.tuple #[]) w') :
    Ca Tryz.prog 140 #[.slice d l c, .int .i64 a, .int .i64 b] w R := by
  refine ca140 d l c a b w R ?_
  refine ⟨fun x y w' => ∃ (i j : Nat) (ys : List ByteArray), x = i ∧ y = j ∧ a ≤ i ∧ i ≤ b ∧ j < b ∧ Els Value.string e w' d l c ys ∧ Seg a b xs ys ∧ Mod (rowB d) w w', fun x y _ => (y - x).toNat,
    ⟨a, b - 1, xs, rfl, (by first | (simp only [IntKind.wrap_i64]; omega) | omega), Nat.le_refl _, by omega, by omega, hd, Seg.refl _ _ _, Mod.refl _ _⟩, ?_⟩
  rintro _ _ _ w1 ⟨i, j, ys, rfl, rfl, hi, hib, hj, hys, hsg, hm⟩
  have hyl := hys.len.1
  refine ifK_dec (fun hij => ?_) (fun _ => h w1 ys hys hsg hm)
  intro w2 e2
  have m2 : Mod no w1 w2 := by subst e2; exact Mod.drew _
  clear e2
  refine (hys.no m2).swp i j rfl rfl (by omega) (by omega) fun w3 h3 m3 => ?_
  exact ⟨⟨i + 1, j - 1, _, (by first | (simp only [IntKind.wrap_i64]; omega) | omega), (by first | (simp only [IntKind.wrap_i64]; omega) | omega), by omega, by omega, by omega, h3, hsg.trans (Seg.swap (by omega) (by omega) (by omega) (by omega) (by omega) (by omega)), (hm.trans_no m2).trans m3⟩, (by first | (simp only [IntKind.wrap_i64]; omega) | omega)⟩

/-! ### Parting -/
omit hd in
/-- As long as the left one is less. -/
theorem part_up (a b : Nat) (hb : b ≤ l) : ∀ (ys : List ByteArray) (w' : World) (i j : Nat) (J : Int) (Q : Int → World → Prop), J = j → Els Value.string e w' d l c ys → Pt ys a b i j →
    (∀ (i' : Nat) w'', Els Value.string e w'' d l c ys → Pt ys a b i' j → (i' ≤ j → at0 ys a ≤ at0 ys i') → i ≤ i' → Mod no w' w'' → Q i' w'') →
    (∃ (z : Int → World → Prop) (m : Int → World → Nat), z i w' ∧ ∀ (_ : Nat → Value) (x : Int) (w1 : World), z x w1 → atW w1.drew fun w2 => ifK (decide (x ≤ J))
      (∃ ad : Addr, d = some ad ∧ (0 : Int) ≤ x ∧ x < (↑l : Int) ∧ ∃ y : ByteArray, w2.cell? (Addr.add ad (Int.toNat x * 1)) = some (Value.string y) ∧
        ∃ ad : Addr, d = some ad ∧ (0 : Int) ≤ (a : Int) ∧ (a : Int) < (↑l : Int) ∧ ∃ y' : ByteArray, w2.cell? (Addr.add ad (Int.toNat (a : Int) * 1)) = some (Value.string y') ∧
        Ca Tryz.prog 142 (Array.mk [Value.string y, Value.string y']) w2 (fun v w' => ∃ b : Bool, v = Value.bool b ∧ ifK b (z (IntKind.wrap .i64 (x + 1)) w' ∧ m (IntKind.wrap .i64 (x + 1)) w' < m x w1) (Q x w')))
      (Q x w2)) := by
  intro ys w' i j J Q hJ hys hpt hQ
  refine ⟨fun x w'' => ∃ i' : Nat, x = i' ∧ Els Value.string e w'' d l c ys ∧ Pt ys a b i' j ∧ i ≤ i' ∧ Mod no w' w'', fun x _ => ((j : Int) + 1 - x).toNat, ⟨i, rfl, hys, hpt, Nat.le_refl _, Mod.refl _ _⟩, ?_⟩
  rintro _ _ w1 ⟨i', rfl, hy1, hp1, hi1, m1⟩ w2 e2
  have m2 : Mod no w1 w2 := by subst e2; exact Mod.drew _
  clear e2
  have hjb := hp1.jb
  have hai := hp1.ai
  refine ifK_dec (fun hle => ?_) (fun hgt => hQ i' w2 (hy1.no m2) hp1 (fun h => by omega) hi1 (m1.trans m2))
  refine lss (hy1.no m2) i' a rfl rfl (by omega) (by omega) (fun hlt => ?_) (fun hge => hQ i' w2 (hy1.no m2) hp1 (fun _ => Lin.nlt hge) hi1 (m1.trans m2))
  exact ⟨⟨i' + 1, (by first | (simp only [IntKind.wrap_i64]; omega) | omega), hy1.no m2, hp1.up (by omega) (Lin.lle hlt), by omega, m1.trans m2⟩, (by first | (simp only [IntKind.wrap_i64]; omega) | omega)⟩
omit hd in
/-- As long as the right one is not less. -/
theorem part_down (a b : Nat) (hb : b ≤ l) : ∀ (ys : List ByteArray) (w' : World) (i j : Nat) (I : Int) (Q : Int → World → Prop), I = i → Els Value.string e w' d l c ys → Pt ys a b i j → (i ≤ j → at0 ys a ≤ at0 ys i) →
    (∀ (j' : Nat) w'', Els Value.string e w'' d l c ys → Pt ys a b i j' → (i ≤ j' → at0 ys a ≤ at0 ys i ∧ at0 ys j' < at0 ys a) → j' ≤ j → Mod no w' w'' → Q j' w'') →
    (∃ (z : Int → World → Prop) (m : Int → World → Nat), z j w' ∧ ∀ (_ : Nat → Value) (x : Int) (w1 : World), z x w1 → atW w1.drew fun w2 => ifK (decide (I ≤ x))
      (∃ ad : Addr, d = some ad ∧ (0 : Int) ≤ x ∧ x < (↑l : Int) ∧ ∃ y : ByteArray, w2.cell? (Addr.add ad (Int.toNat x * 1)) = some (Value.string y) ∧
        ∃ ad : Addr, d = some ad ∧ (0 : Int) ≤ (a : Int) ∧ (a : Int) < (↑l : Int) ∧ ∃ y' : ByteArray, w2.cell? (Addr.add ad (Int.toNat (a : Int) * 1)) = some (Value.string y') ∧
        Ca Tryz.prog 142 (Array.mk [Value.string y, Value.string y']) w2 (fun v w' => ∃ b : Bool, v = Value.bool b ∧ ifK (!b) (z (IntKind.wrap .i64 (x - 1)) w' ∧ m (IntKind.wrap .i64 (x - 1)) w' < m x w1) (Q x w')))
      (Q x w2)) := by
  intro ys w' i j I Q hI hys hpt hi0 hQ
  refine ⟨fun x w'' => ∃ j' : Nat, x = j' ∧ Els Value.string e w'' d l c ys ∧ Pt ys a b i j' ∧ j' ≤ j ∧ Mod no w' w'', fun x _ => (x + 1 - (i : Int)).toNat, ⟨j, rfl, hys, hpt, Nat.le_refl _, Mod.refl _ _⟩, ?_⟩
  rintro _ _ w1 ⟨j', rfl, hy1, hp1, hj1, m1⟩ w2 e2
  have m2 : Mod no w1 w2 := by subst e2; exact Mod.drew _
  clear e2
  have hjb := hp1.jb
  have hai := hp1.ai
  refine ifK_dec (fun hle => ?_) (fun hgt => hQ j' w2 (hy1.no m2) hp1 (fun h => by omega) hj1 (m1.trans m2))
  refine nls (hy1.no m2) j' a rfl rfl (by omega) (by omega) (fun hge => ?_) (fun hlt => hQ j' w2 (hy1.no m2) hp1 (fun _ => ⟨hi0 (by omega), hlt⟩) hj1 (m1.trans m2))
  exact ⟨⟨j' - 1, (by first | (simp only [IntKind.wrap_i64]; omega) | omega), hy1.no m2, hp1.down (by omega) (Lin.nlt hge), by omega, m1.trans m2⟩, (by first | (simp only [IntKind.wrap_i64]; omega) | omega)⟩
theorem partition_ok (a b p : Nat) (hap : a ≤ p) (hpb : p < b) (hb : b ≤ l) (R : Value → World → Prop)
    (h : ∀ w' ys (m : Nat) (q : Bool), Els Value.string e w' d l c ys → Seg a b xs ys → Parted ys a m b → Mod (rowB d) w w' → R (.tuple #[.int .i64 m, .bool q]) w') :
    Ca Tryz.prog 144 #[.slice d l c, .int .i64 a, .int .i64 b, .int .i64 p] w R := by
  have hxl := hd.len.1
  refine ca144 d l c a b p w R ?_
  have ea : IntKind.i64.wrap ((a : Int) + 1) = ((a + 1 : Nat) : Int) := (by first | (simp only [IntKind.wrap_i64]; omega) | omega)
  have eb : IntKind.i64.wrap ((b : Int) - 1) = ((b - 1 : Nat) : Int) := (by first | (simp only [IntKind.wrap_i64]; omega) | omega)
  rw [W144, ea, eb]
  clear ea eb
  intro w0 e0
  have m0 : Mod no w w0 := by subst e0; exact Mod.drew _
  clear e0
  refine (hd.no m0).swp a p rfl rfl (by omega) (by omega) fun w1 h1 m1 => ?_
  have m1 := m0.no_trans m1
  have s1 : Seg a b xs (swapL xs a p) := Seg.swap (by omega) (by omega) (by omega) (by omega) hap hpb
  have fin : ∀ (ys : List ByteArray) (w' : World) (i j : Nat) (q : Bool), Els Value.string e w' d l c ys → Seg a b xs ys → Pt ys a b i j → j < i → Mod (rowB d) w w' →
      ∀ w'', Els Value.string e w'' d l c (swapL ys j a) → Mod (rowB d) w' w'' → R (.tuple #[.int .i64 j, .bool q]) w'' := by
    intro ys w' i j q hys hsg hpt hji hm w'' hy'' m''
    have hyl := hys.len.1
    have h1 := hpt.ai
    have h2 := hpt.ij
    have h3 := hpt.jb
    exact h w'' _ j q hy'' (hsg.trans (Seg.swap (by omega) (by omega) (by omega) (by omega) (by omega) (by omega))) (hpt.done (by omega) hji) (hm.trans m'')
  refine ⟨_, part_up e d l c hl a b hb _ w1 (a + 1) (b - 1) _ (fun x w' => ∃ i : Nat, x = i ∧ Els Value.string e w' d l c (swapL xs a p) ∧ Pt (swapL xs a p) a b i (b - 1) ∧ (i ≤ b - 1 → at0 (swapL xs a p) a ≤ at0 (swapL xs a p) i) ∧ Mod (rowB d) w w') rfl h1
    ⟨Nat.le_refl _, by omega, by omega, fun k h1 h2 => by omega, fun k h1 h2 => by omega⟩ (fun i w' h1 h2 h3 _ h4 => ⟨i, rfl, h1, h2, h3, m1.trans_no h4⟩), ?_⟩
  rintro _ _ w2 ⟨i, rfl, h2, hpt, hi, m2⟩
  refine ⟨_, part_down e d l c hl a b hb _ w2 i (b - 1) _ (fun x w' => ∃ j : Nat, x = j ∧ Els Value.string e w' d l c (swapL xs a p) ∧ Pt (swapL xs a p) a b i j ∧ (i ≤ j → at0 (swapL xs a p) a ≤ at0 (swapL xs a p) i ∧ at0 (swapL xs a p) j < at0 (swapL xs a p) a) ∧ Mod (rowB d) w w') rfl h2 hpt hi
    (fun j w' h1 h2 h3 _ h4 => ⟨j, rfl, h1, h2, h3, m2.trans_no h4⟩), ?_⟩
  rintro _ _ w3 ⟨j, rfl, h3, hpt, hij, m3⟩
  have hjb := hpt.jb
  have hai := hpt.ai
  have hil := hpt.ij
  have step : ∀ (ys : List ByteArray) (w' : World) (i j : Nat), Els Value.string e w' d l c ys → Seg a b xs ys → Pt ys a b i j → (i ≤ j → at0 ys a ≤ at0 ys i ∧ at0 ys j < at0 ys a) → i ≤ j → i < j := by
    intro ys w' i j _ _ hpt hij hle
    refine Nat.lt_of_le_of_ne hle fun e => ?_
    subst e
    have := hij hle
    exact absurd this.2 (Lin.nle this.1)
  refine ifK_dec (fun hgt => ?_) (fun hle => ?_)
  · intro w4 e4
    have m4 : Mod no w3 w4 := by subst e4; exact Mod.drew _
    clear e4
    refine (h3.no m4).swp j a rfl rfl (by omega) (by omega) fun w5 h5 m5 => ?_
    exact fin _ w4 i j true (h3.no m4) s1 hpt (by omega) (m3.trans_no m4) w5 h5 m5
  · intro w4 e4
    have m4 : Mod no w3 w4 := by subst e4; exact Mod.drew _
    clear e4
    have hlt := step _ w3 i j h3 s1 hpt hij (by omega)
    obtain ⟨hx, hy⟩ := hij (by omega)
    refine (h3.no m4).swp i j rfl rfl (by omega) (by omega) fun w5 h5 m5 => ?_
    have hl3 := h3.len.1
    refine ⟨fun x y w' => ∃ (i j : Nat) (ys : List ByteArray), x = i ∧ y = j ∧ Els Value.string e w' d l c ys ∧ Seg a b xs ys ∧ Pt ys a b i j ∧ Mod (rowB d) w w', fun x y _ => (y + 1 - x).toNat,
      ⟨i + 1, j - 1, _, (by first | (simp only [IntKind.wrap_i64]; omega) | omega), (by first | (simp only [IntKind.wrap_i64]; omega) | omega), h5, s1.trans (Seg.swap (by omega) (by omega) (by omega) (by omega) (by omega) (by omega)), hpt.swap (by omega) hlt (Lin.lle hy) hx, (m3.trans_no m4).trans m5⟩, ?_⟩
    rintro _ _ _ w6 ⟨i6, j6, ys, rfl, rfl, h6, s6, hpt6, m6⟩
    refine ⟨_, part_up e d l c hl a b hb _ w6 i6 j6 _ (fun x w' => ∃ i : Nat, x = i ∧ Els Value.string e w' d l c ys ∧ Pt ys a b i j6 ∧ (i ≤ j6 → at0 ys a ≤ at0 ys i) ∧ i6 ≤ i ∧ Mod (rowB d) w w') rfl h6 hpt6
      (fun i w' h1 h2 h3 h5 h4 => ⟨i, rfl, h1, h2, h3, h5, m6.trans_no h4⟩), ?_⟩
    rintro _ _ w7 ⟨i7, rfl, h7, hpt7, hi7, hii, m7⟩
    refine ⟨_, part_down e d l c hl a b hb _ w7 i7 j6 _ (fun x w' => ∃ j : Nat, x = j ∧ Els Value.string e w' d l c ys ∧ Pt ys a b i7 j ∧ (i7 ≤ j → at0 ys a ≤ at0 ys i7 ∧ at0 ys j < at0 ys a) ∧ j ≤ j6 ∧ Mod (rowB d) w w') rfl h7 hpt7 hi7
      (fun j w' h1 h2 h3 h5 h4 => ⟨j, rfl, h1, h2, h3, h5, m7.trans_no h4⟩), ?_⟩
    rintro _ _ w8 ⟨j8, rfl, h8, hpt8, hij8, hjj, m8⟩
    have hjb8 := hpt8.jb
    have hai8 := hpt8.ai
    have hil8 := hpt8.ij
    have hl8 := h8.len.1
    refine ifK_dec (fun hgt => ?_) (fun hle => ?_)
    · intro w9 e9
      have m9 : Mod no w8 w9 := by subst e9; exact Mod.drew _
      clear e9
      refine (h8.no m9).swp j8 a rfl rfl (by omega) (by omega) fun w10 h10 m10 => ?_
      exact fin _ w9 i7 j8 false (h8.no m9) s6 hpt8 (by omega) (m8.trans_no m9) w10 h10 m10
    · intro w9 e9
      have m9 : Mod no w8 w9 := by subst e9; exact Mod.drew _
      clear e9
      have hlt8 := step _ w8 i7 j8 h8 s6 hpt8 hij8 (by omega)
      obtain ⟨hx8, hy8⟩ := hij8 (by omega)
      refine (h8.no m9).swp i7 j8 rfl rfl (by omega) (by omega) fun w10 h10 m10 => ?_
      exact ⟨⟨i7 + 1, j8 - 1, _, (by first | (simp only [IntKind.wrap_i64]; omega) | omega), (by first | (simp only [IntKind.wrap_i64]; omega) | omega), h10, s6.trans (Seg.swap (by omega) (by omega) (by omega) (by omega) (by omega) (by omega)), hpt8.swap (by omega) hlt8 (Lin.lle hy8) hx8, (m8.trans_no m9).trans m10⟩, (by first | (simp only [IntKind.wrap_i64]; omega) | omega)⟩
end
end Go.Proofs.YtgjdandnncjegaaGreatDoor.Sortstring
