/- Parts of the proof of ConsumerHoldsSaid. -/
import Derived.Laws.MakeOwn
import Derived.Test.YtmnbnjkbbhjocaaCore9
import Derived.Test.YtmnbnjkbbhjocaaProg
import Derived.Deep.Slices
import Derived.Deep.Fields
import Derived.ChangeSame
import Derived.Below
import Derived.Test.YtmnbnjkbbhjocaaX4
/- The law's act, where the reference's desk is empty: what becomes of the desk. -/
namespace Go.Proofs.Ytmnbnjkbbhjocaa
open Go Go.Proofs.Ytmnbnjkbbhjocaa.St

/-- What an act other than Add makes of a line. -/
inductive Step (l : List One) : List One → Prop
  | same : Step l l
  | drop (i : Nat) : Step l (l.take i ++ l.drop (i + 1))
  | took (c t : Int) : Step l (tookL l c t)
  | settle (c t : Int) : Step l (settleL l c t)
  | forget (q : ByteArray) : Step l (l.filter fun x => !(qIs q x))

theorem actN_ok (w0 : World) (S : Nat → Prop) (d e : Nat) (F G : Nat → Prop) (l : List One) (a0 a1 : Int) (a2 : ByteArray) (a3 a4 : Int) (w : World) (t : Two w0 S w d e F G l []) (hw : WF l) (h0 : a0 ≠ 0) (R : Value → World → Prop)
    (h : ∀ w' F' G' l' b, Two w0 S w' d e F' G' l' [] → Step l l' → R (.bool b) w') :
    Ca Try.prog 16 #[.pointer (some ⟨d, 0, none⟩), .pointer (some ⟨e, 0, none⟩), .agg #[.int .i64 a0, .int .i64 a1, .string a2, .int .i64 a3, .int .u64 a4]] w R := by
  refine ca16 _ _ a0 a1 a2 a3 a4 w R ?_
  have hl32 := hw.len
  have hwt := hw.tagsLt
  intro w1 e1
  have m1 : Mod no w w1 := by subst e1; exact Mod.alloc _ _
  have b1 : w1.heap[w.heap.size]? = some (.cells #[.int .i64 a0, .int .i64 a1, .string a2, .int .i64 a3, .int .u64 a4] 47 (0, 0)) := by subst e1; exact new_at _ _
  clear e1
  have hBF : ¬ F w.heap.size := fun hk => Nat.lt_irrefl _ (t.fb _ hk).2.1
  have t1 := t.no m1
  have hGlt : ∀ k, G k → k < w.heap.size := fun k hk => (t.gb k hk).2
  have s1 := m1.size
  have heG : G e := by
    obtain ⟨_, _, _, _, _, _, _, hG, _⟩ := t.rd
    exact hG
  have onG : ∀ {w' w'' : World}, Mod (on e) w' w'' → Mod G w' w'' := fun hm => hm.mono fun k _ hk => by cases hk; exact heG
  clear t
  have nil0 : ∀ {p : One → Bool}, ([] : List One).findIdx? p = none := rfl
  -- the reference's desk knows nobody
  have tookE0 : ∀ (w5 : World) (c : Int) {F' : Nat → Prop} {l' : List One}, Two w0 S w5 d e F' G l' [] → ∀ {K : Value → World → Prop}, (∀ w6, Two w0 S w6 d e F' G l' [] → K (.int .i64 3) w6) →
      Ca Try.prog 38 ⟨[.pointer (some ⟨e, 0, none⟩), .int .i64 c, .int .u64 a4]⟩ w5 K := by
    intro w5 c F' l' t5 K hK
    exact tookR_ok e G [] c a4 w5 t5.rd (by simp) (fun x hx => by simp at hx) _ (fun hne w6 m6 => hK w6 (t5.no m6)) (fun i hi => by simp at hi)
  refine ⟨a0, by rw [cl1 b1]; rfl, ifK_eq (fun hk => absurd hk h0) (fun hk0 => ifK_eq (fun hk => ?_) (fun hk1 => ifK_eq (fun hk => ?_) (fun hk2 => ifK_eq (fun hk => ?_) (fun hk6 => ifK_eq (fun hk => ?_) (fun hk3 => ifK_eq (fun hk => ?_) (fun hk4 => ifK_eq (fun hk => ?_) (fun hk5 => h w1 F G l _ t1 .same)))))))⟩
  · -- Drop
    refine ⟨a1, by rw [cl1 b1]; rfl, ?_⟩
    refine drop_ok d F l a1 w1 t1.dk (fun x hx => by have := hwt x hx; omega) _ (fun _ w2 m2 => ?_) (fun a x b hab hf _ w2 ra rl rc ys hd2 m2 hra hpy hsy hnra => ?_)
    · have t2 := t1.no m2
      have b12 := m2.at' b1
      have hra2 : Ints .u64 27 w2 none 0 0 [] := Els.nil _ _
      refine ⟨_, _, _, _, _, rfl, ?_⟩
      intro w3 e3
      have m3 : Mod no w2 w3 := by subst e3; exact Mod.alloc _ _
      have b3 : w3.heap[w2.heap.size]? = some (.cells #[.string (ByteArray.mk #[]), .slice none 0 0] 33 (0, 0)) := by subst e3; exact new_at _ _
      clear e3
      refine fillC_ok (vs := [.string (ByteArray.mk #[]), .slice (none) (0) (0)]) b3 rfl fun w4 b4 m4 _ => ?_
      have m4n : Mod no w2 w4 := m3.new m4 fun k hk => by cases hk; exact Nat.le_refl _
      have t4 := t2.no m4n
      have b14 := m4n.at' b12
      refine ⟨a1, by rw [cl1 b14]; rfl, ?_⟩
      refine dropR_ok e G [] a1 w4 t4.rd (by simp) _ (fun _ w5 m5 => ?_) (fun i hi => by simp at hi)
      refine ⟨_, _, _, _, _, _, _, rfl, ?_⟩
      intro w6 e6
      have m6 : Mod no w5 w6 := by subst e6; exact Mod.alloc _ _
      have b6 : w6.heap[w5.heap.size]? = some (.cells #[.int .i64 0, .string (ByteArray.mk #[]), .int .i64 0, .slice none 0 0] 53 (0, 0)) := by subst e6; exact new_at _ _
      clear e6
      refine fillC_ok (vs := [.int .i64 0, .string (ByteArray.mk #[]), .int .i64 0, .slice none 0 0]) b6 rfl fun w7 b7 m7 _ => ?_
      have m7n : Mod no w4 w7 := m5.trans (m6.new m7 fun k hk => by cases hk; exact Nat.le_refl _)
      have b47 := m7n.at' b4
      have t7 := t4.no m7n
      refine ⟨_, by rw [cl1 b47]; rfl, _, by rw [cl1 b7]; rfl, ifK_of (fun _ => ?_) (fun _ => h w7 _ _ _ _ t7 .same)⟩
      refine ⟨none, 0, 0, by rw [cl1 b47]; rfl, none, 0, 0, by rw [cl1 b7]; rfl, ?_⟩
      refine tags_ok (none) (0) (0) none 0 0 ([]) [] w7 ((hra2.no m4n).no m7n) (Els.nil _ _) (by decide) _ fun w8 m8 => ⟨_, rfl, ?_⟩
      exact ifK_of (fun _ => h w8 _ _ _ _ (t7.no m8) .same) (fun _ => h w8 _ _ _ _ (t7.no m8) .same)
    · have t2 := t1.left hd2 m2 fun k hk => .inl hk
      have b12 := m2.at b1 hBF
      have hra2 := hra
      have hrl := hra.len.1
      have hpl := hpy.length_eq
      have hxl := hwt x (by rw [hab]; simp)
      have hline : a ++ b = l.take a.length ++ l.drop (a.length + 1) := by rw [hab]; simp
      rw [hline] at t2
      refine ⟨_, _, _, _, _, rfl, ?_⟩
      intro w3 e3
      have m3 : Mod no w2 w3 := by subst e3; exact Mod.alloc _ _
      have b3 : w3.heap[w2.heap.size]? = some (.cells #[.string (ByteArray.mk #[]), .slice none 0 0] 33 (0, 0)) := by subst e3; exact new_at _ _
      clear e3
      refine fillC_ok (vs := [.string (x.queue), .slice (ra) (rl) (rc)]) b3 rfl fun w4 b4 m4 _ => ?_
      have m4n : Mod no w2 w4 := m3.new m4 fun k hk => by cases hk; exact Nat.le_refl _
      have t4 := t2.no m4n
      have b14 := m4n.at' b12
      refine ⟨a1, by rw [cl1 b14]; rfl, ?_⟩
      refine dropR_ok e G [] a1 w4 t4.rd (by simp) _ (fun _ w5 m5 => ?_) (fun i hi => by simp at hi)
      refine ⟨_, _, _, _, _, _, _, rfl, ?_⟩
      intro w6 e6
      have m6 : Mod no w5 w6 := by subst e6; exact Mod.alloc _ _
      have b6 : w6.heap[w5.heap.size]? = some (.cells #[.int .i64 0, .string (ByteArray.mk #[]), .int .i64 0, .slice none 0 0] 53 (0, 0)) := by subst e6; exact new_at _ _
      clear e6
      refine fillC_ok (vs := [.int .i64 0, .string (ByteArray.mk #[]), .int .i64 0, .slice none 0 0]) b6 rfl fun w7 b7 m7 _ => ?_
      have m7n : Mod no w4 w7 := m5.trans (m6.new m7 fun k hk => by cases hk; exact Nat.le_refl _)
      have b47 := m7n.at' b4
      have t7 := t4.no m7n
      refine ⟨_, by rw [cl1 b47]; rfl, _, by rw [cl1 b7]; rfl, ifK_of (fun _ => ?_) (fun _ => h w7 _ _ _ _ t7 (.drop _))⟩
      refine ⟨ra, rl, rc, by rw [cl1 b47]; rfl, none, 0, 0, by rw [cl1 b7]; rfl, ?_⟩
      refine tags_ok (ra) (rl) (rc) none 0 0 (ys) [] w7 ((hra2.no m4n).no m7n) (Els.nil _ _) (by omega) _ fun w8 m8 => ⟨_, rfl, ?_⟩
      exact ifK_of (fun _ => h w8 _ _ _ _ (t7.no m8) (.drop _)) (fun _ => h w8 _ _ _ _ (t7.no m8) (.drop _))
  ·
      refine ⟨a2, by rw [cl1 b1]; rfl, ?_⟩
      refine next_dk d F l a2 w1 t1.dk _ fun w2 m2 => ⟨_, _, rfl, a2, by rw [cl1 (m2.at' b1)]; rfl, ?_⟩
      refine nextR_ok e G [] a2 w2 (t1.no m2).rd _ fun w3 m3 => ⟨_, _, rfl, ?_⟩
      have t3 := (t1.no m2).no m3
      have b3 := m3.at' (m2.at' b1)
      refine ifK_of (fun _ => h w3 F G l _ t3 .same) (fun _ => ifK_of (fun _ => h w3 F G l _ t3 .same) (fun _ => ?_))
      intro w4 e4
      have m4 : Mod no w3 w4 := by subst e4; exact Mod.drew _
      clear e4
      have t4 := t3.no m4
      have b4 := m4.at' b3
      refine ⟨a0, by rw [cl1 b4]; rfl, ifK_eq (fun _ => h w4 F G l _ t4 .same) (fun _ => ?_)⟩
      refine ⟨a4, by rw [cl1 b4]; rfl, a4, by rw [cl1 b4]; rfl, ?_⟩
      refine took_ok d F l _ a4 w4 t4.dk _ fun w5 hd5 m5 => ⟨_, rfl, ?_⟩
      have b5 := m5.at b4 hBF
      refine ⟨by rw [cl2 b5]; rfl, ?_⟩
      exact tookE0 w5 _ (t4.left hd5 m5 fun k hk => .inl hk) fun w6 t6 => ⟨_, rfl, h w6 _ _ _ _ t6 (.took _ _)⟩
  ·
      refine ⟨a2, by rw [cl1 b1]; rfl, ?_⟩
      refine next_dk d F l a2 w1 t1.dk _ fun w2 m2 => ⟨_, _, rfl, a2, by rw [cl1 (m2.at' b1)]; rfl, ?_⟩
      refine nextR_ok e G [] a2 w2 (t1.no m2).rd _ fun w3 m3 => ⟨_, _, rfl, ?_⟩
      have t3 := (t1.no m2).no m3
      have b3 := m3.at' (m2.at' b1)
      refine ifK_of (fun _ => h w3 F G l _ t3 .same) (fun _ => ifK_of (fun _ => h w3 F G l _ t3 .same) (fun _ => ?_))
      intro w4 e4
      have m4 : Mod no w3 w4 := by subst e4; exact Mod.drew _
      clear e4
      have t4 := t3.no m4
      have b4 := m4.at' b3
      refine ⟨a0, by rw [cl1 b4]; rfl, ifK_eq (fun _ => h w4 F G l _ t4 .same) (fun _ => ?_)⟩
      refine ⟨a4, by rw [cl1 b4]; rfl, a4, by rw [cl1 b4]; rfl, ?_⟩
      refine took_ok d F l _ a4 w4 t4.dk _ fun w5 hd5 m5 => ⟨_, rfl, ?_⟩
      have b5 := m5.at b4 hBF
      refine ⟨by rw [cl2 b5]; rfl, ?_⟩
      exact tookE0 w5 _ (t4.left hd5 m5 fun k hk => .inl hk) fun w6 t6 => ⟨_, rfl, h w6 _ _ _ _ t6 (.took _ _)⟩
  · -- Took
    intro w2 e2
    have m2 : Mod no w1 w2 := by subst e2; exact Mod.drew _
    clear e2
    have b2 := m2.at' b1
    have t2 := t1.no m2
    refine ⟨a1, by rw [cl1 b2]; rfl, a4, by rw [cl1 b2]; rfl, a1, by rw [cl1 b2]; rfl, a4, by rw [cl1 b2]; rfl, ?_⟩
    refine took_ok d F l a1 a4 w2 t2.dk _ fun w3 hd3 m3 => ⟨_, rfl, ?_⟩
    have b3 := m3.at b2 hBF
    refine ⟨by rw [cl2 b3]; rfl, by rw [cl2 b3]; rfl, ?_⟩
    exact tookE0 w3 a1 (t2.left hd3 m3 fun k hk => .inl hk) fun w6 t6 => ⟨_, rfl, h w6 _ _ _ _ t6 (.took _ _)⟩
  · -- Settle
    refine ⟨a1, by rw [cl1 b1]; rfl, a4, by rw [cl1 b1]; rfl, ?_⟩
    refine settle_ok d F l a1 a4 w1 t1.dk _ fun w2 hd2 m2 => ⟨_, _, rfl, ?_⟩
    have b2 := m2.at b1 hBF
    have t2 := t1.left hd2 m2 fun k hk => .inl hk
    refine ⟨a1, by rw [cl1 b2]; rfl, a4, by rw [cl1 b2]; rfl, ?_⟩
    refine settleR_ok e G [] a1 a4 w2 t2.rd (by simp) (fun x hx => by simp at hx) _ (fun _ w3 m3 => ?_) (fun i hi => by simp at hi) (fun i hi => by simp at hi)
    exact ⟨_, _, rfl, ifK_of (fun _ => h w3 _ _ _ _ (t2.no m3) (.settle _ _)) (fun _ => h w3 _ _ _ _ (t2.no m3) (.settle _ _))⟩
  · -- Forget
    intro w2 e2
    have m2 : Mod no w1 w2 := by subst e2; exact Mod.drew _
    clear e2
    have b2 := m2.at' b1
    have t2 := t1.no m2
    refine ⟨a2, by rw [cl1 b2]; rfl, a2, by rw [cl1 b2]; rfl, ?_⟩
    refine forget_ok d F l a2 w2 t2.dk (fun x hx => by have := hwt x hx; omega) (by omega) hw.uniq (fun k hk => (t2.fb k hk).2.1) _ fun w3 a n c ys hpy hsy hra hd3 m3 hna => ⟨_, _, _, rfl, ?_⟩
    have b3 := m3.at b2 hBF
    have t3 := t2.left hd3 m3 fun k hk => .inl hk
    refine ⟨by rw [cl2 b3]; rfl, ?_⟩
    refine forgetR_ok e G [] a2 w3 t3.rd (by simp) (by simp) _ fun w4 b m c' zs hpz hsz hrb hr4 m4 hnb => ⟨_, _, _, rfl, ?_⟩
    have t4 := t3.right hr4 (onG m4) fun k hk => hk
    have s2 := m2.size
    have he := hGlt e heG
    have hra4 : Ints .i64 3 w4 a n c (fout l a2 ys) := hra.mod m4 fun k hk hS => by cases hS; have := hna _ hk; omega
    have hnl := hra.len.1
    have hfl : (fout l a2 ys).length ≤ ys.length := List.length_filter_le _ _
    have hyl := hpy.length_eq
    rw [List.length_map] at hyl
    refine ints_ok _ _ _ _ _ _ _ _ w4 hra4 hrb (by omega) _ fun w5 m5 => ⟨_, rfl, ?_⟩
    exact h w5 _ _ _ _ (t4.no m5) (.forget _)
end Go.Proofs.Ytmnbnjkbbhjocaa

/- The law's list of acts: how it lies, and whether it is light. -/
namespace Go.Proofs.Ytmnbnjkbbhjocaa
open Go Go.Proofs.Ytmnbnjkbbhjocaa.St

/-- One of the law's acts. -/
structure ActC where
  kind : Int
  client : Int
  queue : ByteArray
  n : Int
  tag : Int
def actL : Lay ActC where
  cs x := [.int .i64 x.kind, .int .i64 x.client, .string x.queue, .int .i64 x.n, .int .u64 x.tag]
  s := 5
  pos := by decide
  len _ := rfl
  one x v hv := by simp at hv; rcases hv with rfl | rfl | rfl | rfl | rfl <;> rfl

/-- An argument's row: it is read, never written. -/
structure ArgRow {α : Type} (L : Lay α) (w : World) (a : Option Addr) (l c : Nat) (xs : List α) : Prop where
  len : xs.length = l
  lc : l ≤ c
  cm : c ≤ 9223372036854775807
  blk : ∀ ad, a = some ad → 0 < l → ad.block < w.heap.size
  get : ∀ (i : Nat) (h : i < xs.length), ∃ ad, a = some ad ∧ ∀ j v, (L.cs xs[i])[j]? = some v → w.cell? (Addr.add (Addr.add ad (i * L.s)) j) = some v

theorem cell_no {w w' : World} (h : Mod no w w') {ad : Addr} (hb : ad.block < w.heap.size) : w'.cell? ad = w.cell? ad := by
  have := h.keep ad.block hb id
  unfold World.cell?
  rw [this]
theorem add_block (ad : Addr) (n : Nat) : (Addr.add ad n).block = ad.block := by unfold Addr.add; split <;> rfl

theorem ArgRow.no {α : Type} {L : Lay α} {w w' : World} {a : Option Addr} {l c : Nat} {xs : List α} (h : ArgRow L w a l c xs) (hm : Mod no w w') : ArgRow L w' a l c xs := by
  refine ⟨h.len, h.lc, h.cm, fun ad had hl => Nat.lt_of_lt_of_le (h.blk ad had hl) hm.size, fun i hi => ?_⟩
  obtain ⟨ad, had, hg⟩ := h.get i hi
  refine ⟨ad, had, fun j v hj => ?_⟩
  rw [cell_no hm (by rw [add_block, add_block]; exact h.blk ad had (by have := h.len; omega))]
  exact hg j v hj

/-- One of the acts is copied into a place of its own. -/
theorem copyAct {w : World} {a : Option Addr} {l c : Nat} {xs : List ActC} (hr : ArgRow actL w a l c xs) {x : Int} (i : Nat) (hx : x = i) (hi : i < xs.length) {K : World → Prop}
    (hk : ∀ w', w'.heap[w.heap.size]? = some (.cells (actL.cs xs[i]).toArray 47 (0, 0)) → Mod no w w' → K w') :
    ∃ ad : Addr, a = some ad ∧ (0 : Int) ≤ x ∧ x < (↑l : Int) ∧ ∃ x0 : Int, w.cell? (Addr.add (Addr.add ad (Int.toNat x * 5)) 0) = some (.int .i64 x0) ∧
      ∃ x1 : Int, w.cell? (Addr.add (Addr.add ad (Int.toNat x * 5)) 1) = some (.int .i64 x1) ∧ ∃ s2 : ByteArray, w.cell? (Addr.add (Addr.add ad (Int.toNat x * 5)) 2) = some (.string s2) ∧
      ∃ x3 : Int, w.cell? (Addr.add (Addr.add ad (Int.toNat x * 5)) 3) = some (.int .i64 x3) ∧ ∃ x4 : Int, w.cell? (Addr.add (Addr.add ad (Int.toNat x * 5)) 4) = some (.int .u64 x4) ∧
      atW (w.alloc (.cells ⟨[.int .i64 0, .int .i64 0, .string ⟨#[]⟩, .int .i64 0, .int .u64 0]⟩ 47 (0, 0))) fun w1 => fillC w.heap.size [.int .i64 x0, .int .i64 x1, .string s2, .int .i64 x3, .int .u64 x4] 0 w1 K := by
  subst hx
  obtain ⟨ad, had, hg⟩ := hr.get i hi
  have hl := hr.len
  have hg : ∀ j v, (actL.cs xs[i])[j]? = some v → w.cell? (Addr.add (Addr.add ad (Int.toNat (i : Int) * 5)) j) = some v := hg
  refine ⟨_, had, by omega, by omega, _, hg 0 _ rfl, _, hg 1 _ rfl, _, hg 2 _ rfl, _, hg 3 _ rfl, _, hg 4 _ rfl, ?_⟩
  intro w2 e2
  have m2 : Mod no w w2 := by subst e2; exact Mod.alloc _ _
  have b2 : w2.heap[w.heap.size]? = some (.cells #[.int .i64 0, .int .i64 0, .string (ByteArray.mk #[]), .int .i64 0, .int .u64 0] 47 (0, 0)) := by subst e2; exact new_at _ _
  clear e2
  refine fillC_ok (vs := actL.cs xs[i]) b2 rfl fun w3 b3 m3 _ => hk w3 b3 (m2.new m3 fun k hk => by cases hk; exact Nat.le_refl _)

theorem light_ok (a : Option Addr) (l c : Nat) (xs : List ActC) (w : World) (hr : ArgRow actL w a l c xs) (R : Value → World → Prop) (h : ∀ w' b, Mod no w w' → R (.bool b) w') : Ca Try.prog 15 #[.slice a l c] w R := by
  have hl := hr.len
  have hlc := hr.lc
  have hcm := hr.cm
  refine ca15 a l c w R ?_
  refine ⟨fun _ x w' => ∃ i : Nat, x = i ∧ i ≤ l ∧ Mod no w w', fun _ x _ => ((l : Int) - x).toNat, ⟨0, rfl, Nat.zero_le _, Mod.refl _ _⟩, ?_⟩
  rintro _ n _ w1 ⟨i, rfl, hi, m1⟩
  refine ifK_dec (fun hlt => ?_) (fun _ => h w1 true m1)
  refine copyAct (hr.no m1) i rfl (by omega) fun w2 b2 m2 => ?_
  refine ⟨_, by rw [cl1 b2]; rfl, by decide, ifK_of (fun _ => h w2 false (m1.trans m2)) (fun _ => ?_)⟩
  have e1 : IntKind.i64.wrap ((i : Int) + 1) = ((i + 1 : Nat) : Int) := by rw [wrap64 (by omega) (by omega)]; rfl
  rw [e1]
  clear e1
  exact ⟨⟨i + 1, rfl, by omega, m1.trans m2⟩, by simp only; omega⟩

theorem RD.new0 {w : World} {e : Nat} (h : w.heap[e]? = some (.cells #[.slice none 0 0] 44 (0, 0))) : RD w e (on e) [] :=
  ⟨none, 0, 0, [], h, Row.empty _ _ _, AllAt.nil, rfl, fun k hk => by simp [rowB] at hk⟩
theorem WF.nil : WF [] := ⟨by simp, by simp, fun x hx => by simp at hx⟩

/-- Both desks, new. -/
theorem two_new {w w1 w2 : World} (m1 : Mod no w w1) (hd : Dk w1 w.heap.size (new w) []) (m2 : Mod no w1 w2) (hb : w2.heap[w1.heap.size]? = some (.cells #[.slice none 0 0] 44 (0, 0))) :
    Two w no w2 w.heap.size w1.heap.size (fun k => new w k ∧ k < w1.heap.size) (on w1.heap.size) [] [] := by
  have hlt := lt_of_heap hb
  have s1 := m1.size
  refine ⟨hd.tight.no m2, RD.new0 hb, fun k hk => ⟨.inr hk.1, by have := hk.2; omega, fun hg => by cases hg; exact Nat.lt_irrefl _ hk.2⟩, fun k hk => by cases hk; exact ⟨.inr s1, hlt⟩, m1.trans m2⟩
end Go.Proofs.Ytmnbnjkbbhjocaa

/- Plain laws on lines: a tag of a queue is held by one at most, and stays so. It names no program's function. -/
namespace Go.Proofs.Ytmnbnjkbbhjocaa
open Go Go.Proofs.Ytmnbnjkbbhjocaa.St

structure WX (l : List One) : Prop where
  wf : WF l
  cl : ∀ x ∈ l, 1 ≤ x.client ∧ x.client ≤ 1000 ∧ 1 ≤ x.most
  nz : ∀ x ∈ l, (0 : Int) ∉ x.tags
  apart : ∀ x ∈ l, ∀ y ∈ l, x.client ≠ y.client → x.queue.toList = y.queue.toList → ∀ t ∈ x.tags, t ∉ y.tags

theorem WX.nil : WX [] := ⟨WF.nil, fun x hx => by simp at hx, fun x hx => by simp at hx, fun x hx => by simp at hx⟩
theorem WX.sub {l l' : List One} (h : WX l) (hs : l'.Sublist l) : WX l' :=
  ⟨h.wf.sub hs, fun x hx => h.cl x (hs.subset hx), fun x hx => h.nz x (hs.subset hx), fun x hx y hy => h.apart x (hs.subset hx) y (hs.subset hy)⟩

theorem addE_zero {l : List One} {c : Int} {q : ByteArray} {m : Int} (hE : addE l c q m = 0) : 1 ≤ c ∧ c ≤ 1000 ∧ 1 ≤ m ∧ m ≤ 100 ∧ l.find? (·.client == c) = none := by
  rw [addE] at hE
  split at hE
  · cases hE
  split at hE
  · cases hE
  split at hE
  · cases hE
  split at hE
  · cases hE
  split at hE
  · cases hE
  split at hE
  · cases hE
  split at hE
  · cases hE
  rename_i h1 h2 h3 h4 h5 h6 h7
  simp only [decide_eq_true_eq] at h1 h2 h3 h4 h7
  refine ⟨by omega, by omega, by omega, by omega, ?_⟩
  cases hf : l.find? (·.client == c) with
  | none => rfl
  | some x => rw [hf] at h6; exact absurd rfl h6
theorem WX.add {l : List One} (h : WX l) (c : Int) (q : ByteArray) (m : Int) : WX (addL l c q m) := by
  have hwf := h.wf.add c q m
  rw [addL] at hwf ⊢
  split
  · rename_i hE
    rw [if_pos hE] at hwf
    obtain ⟨h1, h2, h3, h4, h5⟩ := addE_zero hE
    refine ⟨hwf, fun x hx => ?_, fun x hx => ?_, fun x hx y hy hne hq t ht => ?_⟩
    · rcases List.mem_append.1 hx with hx | hx
      · exact h.cl x hx
      · simp at hx; subst hx; exact ⟨h1, h2, h3⟩
    · rcases List.mem_append.1 hx with hx | hx
      · exact h.nz x hx
      · simp at hx; subst hx; exact fun h => by simp at h
    · rcases List.mem_append.1 hx with hx | hx
      · rcases List.mem_append.1 hy with hy | hy
        · exact h.apart x hx y hy hne hq t ht
        · simp at hy; subst hy; exact fun h => by simp at h
      · simp at hx; subst hx; simp at ht
  · exact h

theorem tookE_zero {l : List One} {c t : Int} (hE : tookE l c t = 0) : t ≠ 0 ∧ ∃ x, l.find? (·.client == c) = some x ∧ ∀ y ∈ l, y.queue.toList = x.queue.toList → t ∉ y.tags := by
  rw [tookE] at hE
  split at hE
  · cases hE
  · rename_i x hx
    split at hE
    · cases hE
    split at hE
    · cases hE
    split at hE
    · cases hE
    rename_i h1 h2 h3
    refine ⟨by simpa using h3, x, hx, fun y hy hq hm => ?_⟩
    have hn : l.find? (holdsB x.queue t) = none := by
      cases hf : l.find? (holdsB x.queue t) with
      | none => rfl
      | some z => rw [hf] at h2; exact absurd rfl h2
    have := List.find?_eq_none.1 hn y hy
    rw [holdsB] at this
    simp [hq, hm] at this
theorem mem_toEnd {l : List One} {φ : One → Bool} {f : One → One} {x' : One} (h : x' ∈ toEnd l φ f) : x' ∈ l ∨ ∃ x, l.find? φ = some x ∧ x' = f x := by
  rw [toEnd] at h
  split at h
  · exact .inl h
  · rename_i i hf
    obtain ⟨hi, h1, h2⟩ := find_of_idx hf
    rw [drop_take_one hi] at h
    rcases List.mem_append.1 h with h | h
    · exact .inl (List.mem_of_mem_take h)
    · rcases List.mem_append.1 h with h | h
      · exact .inl (List.mem_of_mem_drop h)
      · simp at h; exact .inr ⟨_, h2, h⟩
theorem mem_inPlace {l : List One} {φ : One → Bool} {f : One → One} {x' : One} (h : x' ∈ inPlace l φ f) : x' ∈ l ∨ ∃ x, l.find? φ = some x ∧ x' = f x := by
  rw [inPlace] at h
  split at h
  · exact .inl h
  · rename_i i hf
    obtain ⟨hi, h1, h2⟩ := find_of_idx hf
    rw [drop_take_one hi] at h
    rcases List.mem_append.1 h with h | h
    · exact .inl (List.mem_of_mem_take h)
    · rcases List.mem_append.1 h with h | h
      · simp at h; exact .inr ⟨_, h2, h⟩
      · exact .inl (List.mem_of_mem_drop h)
theorem mem_took {l : List One} {c t : Int} {x' : One} (h : x' ∈ tookL l c t) : x' ∈ l ∨ ∃ x ∈ l, x.client = c ∧ x' = { x with tags := x.tags ++ [t] } ∧ t ≠ 0 ∧ ∀ y ∈ l, y.queue.toList = x.queue.toList → t ∉ y.tags := by
  rw [tookL] at h
  split at h
  · rename_i hE
    obtain ⟨h0, x, hx, hall⟩ := tookE_zero hE
    rcases mem_toEnd h with h | ⟨y, hy, he⟩
    · exact .inl h
    · rw [hx] at hy
      obtain rfl := Option.some.inj hy
      exact .inr ⟨x, List.mem_of_find?_eq_some hx, by simpa using List.find?_some hx, he, h0, hall⟩
  · exact .inl h
theorem mem_settle {l : List One} {c t : Int} {x' : One} (h : x' ∈ settleL l c t) : x' ∈ l ∨ ∃ x ∈ l, x.client = c ∧ x' = { x with tags := x.tags.erase t } := by
  rw [settleL] at h
  split at h
  · rcases mem_inPlace h with h | ⟨x, hx, he⟩
    · exact .inl h
    · exact .inr ⟨x, List.mem_of_find?_eq_some hx, by simpa using List.find?_some hx, he⟩
  · exact .inl h

theorem WX.took {l : List One} (h : WX l) (c t : Int) : WX (tookL l c t) := by
  refine ⟨h.wf.took c t, fun x' hx' => ?_, fun x' hx' => ?_, fun x' hx' y' hy' hne hq s hs => ?_⟩
  · rcases mem_took hx' with hx | ⟨x, hx, _, rfl, _⟩
    · exact h.cl x' hx
    · exact h.cl x hx
  · rcases mem_took hx' with hx | ⟨x, hx, _, rfl, h0, _⟩
    · exact h.nz x' hx
    · intro hm
      rcases List.mem_append.1 hm with hm | hm
      · exact h.nz x hx hm
      · simp at hm; exact h0 hm.symm
  · rcases mem_took hx' with hx | ⟨x, hx, hc, rfl, h0, hall⟩
    · rcases mem_took hy' with hy | ⟨y, hy, hc2, rfl, h02, hall2⟩
      · exact h.apart x' hx y' hy hne hq s hs
      · intro hm
        rcases List.mem_append.1 hm with hm | hm
        · exact h.apart x' hx y hy hne hq s hs hm
        · simp at hm
          subst hm
          exact hall2 x' hx hq hs
    · rcases mem_took hy' with hy | ⟨y, hy, hc2, rfl, h02, hall2⟩
      · rcases List.mem_append.1 hs with hs | hs
        · exact h.apart x hx y' hy hne hq s hs
        · simp at hs
          subst hs
          exact hall y' hy hq.symm
      · exact absurd (hc.trans hc2.symm) hne
theorem WX.settle {l : List One} (h : WX l) (c t : Int) : WX (settleL l c t) := by
  have key : ∀ x' ∈ settleL l c t, ∃ x ∈ l, x'.client = x.client ∧ x'.queue = x.queue ∧ x'.most = x.most ∧ ∀ s ∈ x'.tags, s ∈ x.tags := by
    intro x' hx'
    rcases mem_settle hx' with hx | ⟨x, hx, _, rfl⟩
    · exact ⟨x', hx, rfl, rfl, rfl, fun s hs => hs⟩
    · exact ⟨x, hx, rfl, rfl, rfl, fun s hs => List.mem_of_mem_erase hs⟩
  refine ⟨h.wf.settle c t, fun x' hx' => ?_, fun x' hx' => ?_, fun x' hx' y' hy' hne hq s hs => ?_⟩
  · obtain ⟨x, hx, h1, _, h2, _⟩ := key x' hx'
    rw [h1, h2]; exact h.cl x hx
  · obtain ⟨x, hx, _, _, _, h3⟩ := key x' hx'
    exact fun hm => h.nz x hx (h3 _ hm)
  · obtain ⟨x, hx, h1, h2, _, h3⟩ := key x' hx'
    obtain ⟨y, hy, k1, k2, _, k3⟩ := key y' hy'
    exact fun hm => h.apart x hx y hy (by rw [← h1, ← k1]; exact hne) (by rw [← h2, ← k2]; exact hq) s (h3 s hs) (k3 s hm)
theorem WX.step {l l' : List One} (h : WX l) (hs : Step l l') : WX l' := by
  cases hs with
  | same => exact h
  | drop i =>
    refine h.sub ?_
    have : (l.take i ++ l.drop (i + 1)).Sublist (l.take i ++ l.drop i) := by
      refine List.Sublist.append_left ?_ _
      rw [← List.drop_drop]
      exact List.drop_sublist _ _
    rwa [List.take_append_drop] at this
  | took c t => exact h.took c t
  | settle c t => exact h.settle c t
  | forget q => exact h.sub List.filter_sublist
/-- Who is there was there, and may hold as much. -/
theorem Step.from {l l' : List One} (hs : Step l l') : ∀ x' ∈ l', ∃ x ∈ l, x.client = x'.client ∧ x.most = x'.most := by
  intro x' hx'
  cases hs with
  | same => exact ⟨x', hx', rfl, rfl⟩
  | drop i =>
    rcases List.mem_append.1 hx' with h | h
    · exact ⟨x', List.mem_of_mem_take h, rfl, rfl⟩
    · exact ⟨x', List.mem_of_mem_drop h, rfl, rfl⟩
  | took c t =>
    rcases mem_took hx' with hx | ⟨x, hx, _, rfl, _⟩
    · exact ⟨x', hx, rfl, rfl⟩
    · exact ⟨x, hx, rfl, rfl⟩
  | settle c t =>
    rcases mem_settle hx' with hx | ⟨x, hx, _, rfl⟩
    · exact ⟨x', hx, rfl, rfl⟩
    · exact ⟨x, hx, rfl, rfl⟩
  | forget q => exact ⟨x', (List.mem_filter.1 hx').1, rfl, rfl⟩
end Go.Proofs.Ytmnbnjkbbhjocaa

/- Rows that make makes. It names no program. -/
namespace Go.Proofs.Ytmnbnjkbbhjocaa.St
open Go

section
variable {α : Type} {L : Lay α}
theorem made_cells {z : Array Value} {x0 : α} (hz : z.toList = L.cs x0) (n : Nat) : (madeCells z (n * L.s)).toList = (List.replicate n x0).flatMap L.cs := by
  have hzs : z.size = L.s := by rw [← L.len x0, ← hz, Array.length_toList]
  apply List.ext_getElem
  · rw [Array.length_toList, size_madeCells, L.length, List.length_replicate]
  · intro k h1 h2
    rw [L.length, List.length_replicate] at h2
    have hd : k / L.s < n := (Nat.div_lt_iff_lt_mul L.pos).2 h2
    have hm : k % L.s < L.s := Nat.mod_lt _ L.pos
    have hk : k / L.s * L.s + k % L.s = k := Nat.div_add_mod' k L.s
    have hv : (L.cs x0)[k % L.s]? = some (z[k % L.s]'(by rw [hzs]; exact hm)) := by
      rw [← hz, Array.getElem?_toList, Array.getElem?_eq_getElem]
    have hr : (List.replicate n x0)[k / L.s]'(by simpa using hd) = x0 := List.getElem_replicate ..
    have := L.at (xs := List.replicate n x0) (i := k / L.s) (by simpa using hd) (j := k % L.s) (by rw [hr]; exact hv)
    rw [hk] at this
    have h3 := List.getElem?_eq_some_iff.1 this
    obtain ⟨_, h3⟩ := h3
    rw [h3]
    have h1' : k < (madeCells z (n * L.s)).size := by rwa [Array.length_toList] at h1
    rw [Array.getElem_toList]
    simp only [madeCells, Array.getElem_map, Array.getElem_range]
    have e : k % z.size = k % L.s := by rw [hzs]
    rw [e, getElem!_pos z (k % L.s) (by rw [hzs]; exact hm)]

/-- make([]T, n). -/
theorem row_make {P : Program} {w : World} {t e : TypeId} (ho : laidOk P t e L.s = true) {x0 : α} (h0 : ∀ z, (P.info? e).bind (·.zero) = some z → z.cells.toList = L.cs x0) (kl kc : IntKind) (n : Nat) (hn : n ≤ 1099511627776) :
    ∃ w', (Instr.makeSlice t (.int kl (n : Int)) (.int kc (n : Int))).run P w = .ok (.slice (some ⟨w.heap.size, 0, none⟩) n n) w' ∧ Row L e w' (some ⟨w.heap.size, 0, none⟩) n n (List.replicate n x0) ∧ Mod no w w' := by
  obtain ⟨ht, i, z, hi, hz, hsize, hby, hzs⟩ := laidOk_of ho
  have hb : (i.bytes : Int) * (n : Int) ≤ 281474976710656 := by
    have h1 : i.bytes * n ≤ 128 * 1099511627776 := Nat.mul_le_mul hby hn
    have h2 : ((i.bytes * n : Nat) : Int) ≤ ((128 * 1099511627776 : Nat) : Int) := by exact_mod_cast h1
    rw [Int.natCast_mul] at h2
    omega
  have hr := run_make (P := P) w t e i z ht hi hz kl kc n n (Int.natCast_nonneg n) (Int.le_refl _) hb (by omega)
  simp only [Int.toNat_natCast] at hr
  refine ⟨_, hr, ?_, Mod.alloc _ _⟩
  have hc := made_cells (L := L) (h0 z (by rw [hi]; exact hz)) n
  have := Row.lit L (new_at w (.cells (madeCells z.cells (n * i.size)) e)) (List.replicate n x0) (by rw [hsize]; exact hc) (by simp [maxLen]; omega)
  simpa using this

/-- A cell of an element is written, where its address stands. -/
theorem row_wr {w : World} {e : TypeId} {g l c : Nat} {xs : List α} (h : Row L e w (some ⟨g, 0, none⟩) l c xs) {x : Int} (i : Nat) (hx : x = i) (hi : i < xs.length) {j s : Nat} (hs : L.s = s) (hj : j < L.s) (v : Value) (y : α) (hy : L.cs y = (L.cs xs[i]).set j v) {K : World → Prop}
    (hk : ∀ w', Mod (on g) w w' → Row L e w' (some ⟨g, 0, none⟩) l c (xs.set i y) → K w') :
    (∃ u : Value, w.cell? (Addr.add (Addr.add ⟨g, 0, none⟩ (Int.toNat x * s)) j) = some u) ∧ w.frozen? (Addr.add (Addr.add ⟨g, 0, none⟩ (Int.toNat x * s)) j) = false ∧ atW (w.setCell (Addr.add (Addr.add ⟨g, 0, none⟩ (Int.toNat x * s)) j) v) K := by
  subst hx
  obtain ⟨g', hg', hu, hf, hm, hr⟩ := h.put hi hs hj v y hy
  injection hg' with hg'; injection hg' with hg'; subst hg'
  have e0 : Addr.add (Addr.add (Addr.add ⟨g, 0, none⟩ (i * s)) j) 0 = Addr.add (Addr.add ⟨g, 0, none⟩ (i * s)) j := by rw [add_lit, add_lit, add_lit]; rfl
  rw [e0] at hu hf hm hr
  refine ⟨hu, hf, fun w' e => ?_⟩
  subst e
  exact hk _ hm hr
end
end Go.Proofs.Ytmnbnjkbbhjocaa.St

/- The formulas of functions, printed by a program of mine (gen.py) out of the translation. -/
namespace Go.Proofs.Ytmnbnjkbbhjocaa
open Go Go.Proofs.Ytmnbnjkbbhjocaa.St
set_option maxRecDepth 100000

/-- staith/staithlaw17.ConsumerForgets -/
noncomputable def C7 : Code := (Try.f7.body).getD .skip
def pl7 : Nat → Plan
  | 28 => (.quiet 0 (.quiet 1 (.quiet 2 (.quiet 3 (.quiet 4 (.quiet 5 (.quiet 6 (.quiet 7 (.quiet 8 (.quiet 9 (.quiet 10 (.quiet 11 (.quiet 12 (.quiet 13 (.quiet 14 (.quiet 15 (.eff 16 [] (.quiet 17 (.quiet 18 .done)))))))))))))))))))
  | _ => .done
def ls7 : Nat → List (Nat × LT)
  | 7 => [(35, (.one (.int .i64)))]
  | 16 => [(51, (.one (.int .i64)))]
  | 25 => [(14, (.one (.int .i64))), (71, (.one (.int .i64)))]
  | 28 => [(0, .agg []), (14, (.one (.int .i64)))]
  | _ => []
def W7 (actsa : Option Addr) (actsl : Nat) (actsc : Nat) (queue : ByteArray) (w : World) (R : Value → World → Prop) : Prop :=
  (Ca Try.prog (8) (Array.mk []) (w) (fun v0 => (fun w1 =>
    (∃ p2 : Option Addr, ((v0 = Value.pointer p2) ∧ (atW (World.alloc w1 (Obj.cells (Array.mk [Value.slice none 0 0]) 44 (0, 0))) (fun w3 =>
      (Ca Try.prog (15) (Array.mk [Value.slice actsa actsl actsc]) (w3) (fun v4 => (fun w5 =>
        (∃ b6 : Bool, ((v4 = Value.bool b6) ∧ (ifK (!b6)
          (Ca Try.prog (14) (Array.mk []) (w5) (fun v7 => (fun w8 =>
            (∃ b9 : Bool, ((v7 = Value.bool b9) ∧ (R (Value.bool b9) (w8)))))))
          (ifK (decide ((↑(ByteArray.size queue) : Int) > 500))
            (Ca Try.prog (14) (Array.mk []) (w5) (fun v10 => (fun w11 =>
              (∃ b12 : Bool, ((v10 = Value.bool b12) ∧ (R (Value.bool b12) (w11)))))))
            (∃ z13 : Int → World → Prop, (∃ z14 : Int → World → Nat, ((z13 (0) (w5)) ∧ (∀ (_ : Nat → Value), (∀ (x16 : Int), (∀ (w17 : World), ((z13 (x16) (w17)) → (ifK (decide (x16 < (↑actsl : Int)))
              (∃ a18 : Addr, ((actsa = some a18) ∧ (((0 : Int) ≤ x16) ∧ (((x16 : Int) < (↑actsl : Int)) ∧ (∃ x19 : Int, ((World.cell? w17 (Addr.add (Addr.add a18 (Int.toNat x16 * 5)) 0) = some (Value.int IntKind.i64 x19)) ∧ (∃ x20 : Int, ((World.cell? w17 (Addr.add (Addr.add a18 (Int.toNat x16 * 5)) 1) = some (Value.int IntKind.i64 x20)) ∧ (∃ s21 : ByteArray, ((World.cell? w17 (Addr.add (Addr.add a18 (Int.toNat x16 * 5)) 2) = some (Value.string s21)) ∧ (∃ x22 : Int, ((World.cell? w17 (Addr.add (Addr.add a18 (Int.toNat x16 * 5)) 3) = some (Value.int IntKind.i64 x22)) ∧ (∃ x23 : Int, ((World.cell? w17 (Addr.add (Addr.add a18 (Int.toNat x16 * 5)) 4) = some (Value.int IntKind.u64 x23)) ∧ (atW (World.alloc w17 (Obj.cells (Array.mk [Value.int IntKind.i64 0, Value.int IntKind.i64 0, Value.string (ByteArray.mk #[]), Value.int IntKind.i64 0, Value.int IntKind.u64 0]) 47 (0, 0))) (fun w24 =>
                ((∃ v25 : Value, (World.cell? w24 (Addr.add (Addr.mk (Array.size (World.heap w17)) 0 none) 0) = some v25)) ∧ ((World.frozen? w24 (Addr.add (Addr.mk (Array.size (World.heap w17)) 0 none) 0) = false) ∧ (atW (World.setCell w24 (Addr.add (Addr.mk (Array.size (World.heap w17)) 0 none) 0) (Value.int IntKind.i64 x19)) (fun w26 =>
                  ((∃ v27 : Value, (World.cell? w26 (Addr.add (Addr.mk (Array.size (World.heap w17)) 0 none) 1) = some v27)) ∧ ((World.frozen? w26 (Addr.add (Addr.mk (Array.size (World.heap w17)) 0 none) 1) = false) ∧ (atW (World.setCell w26 (Addr.add (Addr.mk (Array.size (World.heap w17)) 0 none) 1) (Value.int IntKind.i64 x20)) (fun w28 =>
                    ((∃ v29 : Value, (World.cell? w28 (Addr.add (Addr.mk (Array.size (World.heap w17)) 0 none) 2) = some v29)) ∧ ((World.frozen? w28 (Addr.add (Addr.mk (Array.size (World.heap w17)) 0 none) 2) = false) ∧ (atW (World.setCell w28 (Addr.add (Addr.mk (Array.size (World.heap w17)) 0 none) 2) (Value.string s21)) (fun w30 =>
                      ((∃ v31 : Value, (World.cell? w30 (Addr.add (Addr.mk (Array.size (World.heap w17)) 0 none) 3) = some v31)) ∧ ((World.frozen? w30 (Addr.add (Addr.mk (Array.size (World.heap w17)) 0 none) 3) = false) ∧ (atW (World.setCell w30 (Addr.add (Addr.mk (Array.size (World.heap w17)) 0 none) 3) (Value.int IntKind.i64 x22)) (fun w32 =>
                        ((∃ v33 : Value, (World.cell? w32 (Addr.add (Addr.mk (Array.size (World.heap w17)) 0 none) 4) = some v33)) ∧ ((World.frozen? w32 (Addr.add (Addr.mk (Array.size (World.heap w17)) 0 none) 4) = false) ∧ (atW (World.setCell w32 (Addr.add (Addr.mk (Array.size (World.heap w17)) 0 none) 4) (Value.int IntKind.u64 x23)) (fun w34 =>
                          (∃ x35 : Int, ((World.cell? w34 (Addr.add (Addr.mk (Array.size (World.heap w17)) 0 none) 0) = some (Value.int IntKind.i64 x35)) ∧ (∃ x36 : Int, ((World.cell? w34 (Addr.add (Addr.mk (Array.size (World.heap w17)) 0 none) 1) = some (Value.int IntKind.i64 x36)) ∧ (∃ s37 : ByteArray, ((World.cell? w34 (Addr.add (Addr.mk (Array.size (World.heap w17)) 0 none) 2) = some (Value.string s37)) ∧ (∃ x38 : Int, ((World.cell? w34 (Addr.add (Addr.mk (Array.size (World.heap w17)) 0 none) 3) = some (Value.int IntKind.i64 x38)) ∧ (∃ x39 : Int, ((World.cell? w34 (Addr.add (Addr.mk (Array.size (World.heap w17)) 0 none) 4) = some (Value.int IntKind.u64 x39)) ∧ (Ca Try.prog (16) (Array.mk [Value.pointer p2, Value.pointer (some (Addr.mk (Array.size (World.heap w1)) 0 none)), Value.agg (Array.mk (List.reverse [Value.int IntKind.u64 x39, Value.int IntKind.i64 x38, Value.string s37, Value.int IntKind.i64 x36, Value.int IntKind.i64 x35]))]) (w34) (fun v40 => (fun w41 =>
                            (∃ b42 : Bool, ((v40 = Value.bool b42) ∧ ((z13 (IntKind.wrap IntKind.i64 (x16 + 1)) (w41)) ∧ (z14 (IntKind.wrap IntKind.i64 (x16 + 1)) w41 < z14 x16 w17)))))))))))))))))))))))))))))))))))))))))))))))))))))
              (Ca Try.prog (13) (Array.mk [Value.pointer p2]) (w17) (fun v43 => (fun w44 =>
                (∃ p45 : Option Addr, (∃ n46 : Nat, (∃ n47 : Nat, ((v43 = Value.slice p45 n46 n47) ∧ (∃ v48 : Value, (∃ w49 : World, ((Sem.run Try.prog (Instr.makeSlice 65 (Value.int IntKind.i64 (↑n46 : Int)) (Value.int IntKind.i64 (↑n46 : Int))) w44 = Result.ok v48 w49) ∧ (∃ p50 : Option Addr, (∃ n51 : Nat, (∃ n52 : Nat, ((v48 = Value.slice p50 n51 n52) ∧ (∃ z53 : Int → World → Prop, (∃ z54 : Int → World → Nat, ((z53 (0) (w49)) ∧ (∀ (_ : Nat → Value), (∀ (x56 : Int), (∀ (w57 : World), ((z53 (x56) (w57)) → (ifK (decide (x56 < (↑n46 : Int)))
                  (∃ a58 : Addr, ((p45 = some a58) ∧ (((0 : Int) ≤ x56) ∧ (((x56 : Int) < (↑n46 : Int)) ∧ (∃ x59 : Int, ((World.cell? w57 (Addr.add a58 (Int.toNat x56 * 1)) = some (Value.int IntKind.i64 x59)) ∧ (Ca Try.prog (19) (Array.mk [Value.pointer p2, Value.int IntKind.i64 x59]) (w57) (fun v60 => (fun w61 =>
                    (∃ s62 : ByteArray, (∃ p63 : Option Addr, (∃ n64 : Nat, (∃ n65 : Nat, (∃ b66 : Bool, ((v60 = Value.tuple (Array.mk (List.reverse [Value.bool b66, Value.agg (Array.mk (List.reverse [Value.slice p63 n64 n65, Value.string s62]))]))) ∧ (∃ a67 : Addr, ((p50 = some a67) ∧ (((0 : Int) ≤ x56) ∧ (((x56 : Int) < (↑n51 : Int)) ∧ ((∃ v68 : Value, (World.cell? w61 (Addr.add (Addr.add a67 (Int.toNat x56 * 2)) 0) = some v68)) ∧ ((World.frozen? w61 (Addr.add (Addr.add a67 (Int.toNat x56 * 2)) 0) = false) ∧ (atW (World.setCell w61 (Addr.add (Addr.add a67 (Int.toNat x56 * 2)) 0) (Value.string s62)) (fun w69 =>
                      ((∃ v70 : Value, (World.cell? w69 (Addr.add (Addr.add a67 (Int.toNat x56 * 2)) 1) = some v70)) ∧ ((World.frozen? w69 (Addr.add (Addr.add a67 (Int.toNat x56 * 2)) 1) = false) ∧ (atW (World.setCell w69 (Addr.add (Addr.add a67 (Int.toNat x56 * 2)) 1) (Value.slice p63 n64 n65)) (fun w71 =>
                        ((z53 (IntKind.wrap IntKind.i64 (x56 + 1)) (w71)) ∧ (z54 (IntKind.wrap IntKind.i64 (x56 + 1)) w71 < z54 x56 w57)))))))))))))))))))))))))))))
                  (Ca Try.prog (23) (Array.mk [Value.pointer p2, Value.string queue]) (w57) (fun v72 => (fun w73 =>
                    (∃ p74 : Option Addr, (∃ n75 : Nat, (∃ n76 : Nat, ((v72 = Value.slice p74 n75 n76) ∧ (∃ z77 : Int → Int → World → Prop, (∃ z78 : Int → Int → World → Nat, ((z77 (0) (0) (w73)) ∧ (∀ (_ : Nat → Value), (∀ (x80 : Int), (∀ (x81 : Int), (∀ (w82 : World), ((z77 (x80) (x81) (w82)) → (ifK (decide (x81 < (↑n46 : Int)))
                      (∃ z83 : Int → World → Prop, ((∃ a84 : Addr, ((p45 = some a84) ∧ (((0 : Int) ≤ x81) ∧ (((x81 : Int) < (↑n46 : Int)) ∧ (∃ x85 : Int, ((World.cell? w82 (Addr.add a84 (Int.toNat x81 * 1)) = some (Value.int IntKind.i64 x85)) ∧ (Ca Try.prog (19) (Array.mk [Value.pointer p2, Value.int IntKind.i64 x85]) (w82) (fun v86 => (fun w87 =>
                        (∃ s88 : ByteArray, (∃ p89 : Option Addr, (∃ n90 : Nat, (∃ n91 : Nat, (∃ b92 : Bool, ((v86 = Value.tuple (Array.mk (List.reverse [Value.bool b92, Value.agg (Array.mk (List.reverse [Value.slice p89 n90 n91, Value.string s88]))]))) ∧ (atW (World.alloc w87 (Obj.cells (Array.mk [Value.string (ByteArray.mk #[]), Value.slice none 0 0]) 33 (0, 0))) (fun w93 =>
                          ((∃ v94 : Value, (World.cell? w93 (Addr.add (Addr.mk (Array.size (World.heap w87)) 0 none) 0) = some v94)) ∧ ((World.frozen? w93 (Addr.add (Addr.mk (Array.size (World.heap w87)) 0 none) 0) = false) ∧ (atW (World.setCell w93 (Addr.add (Addr.mk (Array.size (World.heap w87)) 0 none) 0) (Value.string s88)) (fun w95 =>
                            ((∃ v96 : Value, (World.cell? w95 (Addr.add (Addr.mk (Array.size (World.heap w87)) 0 none) 1) = some v96)) ∧ ((World.frozen? w95 (Addr.add (Addr.mk (Array.size (World.heap w87)) 0 none) 1) = false) ∧ (atW (World.setCell w95 (Addr.add (Addr.mk (Array.size (World.heap w87)) 0 none) 1) (Value.slice p89 n90 n91)) (fun w97 =>
                              (∃ a98 : Addr, ((p50 = some a98) ∧ (((0 : Int) ≤ x81) ∧ (((x81 : Int) < (↑n51 : Int)) ∧ (∃ s99 : ByteArray, ((World.cell? w97 (Addr.add (Addr.add a98 (Int.toNat x81 * 2)) 0) = some (Value.string s99)) ∧ (ifK (b92 == (ByteArray.toList s99 == ByteArray.toList queue))
                                (R (Value.bool false) (w97))
                                (ifK (!b92)
                                  (ifK (decide (x80 ≥ (↑n75 : Int)))
                                    (R (Value.bool false) (w97))
                                    (∃ a100 : Addr, ((p74 = some a100) ∧ (((0 : Int) ≤ x80) ∧ (((x80 : Int) < (↑n75 : Int)) ∧ (∃ x101 : Int, ((World.cell? w97 (Addr.add a100 (Int.toNat x80 * 1)) = some (Value.int IntKind.i64 x101)) ∧ (ifK (x101 != x85)
                                      (R (Value.bool false) (w97))
                                      (z83 (IntKind.wrap IntKind.i64 (x80 + 1)) (w97))))))))))
                                  (atW (World.drew w97) (fun w102 =>
                                    (∃ s103 : ByteArray, ((World.cell? w102 (Addr.add (Addr.mk (Array.size (World.heap w87)) 0 none) 0) = some (Value.string s103)) ∧ (∃ a104 : Addr, ((p50 = some a104) ∧ (((0 : Int) ≤ x81) ∧ (((x81 : Int) < (↑n51 : Int)) ∧ (∃ s105 : ByteArray, ((World.cell? w102 (Addr.add (Addr.add a104 (Int.toNat x81 * 2)) 0) = some (Value.string s105)) ∧ (ifK (!ByteArray.toList s103 == ByteArray.toList s105)
                                      (R (Value.bool false) (w102))
                                      (∃ p106 : Option Addr, (∃ n107 : Nat, (∃ n108 : Nat, ((World.cell? w102 (Addr.add (Addr.mk (Array.size (World.heap w87)) 0 none) 1) = some (Value.slice p106 n107 n108)) ∧ (∃ a109 : Addr, ((p50 = some a109) ∧ (((0 : Int) ≤ x81) ∧ (((x81 : Int) < (↑n51 : Int)) ∧ (∃ p110 : Option Addr, (∃ n111 : Nat, (∃ n112 : Nat, ((World.cell? w102 (Addr.add (Addr.add a109 (Int.toNat x81 * 2)) 1) = some (Value.slice p110 n111 n112)) ∧ (Ca Try.prog (21) (Array.mk [Value.slice p106 n107 n108, Value.slice p110 n111 n112]) (w102) (fun v113 => (fun w114 =>
                                        (∃ b115 : Bool, ((v113 = Value.bool b115) ∧ (ifK (!b115)
                                          (R (Value.bool false) (w114))
                                          (z83 (x80) (w114)))))))))))))))))))))))))))))))))))))))))))))))))))))))))))))))) ∧ (∀ (_ : Nat → Value), (∀ (x117 : Int), (∀ (w118 : World), ((z83 (x117) (w118)) → ((z77 (x117) (IntKind.wrap IntKind.i64 (x81 + 1)) (w118)) ∧ (z78 x117 (IntKind.wrap IntKind.i64 (x81 + 1)) w118 < z78 x80 x81 w82))))))))
                      (Ca Try.prog (10) (Array.mk [Value.pointer p2, Value.string queue]) (w82) (fun v119 => (fun w120 =>
                        (∃ x121 : Int, (∃ b122 : Bool, ((v119 = Value.tuple (Array.mk (List.reverse [Value.bool b122, Value.int IntKind.i64 x121]))) ∧ (ifK (x80 == (↑n75 : Int))
                          (ifK (!b122)
                            (Ca Try.prog (23) (Array.mk [Value.pointer p2, Value.string queue]) (w120) (fun v123 => (fun w124 =>
                              (∃ p125 : Option Addr, (∃ n126 : Nat, (∃ n127 : Nat, ((v123 = Value.slice p125 n126 n127) ∧ (ifK ((↑n126 : Int) == 0)
                                (Ca Try.prog (14) (Array.mk []) (w124) (fun v128 => (fun w129 =>
                                  (∃ b130 : Bool, ((v128 = Value.bool b130) ∧ (R (Value.bool b130) (w129)))))))
                                (R (Value.bool false) (w124))))))))))
                            (R (Value.bool false) (w120)))
                          (R (Value.bool false) (w120)))))))))))))))))))))))))))))))))))))))))))))))))))))))))))))))))))))
theorem ca7 (actsa : Option Addr) (actsl : Nat) (actsc : Nat) (queue : ByteArray) (w : World) (R : Value → World → Prop) (h : W7 actsa actsl actsc queue w R) : Ca Try.prog 7 ⟨[(.slice actsa actsl actsc), (.string queue)]⟩ w R := by
  have h1 : Try.prog.follows .mixedOrders = true := by kernel_rfl
  have h2 : Try.f7.body = some C7 := by kernel_rfl
  have h3 : (Try.f7.name == "runtime.NumGoroutine") = false := by kernel_rfl
  have h6 : Try.f7.results.toList = [.tmp 4] := by kernel_rfl
  have h4 : Nat.ble 2 151 = true := by kernel_rfl
  have h5 : okCode 151 pl7 ls7 C7 0 = true := by kernel_rfl
  have e : W7 actsa actsl actsc queue w R = wpC none Try.prog 151 pl7 ls7 C7 0 (endP Try.prog [.tmp 4] R) (fr0 [(.slice actsa actsl actsc), (.string queue)]) [] w := by kernel_rfl
  exact ca_of' (P := Try.prog) (g := 7) (fn := Try.f7) (c := C7) (m := 151) (rs := [.tmp 4]) (args := [(.slice actsa actsl actsc), (.string queue)]) (pl := pl7) (ls := ls7) (w := w) (R := R) h1 Try.func7 h2 Try.ntmps7 h6 h3 h4 h5 (Eq.mp e h)
end Go.Proofs.Ytmnbnjkbbhjocaa

/- The law ConsumerForgets, walked: who forgets a queue drops just those that want it. -/
namespace Go.Proofs.Ytmnbnjkbbhjocaa
open Go Go.Proofs.Ytmnbnjkbbhjocaa.St

/-- What a client held, as it lies. -/
structure HeldC where
  queue : ByteArray
  ta : Option Addr
  tl : Nat
  tc : Nat
def heldL : Lay HeldC where
  cs x := [.string x.queue, .slice x.ta x.tl x.tc]
  s := 2
  pos := by decide
  len _ := rfl
  one x v hv := by simp at hv; rcases hv with rfl | rfl <;> rfl
theorem rowHeld : laidOk Try.prog 65 33 heldL.s = true := by kernel_rfl
theorem zeroHeld : (Try.prog.info? 33).bind (·.zero) = some (.agg #[.string (ByteArray.mk #[]), .slice none 0 0]) := by kernel_rfl

/-- h tells what the client n of the line l holds; its row is new since B. -/
structure HeldAt (l : List One) (B : Nat) (w : World) (h : HeldC) (n : Int) : Prop where
  ex : ∃ x ∈ l, x.client = n ∧ h.queue = x.queue ∧ ∃ zs, Ints .u64 27 w h.ta h.tl h.tc zs ∧ zs.Perm x.tags ∧ Srt zs 0 h.tl
  new : ∀ k, rowB h.ta k → B ≤ k
theorem HeldAt.mod {l : List One} {B : Nat} {S : Nat → Prop} {w w' : World} {h : HeldC} {n : Int} (hh : HeldAt l B w h n) (hm : Mod S w w') (hs : ∀ k, B ≤ k → k < w.heap.size → ¬ S k) : HeldAt l B w' h n := by
  obtain ⟨⟨x, hx, h1, h2, zs, h3, h4⟩, hn⟩ := hh
  exact ⟨⟨x, hx, h1, h2, zs, h3.mod hm fun k hk => hs k (hn k hk) (h3.blk k hk), h4⟩, hn⟩

theorem find_in {l : List One} (hU : (l.map (·.client)).Nodup) {x : One} (hx : x ∈ l) {n : Int} (hn : x.client = n) : l.find? (·.client == n) = some x := by
  cases hf : l.find? (·.client == n) with
  | none =>
    have := List.find?_eq_none.1 hf x hx
    simp [hn] at this
  | some y =>
    have h1 := List.mem_of_find?_eq_some hf
    have h2 := List.find?_some hf
    rw [uniq hU h1 hx (by rw [hn]; simpa using h2)]

theorem fout_append (l : List One) (q : ByteArray) (s t : List Int) : fout l q (s ++ t) = fout l q s ++ fout l q t := List.filter_append ..
theorem fout_one {l : List One} (hU : (l.map (·.client)).Nodup) (q : ByteArray) {x : One} (hx : x ∈ l) {n : Int} (hn : x.client = n) : fout l q [n] = if qIs q x = true then [n] else [] := by
  have : (l.any fun x => x.client == n && qIs q x) = qIs q x := by
    rw [Bool.eq_iff_iff, List.any_eq_true]
    constructor
    · rintro ⟨y, hy, hyn⟩
      simp only [Bool.and_eq_true, beq_iff_eq] at hyn
      rw [← uniq hU hy hx (by rw [hyn.1, hn])]
      exact hyn.2
    · intro h
      exact ⟨x, hx, by simp [hn, h]⟩
  rw [fout, List.filter_cons, this]
  cases qIs q x <;> rfl
theorem fout_none {l : List One} {q : ByteArray} (h : ∀ x ∈ l, qIs q x = false) (s : List Int) : fout l q s = [] := by
  rw [fout, List.filter_eq_nil_iff]
  intro n _
  have : (l.any fun x => x.client == n && qIs q x) = false := by
    rw [List.any_eq_false]
    intro x hx
    rw [h x hx, Bool.and_false]
    decide
  rw [this]
  decide

theorem forg_ok (a : Option Addr) (l c : Nat) (acs : List ActC) (queue : ByteArray) (w : World) (hr : ArgRow actL w a l c acs) (R : Value → World → Prop) (h : ∀ w', Mod no w w' → R (.bool true) w') :
    Ca Try.prog 7 #[.slice a l c, .string queue] w R := by
  have hal := hr.len
  have hlc := hr.lc
  have hcm := hr.cm
  refine ca7 a l c queue w R ?_
  refine new_dk w _ fun w1 m1 hd1 => ⟨_, rfl, ?_⟩
  intro w3 e3
  have m3 : Mod no w1 w3 := by subst e3; exact Mod.alloc _ _
  have b3 : w3.heap[w1.heap.size]? = some (.cells #[.slice none 0 0] 44 (0, 0)) := by subst e3; exact new_at _ _
  clear e3
  have t3 := two_new m1 hd1 m3 b3
  refine light_ok a l c acs w3 (hr.no t3.mod) _ fun w5 b m5 => ⟨b, rfl, ?_⟩
  have live : ∀ w', Mod no w w' → Ca Try.prog 14 #[] w' (fun v w'' => ∃ b : Bool, v = .bool b ∧ R (.bool b) w'') := fun w' m' => lives_ok w' _ fun w'' m'' => ⟨true, rfl, h w'' (m'.trans m'')⟩
  have t5 := t3.no m5
  refine ifK_not (fun _ => live w5 t5.mod) (fun _ => ifK_of (fun _ => live w5 t5.mod) (fun _ => ?_))
  refine ⟨fun x w' => ∃ (i : Nat) (F G : Nat → Prop) (ll rr : List One), x = i ∧ i ≤ l ∧ Two w no w' w.heap.size w1.heap.size F G ll rr ∧ Sync ll rr ∧ WF ll, fun x _ => ((l : Int) - x).toNat,
    ⟨0, _, _, [], [], rfl, Nat.zero_le _, t5, AllAt.nil, WF.nil⟩, ?_⟩
  clear t3 t5 m5 b3 m3 hd1
  rintro _ _ w6 ⟨i, F, G, ll, rr, rfl, hi, t6, hs, hw⟩
  refine ifK_dec (fun hlt => ?_) (fun _ => ?_)
  · have e1 : IntKind.i64.wrap ((i : Int) + 1) = ((i + 1 : Nat) : Int) := by rw [wrap64 (by omega) (by omega)]; rfl
    rw [e1]
    clear e1
    refine copyAct (hr.no t6.mod) i rfl (by omega) fun w7 b7 m7 => ?_
    have hi' : i < acs.length := by omega
    refine ⟨acs[i].kind, by rw [cl1 b7]; rfl, acs[i].client, by rw [cl1 b7]; rfl, acs[i].queue, by rw [cl1 b7]; rfl, acs[i].n, by rw [cl1 b7]; rfl, acs[i].tag, by rw [cl1 b7]; rfl, ?_⟩
    refine act_ok w no _ _ F G ll rr _ _ _ _ _ w7 (t6.no m7) hs hw _ fun w8 F8 G8 l8 r8 t8 hs8 hw8 => ⟨true, rfl, ?_⟩
    exact ⟨⟨i + 1, F8, G8, l8, r8, rfl, by omega, t8, hs8, hw8⟩, by simp only; omega⟩
  -- the desk, as it is now
  have hd6 := t6.dk
  have hfb : ∀ k, F k → w.heap.size ≤ k ∧ k < w6.heap.size := fun k hk => ⟨(t6.fb k hk).1.elim (fun h => h.elim) id, (t6.fb k hk).2.1⟩
  have m6 := t6.mod
  clear t6 hs
  have hl32 := hw.len
  have hU := hw.uniq
  have hwt := hw.tagsLt
  have hwt' : ∀ x ∈ ll, x.tags.length < 1099511627776 := fun x hx => by have := hwt x hx; omega
  refine clients_ok _ F ll w6 hd6 (by omega) _ fun w7 p n c' ys hy hyp hys m7 hyn => ⟨_, _, _, rfl, ?_⟩
  have hyl := hy.len.1
  have hyr := hyp.length_eq
  rw [List.length_map] at hyr
  have hn32 : n ≤ 32 := by omega
  obtain ⟨w8, hrun, hrow8, m8⟩ := row_make (P := Try.prog) (w := w7) (L := heldL) rowHeld (x0 := ⟨ByteArray.mk #[], none, 0, 0⟩) (fun z hz => by rw [zeroHeld] at hz; cases hz; rfl) .i64 .i64 n (by omega)
  refine ⟨_, w8, hrun, _, _, _, rfl, ?_⟩
  have hdk8 := (hd6.no m7).no m8
  have s7 := m7.size
  have s8 := m8.size
  have hB : w7.heap.size < w8.heap.size := hrow8.lt _ (by simp [rowB])
  generalize hBe : w7.heap.size = B at hrow8 hB
  -- what each holds
  refine ⟨fun x w' => ∃ (i : Nat) (hh : List HeldC), x = i ∧ i ≤ n ∧ Mod (on B) w8 w' ∧ Row heldL 33 w' (some ⟨B, 0, none⟩) n n hh ∧ ∀ (k : Nat) (h1 : k < hh.length) (h2 : k < ys.length), k < i → HeldAt ll w8.heap.size w' hh[k] ys[k], fun x _ => ((n : Int) - x).toNat,
    ⟨0, _, rfl, Nat.zero_le _, Mod.refl _ _, hrow8, fun k _ _ hk => by omega⟩, ?_⟩
  rintro _ _ w9 ⟨i, hh, rfl, hi, m9, hrow9, hall⟩
  have keep : ∀ {w'}, Mod (on B) w8 w' → Dk w' w.heap.size F ll := fun hm => hdk8.mod hm fun k hk hS => by cases hS; have := (hfb _ hk).2; omega
  have ykeep : ∀ {w'}, Mod (on B) w8 w' → Ints .i64 3 w' p n c' ys := fun hm => (hy.no m8).mod hm fun k hk hS => by cases hS; have := hy.blk _ hk; omega
  have hhl := hrow9.len.1
  have h1' : ∀ {i : Nat}, i < n → IntKind.i64.wrap ((i : Int) + 1) = ((i + 1 : Nat) : Int) := fun h => wSucc (by omega)
  have hxs : ∀ {i : Nat} (hiy : i < ys.length), ∃ x ∈ ll, x.client = ys[i] := fun hiy => by
    obtain ⟨x, hx, he⟩ := List.mem_map.1 (hyp.mem_iff.1 (List.getElem_mem hiy))
    exact ⟨x, hx, he⟩
  refine ifK_dec (fun hlt => ?_) (fun hge => ?_)
  · have hiy : i < ys.length := by omega
    rw [h1' (by omega)]
    refine (ykeep m9).rd i rfl (by omega) ?_
    rw [at0_eq hiy]
    obtain ⟨x, hx, hxc⟩ := hxs hiy
    refine hold_ok _ F ll _ w9 (keep m9) hwt' _ (fun hn => by rw [find_in hU hx hxc] at hn; cases hn) (fun y hfy w10 ra rl rc zs m10 hra hzp hzs hzn => ?_)
    have hyx : y = x := by rw [find_in hU hx hxc] at hfy; exact (Option.some.inj hfy).symm
    subst hyx
    refine ⟨_, _, _, _, _, rfl, ⟨B, 0, none⟩, rfl, by omega, hlt, ?_⟩
    have s9 := m9.size
    refine row_wr (hrow9.no m10) i rfl (by omega) rfl (by decide) (.string y.queue) { hh[i] with queue := y.queue } rfl fun w11 m11 hrow11 => ?_
    refine row_wr hrow11 i rfl (by simp; omega) rfl (by decide) (.slice ra rl rc) ⟨y.queue, ra, rl, rc⟩ (by simp [heldL]) fun w12 m12 hrow12 => ?_
    have m12' := m11.trans m12
    have m92 : Mod (on B) w9 w12 := m10.no_trans m12'
    refine ⟨⟨i + 1, _, rfl, by omega, m9.trans m92, hrow12, fun k h1 h2 hk => ?_⟩, by simp only; omega⟩
    by_cases e : k = i
    · subst e
      rw [List.getElem_set_self]
      exact ⟨⟨y, hx, hxc, rfl, zs, hra.mod m12' fun k hk hS => by cases hS; have := hzn _ hk; omega, hzp, hzs⟩, fun k hk => by have := hzn k hk; omega⟩
    · simp only [List.length_set] at h1
      rw [List.getElem_set_ne (fun h => e h.symm), List.getElem_set_ne (fun h => e h.symm)]
      exact (hall k h1 h2 (by omega)).mod m92 fun k h1 _ hS => by cases hS; omega
  -- the queue is forgotten
  have hin : i = n := by omega
  subst hin
  refine forget_ok _ F ll queue w9 (keep m9) hwt' (by omega) hU (fun k hk => by have := (hfb k hk).2; have := m9.size; omega) _ fun w10 p2 n2 c2 ys2 hyp2 hys2 hout hd10 m10 hn10 => ⟨_, _, _, rfl, ?_⟩
  have hyy : ys2 = ys := srt_eq hys2 (by rw [hyl]; exact hys) (hyp2.trans hyp.symm)
  subst hyy
  have s9 := m9.size
  have hFB : ∀ k, w8.heap.size ≤ k → ¬ F k := fun k h1 h2 => by have := (hfb k h2).2; omega
  have hrow10 : Row heldL 33 w10 (some ⟨B, 0, none⟩) i i hh := hrow9.mod m10 fun k hk hF => by simp [rowB] at hk; have := (hfb k hF).2; omega
  have hall10 : ∀ (k : Nat) (h1 : k < hh.length) (h2 : k < ys2.length), HeldAt ll w8.heap.size w10 hh[k] ys2[k] := fun k h1 h2 => (hall k h1 h2 (by omega)).mod m10 fun k h1 _ => hFB k h1
  have hy10 : Ints .i64 3 w10 p i c' ys2 := (ykeep m9).mod m10 fun k hk hF => by have := (hfb k hF).2; have := hyn k hk; omega
  have hm10 : Mod no w w10 := by
    have h1 : Mod (on B) w w9 := ((m6.trans m7).trans m8).no_trans m9
    have h2 : Mod no w w9 := ((m6.trans m7).trans m8).new m9 fun k hk => by cases hk; have := m6.size; omega
    exact h2.new m10 fun k hk => (hfb k hk).1
  clear hall hrow9
  have hoL := hout.len.1
  have hd10' := hd10
  generalize hlp : (ll.filter fun x => !(qIs queue x)) = lp at hd10
  have hlpm : ∀ x, x ∈ lp ↔ x ∈ ll ∧ qIs queue x = false := fun x => by rw [← hlp, List.mem_filter]; simp
  have hlpU : (lp.map (·.client)).Nodup := by rw [← hlp]; exact (List.Sublist.map _ List.filter_sublist).nodup hU
  have hlpt : ∀ x ∈ lp, x.tags.length < 1099511627776 := fun x hx => hwt' x ((hlpm x).1 hx).1
  have hlpl : lp.length ≤ 32 := by rw [← hlp]; exact Nat.le_trans (List.length_filter_le _ _) hl32
  refine ⟨fun k x w' => ∃ j : Nat, x = j ∧ j ≤ i ∧ k = ((fout ll queue (ys2.take j)).length : Int) ∧ Mod no w10 w', fun _ x _ => ((i : Int) - x).toNat, ⟨0, rfl, Nat.zero_le _, rfl, Mod.refl _ _⟩, ?_⟩
  rintro _ _ _ w11 ⟨j, rfl, hj, rfl, m11⟩
  refine ifK_dec (fun hlt => ?_) (fun hge => ?_)
  · have hjy : j < ys2.length := by omega
    rw [h1' (i := j) (by omega)]
    have htk : ys2.take (j + 1) = ys2.take j ++ [ys2[j]] := List.take_succ_eq_append_getElem hjy
    refine ⟨fun k w' => k = ((fout ll queue (ys2.take (j + 1))).length : Int) ∧ Mod no w10 w', ?_, ?_⟩
    · refine (hy10.no m11).rd j rfl (by omega) ?_
      rw [at0_eq hjy]
      obtain ⟨x, hx, hxc⟩ := hxs hjy
      obtain ⟨⟨x', hx', hxc', hxq, zs0, hz0, hzp0, hzs0⟩, hnew0⟩ := hall10 j (by omega) hjy
      have hxx : x' = x := uniq hU hx' hx (by rw [hxc', hxc])
      subst hxx
      have hfo := fout_one hU queue hx hxc
      have hrow11 := hrow10.no m11
      obtain ⟨g, hgB, hg⟩ := hrow11.getS (i := j) (by omega) (s := 2) rfl
      injection hgB with hgB; injection hgB with hgB; subst hgB
      cases hq : qIs queue x' with
      | true =>
        have hnone : lp.find? (·.client == ys2[j]) = none := by
          rw [List.find?_eq_none]
          intro y hy hyc
          have hy' := (hlpm y).1 hy
          have : y = x' := uniq hU hy'.1 hx (by rw [hxc]; simpa using hyc)
          subst this
          rw [hq] at hy'
          cases hy'.2
        refine hold_ok _ F lp _ w11 (hd10.no m11) hlpt _ (fun _ w12 m12 => ?_) (fun y hy => by rw [hnone] at hy; cases hy)
        refine ⟨_, _, _, _, _, rfl, ?_⟩
        intro w13 e13
        have m13 : Mod no w12 w13 := by subst e13; exact Mod.alloc _ _
        have b13 : w13.heap[w12.heap.size]? = some (.cells #[.string (ByteArray.mk #[]), .slice none 0 0] 33 (0, 0)) := by subst e13; exact new_at _ _
        clear e13
        refine fillC_ok (vs := [.string (ByteArray.mk #[]), .slice none 0 0]) b13 rfl fun w14 b14 m14 _ => ?_
        have m14' : Mod no w11 w14 := m12.trans (m13.new m14 fun k hk => by cases hk; exact Nat.le_refl _)
        obtain ⟨g', hgB', hg'⟩ := (hrow11.no m14').getS (i := j) (by omega) (s := 2) rfl
        injection hgB' with hgB'; injection hgB' with hgB'; subst hgB'
        refine ⟨_, rfl, by omega, by omega, _, hg' 0 _ rfl, ?_⟩
        have hqq : (hh[j].queue.toList == queue.toList) = true := by rw [hxq]; exact hq
        rw [hqq]
        refine (ifK_of (fun h => by cases h) (fun _ => ?_) : ifK (false == true) _ _)
        rw [hq, if_pos rfl] at hfo
        have hall : fout ll queue ys2 = fout ll queue (ys2.take j) ++ (ys2[j] :: fout ll queue (ys2.drop (j + 1))) := by
          conv => lhs; rw [← List.take_append_drop j ys2, List.drop_eq_getElem_cons hjy]
          rw [fout_append, show ys2[j] :: ys2.drop (j + 1) = [ys2[j]] ++ ys2.drop (j + 1) from rfl, fout_append, hfo]
          rfl
        have hklt : (fout ll queue (ys2.take j)).length < n2 := by rw [← hoL, hall]; simp
        have hat : at0 (fout ll queue ys2) (fout ll queue (ys2.take j)).length = ys2[j] := by
          rw [at0_eq (by rw [hoL]; exact hklt)]
          simp only [hall]
          rw [List.getElem_append_right (Nat.le_refl _)]
          simp
        refine (ifK_of (fun _ => ?_) (fun h => by cases h) : ifK (!false) _ _)
        refine ifK_dec (fun hge => by omega) (fun _ => ?_)
        refine ((hout.no m11).no m14').rd _ rfl hklt ?_
        rw [hat]
        refine ifK_of (fun h => by simp at h) (fun _ => ?_)
        refine ⟨?_, m11.trans m14'⟩
        have hkn : (fout ll queue (ys2.take (j + 1))).length = (fout ll queue (ys2.take j)).length + 1 := by rw [htk, fout_append, hfo]; simp
        rw [hkn]
        refine wSucc ?_
        have h1 : (fout ll queue (ys2.take j)).length ≤ (ys2.take j).length := List.length_filter_le _ _
        rw [List.length_take] at h1
        omega
      | false =>
        have hin : x' ∈ lp := (hlpm x').2 ⟨hx, hq⟩
        have hsome := find_in hlpU hin hxc
        refine hold_ok _ F lp _ w11 (hd10.no m11) hlpt _ (fun hn => by rw [hsome] at hn; cases hn) (fun y hfy w12 ra rl rc zs m12 hra hzp hzs hzn => ?_)
        have hyx : y = x' := by rw [hsome] at hfy; exact (Option.some.inj hfy).symm
        subst hyx
        refine ⟨_, _, _, _, _, rfl, ?_⟩
        intro w13 e13
        have m13 : Mod no w12 w13 := by subst e13; exact Mod.alloc _ _
        have b13 : w13.heap[w12.heap.size]? = some (.cells #[.string (ByteArray.mk #[]), .slice none 0 0] 33 (0, 0)) := by subst e13; exact new_at _ _
        clear e13
        refine fillC_ok (vs := [.string y.queue, .slice ra rl rc]) b13 rfl fun w14 b14 m14 _ => ?_
        have m14n : Mod no w12 w14 := m13.new m14 fun k hk => by cases hk; exact Nat.le_refl _
        have m14' : Mod no w11 w14 := m12.trans m14n
        obtain ⟨g', hgB', hg'⟩ := (hrow11.no m14').getS (i := j) (by omega) (s := 2) rfl
        injection hgB' with hgB'; injection hgB' with hgB'; subst hgB'
        refine ⟨_, rfl, by omega, by omega, _, hg' 0 _ rfl, ?_⟩
        have hqq : (hh[j].queue.toList == queue.toList) = false := by rw [hxq]; exact hq
        rw [hqq]
        refine (ifK_of (fun h => by cases h) (fun _ => ?_) : ifK (true == false) _ _)
        refine (ifK_of (fun h => by cases h) (fun _ => ?_) : ifK (!true) _ _)
        intro w15 e15
        have m15 : Mod no w14 w15 := by subst e15; exact Mod.drew _
        clear e15
        have m15' := m14'.trans m15
        have b15 := m15.at' b14
        obtain ⟨g', hgB', hg'⟩ := (hrow11.no m15').getS (i := j) (by omega) (s := 2) rfl
        injection hgB' with hgB'; injection hgB' with hgB'; subst hgB'
        refine ⟨_, by rw [cl1 b15]; rfl, _, rfl, by omega, by omega, _, hg' 0 _ rfl, ?_⟩
        rw [hxq]
        refine ifK_of (fun h => by simp at h) (fun _ => ?_)
        refine ⟨ra, rl, rc, by rw [cl1 b15]; rfl, _, rfl, by omega, by omega, _, _, _, hg' 1 _ rfl, ?_⟩
        have hzl := hra.len.1
        have hzl0 := hz0.len.1
        have heq : zs = zs0 := srt_eq (by rw [hzl]; exact hzs) (by rw [hzl0]; exact hzs0) (hzp.trans hzp0.symm)
        refine tags_ok _ _ _ _ _ _ _ _ w15 ((hra.no m14n).no m15) ((hz0.no m11).no m15') (by have := hwt _ hx; have := hzp.length_eq; omega) _ fun w16 m16 => ⟨_, rfl, ?_⟩
        rw [decide_eq_true heq]
        refine (ifK_of (fun h => by cases h) (fun _ => ?_) : ifK (!true) _ _)
        refine ⟨?_, (m11.trans m15').trans m16⟩
        rw [hq, if_neg (by decide)] at hfo
        rw [htk, fout_append, hfo, List.append_nil]
    · rintro _ _ w12 ⟨rfl, m12⟩
      exact ⟨⟨j + 1, rfl, by omega, rfl, m12⟩, by simp only; omega⟩
  · have hji : j = ys2.length := by omega
    rw [hji, List.take_length]
    have hqf : ∀ x ∈ lp, qIs queue x = false := fun x hx => ((hlpm x).1 hx).2
    have hnb : nextB lp queue = false := by
      have : lp.find? (roomO queue) = none := by
        rw [List.find?_eq_none]
        intro x hx
        have := hqf x hx
        rw [qIs] at this
        rw [roomO, this, Bool.false_and]
        decide
      rw [nextB, this]; rfl
    refine next_dk _ F lp queue w11 (hd10.no m11) _ fun w12 m12 => ⟨_, _, rfl, ?_⟩
    rw [hnb]
    refine ifK_eq (fun _ => ?_) (fun hne => absurd (by rw [hoL]) hne)
    refine (ifK_of (fun _ => ?_) (fun h => by cases h) : ifK (!false) _ _)
    have s10 := m10.size
    have s11 := m11.size
    have s12 := m12.size
    refine forget_ok _ F lp queue w12 ((hd10.no m11).no m12) hlpt (by omega) hlpU (fun k hk => by have := (hfb k hk).2; omega) _ fun w13 p3 n3 c3 ys3 _ _ hout3 _ m13 _ => ⟨_, _, _, rfl, ?_⟩
    have hn3 : n3 = 0 := by
      have := hout3.len.1
      rw [fout_none hqf] at this
      simpa using this.symm
    subst hn3
    refine ifK_eq (fun _ => ?_) (fun hne => absurd rfl hne)
    exact live w13 (((hm10.trans m11).trans m12).new m13 fun k hk => (hfb k hk).1)
end Go.Proofs.Ytmnbnjkbbhjocaa

/- The formulas of functions, printed by a program of mine (gen.py) out of the translation. -/
namespace Go.Proofs.Ytmnbnjkbbhjocaa
open Go Go.Proofs.Ytmnbnjkbbhjocaa.St
set_option maxRecDepth 100000

/-- staith/staithlaw17.ConsumerHolds -/
noncomputable def C5 : Code := (Try.f5.body).getD .skip
def pl5 : Nat → Plan
  | 19 => (.quiet 0 (.quiet 1 (.quiet 2 (.quiet 3 (.quiet 4 (.quiet 5 (.quiet 6 (.quiet 7 (.quiet 8 (.quiet 9 (.quiet 10 (.quiet 11 (.quiet 12 (.quiet 13 (.quiet 14 (.quiet 15 (.quiet 16 (.quiet 17 (.quiet 18 (.quiet 19 (.quiet 20 (.quiet 21 (.quiet 22 (.quiet 23 (.quiet 24 (.quiet 25 (.quiet 26 (.quiet 27 (.quiet 28 (.quiet 29 (.quiet 30 (.quiet 31 (.quiet 32 .done)))))))))))))))))))))))))))))))))
  | 42 => (.quiet 0 (.quiet 1 (.quiet 2 (.quiet 3 (.quiet 4 (.quiet 5 (.quiet 6 (.quiet 7 (.quiet 8 (.quiet 9 (.quiet 10 (.quiet 11 (.quiet 12 (.quiet 13 (.quiet 14 (.quiet 15 (.quiet 16 (.quiet 17 (.quiet 18 .done)))))))))))))))))))
  | _ => .done
def ls5 : Nat → List (Nat × LT)
  | 8 => [(35, (.one (.int .i64)))]
  | 11 => [(0, .agg [])]
  | 13 => [(0, .agg [])]
  | 22 => [(83, (.one (.int .i64)))]
  | 28 => [(0, .agg [])]
  | 32 => [(130, (.one (.int .i64)))]
  | 37 => [(0, .agg [])]
  | 41 => [(155, (.one (.int .i64)))]
  | 48 => [(168, (.one (.int .i64)))]
  | _ => []
def W5 (actsa : Option Addr) (actsl : Nat) (actsc : Nat) (w : World) (R : Value → World → Prop) : Prop :=
  (Ca Try.prog (8) (Array.mk []) (w) (fun v0 => (fun w1 =>
    (∃ p2 : Option Addr, ((v0 = Value.pointer p2) ∧ (atW (World.alloc w1 (Obj.cells (Array.mk [Value.slice none 0 0]) 44 (0, 0))) (fun w3 =>
      (Ca Try.prog (15) (Array.mk [Value.slice actsa actsl actsc]) (w3) (fun v4 => (fun w5 =>
        (∃ b6 : Bool, ((v4 = Value.bool b6) ∧ (ifK (!b6)
          (Ca Try.prog (14) (Array.mk []) (w5) (fun v7 => (fun w8 =>
            (∃ b9 : Bool, ((v7 = Value.bool b9) ∧ (R (Value.bool b9) (w8)))))))
          (∃ v10 : Value, (∃ w11 : World, ((Sem.run Try.prog (Instr.makeSlice 36 (Value.int IntKind.i64 1001) (Value.int IntKind.i64 1001)) w5 = Result.ok v10 w11) ∧ (∃ p12 : Option Addr, (∃ n13 : Nat, (∃ n14 : Nat, ((v10 = Value.slice p12 n13 n14) ∧ (∃ z15 : Int → World → Prop, (∃ z16 : Int → World → Nat, ((z15 (0) (w11)) ∧ (∀ (_ : Nat → Value), (∀ (x18 : Int), (∀ (w19 : World), ((z15 (x18) (w19)) → (ifK (decide (x18 < (↑actsl : Int)))
            (∃ z20 : World → Prop, ((∃ a21 : Addr, ((actsa = some a21) ∧ (((0 : Int) ≤ x18) ∧ (((x18 : Int) < (↑actsl : Int)) ∧ (∃ x22 : Int, ((World.cell? w19 (Addr.add (Addr.add a21 (Int.toNat x18 * 5)) 0) = some (Value.int IntKind.i64 x22)) ∧ (∃ x23 : Int, ((World.cell? w19 (Addr.add (Addr.add a21 (Int.toNat x18 * 5)) 1) = some (Value.int IntKind.i64 x23)) ∧ (∃ s24 : ByteArray, ((World.cell? w19 (Addr.add (Addr.add a21 (Int.toNat x18 * 5)) 2) = some (Value.string s24)) ∧ (∃ x25 : Int, ((World.cell? w19 (Addr.add (Addr.add a21 (Int.toNat x18 * 5)) 3) = some (Value.int IntKind.i64 x25)) ∧ (∃ x26 : Int, ((World.cell? w19 (Addr.add (Addr.add a21 (Int.toNat x18 * 5)) 4) = some (Value.int IntKind.u64 x26)) ∧ (atW (World.alloc w19 (Obj.cells (Array.mk [Value.int IntKind.i64 0, Value.int IntKind.i64 0, Value.string (ByteArray.mk #[]), Value.int IntKind.i64 0, Value.int IntKind.u64 0]) 47 (0, 0))) (fun w27 =>
              ((∃ v28 : Value, (World.cell? w27 (Addr.add (Addr.mk (Array.size (World.heap w19)) 0 none) 0) = some v28)) ∧ ((World.frozen? w27 (Addr.add (Addr.mk (Array.size (World.heap w19)) 0 none) 0) = false) ∧ (atW (World.setCell w27 (Addr.add (Addr.mk (Array.size (World.heap w19)) 0 none) 0) (Value.int IntKind.i64 x22)) (fun w29 =>
                ((∃ v30 : Value, (World.cell? w29 (Addr.add (Addr.mk (Array.size (World.heap w19)) 0 none) 1) = some v30)) ∧ ((World.frozen? w29 (Addr.add (Addr.mk (Array.size (World.heap w19)) 0 none) 1) = false) ∧ (atW (World.setCell w29 (Addr.add (Addr.mk (Array.size (World.heap w19)) 0 none) 1) (Value.int IntKind.i64 x23)) (fun w31 =>
                  ((∃ v32 : Value, (World.cell? w31 (Addr.add (Addr.mk (Array.size (World.heap w19)) 0 none) 2) = some v32)) ∧ ((World.frozen? w31 (Addr.add (Addr.mk (Array.size (World.heap w19)) 0 none) 2) = false) ∧ (atW (World.setCell w31 (Addr.add (Addr.mk (Array.size (World.heap w19)) 0 none) 2) (Value.string s24)) (fun w33 =>
                    ((∃ v34 : Value, (World.cell? w33 (Addr.add (Addr.mk (Array.size (World.heap w19)) 0 none) 3) = some v34)) ∧ ((World.frozen? w33 (Addr.add (Addr.mk (Array.size (World.heap w19)) 0 none) 3) = false) ∧ (atW (World.setCell w33 (Addr.add (Addr.mk (Array.size (World.heap w19)) 0 none) 3) (Value.int IntKind.i64 x25)) (fun w35 =>
                      ((∃ v36 : Value, (World.cell? w35 (Addr.add (Addr.mk (Array.size (World.heap w19)) 0 none) 4) = some v36)) ∧ ((World.frozen? w35 (Addr.add (Addr.mk (Array.size (World.heap w19)) 0 none) 4) = false) ∧ (atW (World.setCell w35 (Addr.add (Addr.mk (Array.size (World.heap w19)) 0 none) 4) (Value.int IntKind.u64 x26)) (fun w37 =>
                        (∃ z38 : World → Prop, ((∃ x39 : Int, ((World.cell? w37 (Addr.add (Addr.mk (Array.size (World.heap w19)) 0 none) 0) = some (Value.int IntKind.i64 x39)) ∧ (ifK (x39 == 0)
                          (∃ x40 : Int, ((World.cell? w37 (Addr.add (Addr.mk (Array.size (World.heap w19)) 0 none) 1) = some (Value.int IntKind.i64 x40)) ∧ (∃ s41 : ByteArray, ((World.cell? w37 (Addr.add (Addr.mk (Array.size (World.heap w19)) 0 none) 2) = some (Value.string s41)) ∧ (∃ x42 : Int, ((World.cell? w37 (Addr.add (Addr.mk (Array.size (World.heap w19)) 0 none) 3) = some (Value.int IntKind.i64 x42)) ∧ (Ca Try.prog (9) (Array.mk [Value.pointer p2, Value.int IntKind.i64 x40, Value.string s41, Value.int IntKind.i64 x42]) (w37) (fun v43 => (fun w44 =>
                            (∃ x45 : Int, ((v43 = Value.int IntKind.i64 x45) ∧ (ifK (x45 == 0)
                              (∃ x46 : Int, ((World.cell? w44 (Addr.add (Addr.mk (Array.size (World.heap w19)) 0 none) 1) = some (Value.int IntKind.i64 x46)) ∧ (ifK (decide (x46 < 1))
                                (R (Value.bool false) (w44))
                                (∃ x47 : Int, ((World.cell? w44 (Addr.add (Addr.mk (Array.size (World.heap w19)) 0 none) 1) = some (Value.int IntKind.i64 x47)) ∧ (ifK (decide (x47 > 1000))
                                  (R (Value.bool false) (w44))
                                  (∃ x48 : Int, ((World.cell? w44 (Addr.add (Addr.mk (Array.size (World.heap w19)) 0 none) 3) = some (Value.int IntKind.i64 x48)) ∧ (ifK (decide (x48 < 1))
                                    (R (Value.bool false) (w44))
                                    (∃ x49 : Int, ((World.cell? w44 (Addr.add (Addr.mk (Array.size (World.heap w19)) 0 none) 1) = some (Value.int IntKind.i64 x49)) ∧ (∃ x50 : Int, ((World.cell? w44 (Addr.add (Addr.mk (Array.size (World.heap w19)) 0 none) 3) = some (Value.int IntKind.i64 x50)) ∧ (∃ a51 : Addr, ((p12 = some a51) ∧ (((0 : Int) ≤ x49) ∧ (((x49 : Int) < (↑n13 : Int)) ∧ ((∃ v52 : Value, (World.cell? w44 (Addr.add (Addr.add a51 (Int.toNat x49 * 1)) 0) = some v52)) ∧ ((World.frozen? w44 (Addr.add (Addr.add a51 (Int.toNat x49 * 1)) 0) = false) ∧ (atW (World.setCell w44 (Addr.add (Addr.add a51 (Int.toNat x49 * 1)) 0) (Value.int IntKind.i64 x50)) (fun w53 =>
                                      (z38 (w53)))))))))))))))))))))))
                              (∃ x54 : Int, ((World.cell? w44 (Addr.add (Addr.mk (Array.size (World.heap w19)) 0 none) 0) = some (Value.int IntKind.i64 x54)) ∧ (ifK (x54 != 0)
                                (∃ x55 : Int, ((World.cell? w44 (Addr.add (Addr.mk (Array.size (World.heap w19)) 0 none) 0) = some (Value.int IntKind.i64 x55)) ∧ (∃ x56 : Int, ((World.cell? w44 (Addr.add (Addr.mk (Array.size (World.heap w19)) 0 none) 1) = some (Value.int IntKind.i64 x56)) ∧ (∃ s57 : ByteArray, ((World.cell? w44 (Addr.add (Addr.mk (Array.size (World.heap w19)) 0 none) 2) = some (Value.string s57)) ∧ (∃ x58 : Int, ((World.cell? w44 (Addr.add (Addr.mk (Array.size (World.heap w19)) 0 none) 3) = some (Value.int IntKind.i64 x58)) ∧ (∃ x59 : Int, ((World.cell? w44 (Addr.add (Addr.mk (Array.size (World.heap w19)) 0 none) 4) = some (Value.int IntKind.u64 x59)) ∧ (Ca Try.prog (16) (Array.mk [Value.pointer p2, Value.pointer (some (Addr.mk (Array.size (World.heap w1)) 0 none)), Value.agg (Array.mk (List.reverse [Value.int IntKind.u64 x59, Value.int IntKind.i64 x58, Value.string s57, Value.int IntKind.i64 x56, Value.int IntKind.i64 x55]))]) (w44) (fun v60 => (fun w61 =>
                                  (∃ b62 : Bool, ((v60 = Value.bool b62) ∧ (z38 (w61)))))))))))))))))
                                (z38 (w44)))))))))))))))))
                          (∃ x63 : Int, ((World.cell? w37 (Addr.add (Addr.mk (Array.size (World.heap w19)) 0 none) 0) = some (Value.int IntKind.i64 x63)) ∧ (ifK (x63 != 0)
                            (∃ x64 : Int, ((World.cell? w37 (Addr.add (Addr.mk (Array.size (World.heap w19)) 0 none) 0) = some (Value.int IntKind.i64 x64)) ∧ (∃ x65 : Int, ((World.cell? w37 (Addr.add (Addr.mk (Array.size (World.heap w19)) 0 none) 1) = some (Value.int IntKind.i64 x65)) ∧ (∃ s66 : ByteArray, ((World.cell? w37 (Addr.add (Addr.mk (Array.size (World.heap w19)) 0 none) 2) = some (Value.string s66)) ∧ (∃ x67 : Int, ((World.cell? w37 (Addr.add (Addr.mk (Array.size (World.heap w19)) 0 none) 3) = some (Value.int IntKind.i64 x67)) ∧ (∃ x68 : Int, ((World.cell? w37 (Addr.add (Addr.mk (Array.size (World.heap w19)) 0 none) 4) = some (Value.int IntKind.u64 x68)) ∧ (Ca Try.prog (16) (Array.mk [Value.pointer p2, Value.pointer (some (Addr.mk (Array.size (World.heap w1)) 0 none)), Value.agg (Array.mk (List.reverse [Value.int IntKind.u64 x68, Value.int IntKind.i64 x67, Value.string s66, Value.int IntKind.i64 x65, Value.int IntKind.i64 x64]))]) (w37) (fun v69 => (fun w70 =>
                              (∃ b71 : Bool, ((v69 = Value.bool b71) ∧ (z38 (w70)))))))))))))))))
                            (z38 (w37)))))))) ∧ (∀ (_ : Nat → Value), (∀ (w73 : World), ((z38 (w73)) → (Ca Try.prog (13) (Array.mk [Value.pointer p2]) (w73) (fun v74 => (fun w75 =>
                          (∃ p76 : Option Addr, (∃ n77 : Nat, (∃ n78 : Nat, ((v74 = Value.slice p76 n77 n78) ∧ (∃ z79 : Int → World → Prop, (∃ z80 : Int → World → Nat, ((z79 (0) (w75)) ∧ (∀ (_ : Nat → Value), (∀ (x82 : Int), (∀ (w83 : World), ((z79 (x82) (w83)) → (ifK (decide (x82 < (↑n77 : Int)))
                            (∃ a84 : Addr, ((p76 = some a84) ∧ (((0 : Int) ≤ x82) ∧ (((x82 : Int) < (↑n77 : Int)) ∧ (∃ x85 : Int, ((World.cell? w83 (Addr.add a84 (Int.toNat x82 * 1)) = some (Value.int IntKind.i64 x85)) ∧ (Ca Try.prog (19) (Array.mk [Value.pointer p2, Value.int IntKind.i64 x85]) (w83) (fun v86 => (fun w87 =>
                              (∃ s88 : ByteArray, (∃ p89 : Option Addr, (∃ n90 : Nat, (∃ n91 : Nat, (∃ b92 : Bool, ((v86 = Value.tuple (Array.mk (List.reverse [Value.bool b92, Value.agg (Array.mk (List.reverse [Value.slice p89 n90 n91, Value.string s88]))]))) ∧ (atW (World.alloc w87 (Obj.cells (Array.mk [Value.string (ByteArray.mk #[]), Value.slice none 0 0]) 33 (0, 0))) (fun w93 =>
                                ((∃ v94 : Value, (World.cell? w93 (Addr.add (Addr.mk (Array.size (World.heap w87)) 0 none) 0) = some v94)) ∧ ((World.frozen? w93 (Addr.add (Addr.mk (Array.size (World.heap w87)) 0 none) 0) = false) ∧ (atW (World.setCell w93 (Addr.add (Addr.mk (Array.size (World.heap w87)) 0 none) 0) (Value.string s88)) (fun w95 =>
                                  ((∃ v96 : Value, (World.cell? w95 (Addr.add (Addr.mk (Array.size (World.heap w87)) 0 none) 1) = some v96)) ∧ ((World.frozen? w95 (Addr.add (Addr.mk (Array.size (World.heap w87)) 0 none) 1) = false) ∧ (atW (World.setCell w95 (Addr.add (Addr.mk (Array.size (World.heap w87)) 0 none) 1) (Value.slice p89 n90 n91)) (fun w97 =>
                                    (∃ z98 : World → Prop, ((atW (World.drew w97) (fun w99 =>
                                      (ifK (!b92)
                                        (R (Value.bool false) (w99))
                                        (ifK (decide (x85 < 1))
                                          (R (Value.bool false) (w99))
                                          (ifK (decide (x85 > 1000))
                                            (R (Value.bool false) (w99))
                                            (ifK (decide (x82 > 0))
                                              (∃ a100 : Addr, ((p76 = some a100) ∧ (((0 : Int) ≤ IntKind.wrap IntKind.i64 (x82 - 1)) ∧ (((IntKind.wrap IntKind.i64 (x82 - 1) : Int) < (↑n77 : Int)) ∧ (∃ x101 : Int, ((World.cell? w99 (Addr.add a100 (Int.toNat (IntKind.wrap IntKind.i64 (x82 - 1)) * 1)) = some (Value.int IntKind.i64 x101)) ∧ (ifK (decide (x101 ≥ x85))
                                                (R (Value.bool false) (w99))
                                                (∃ p102 : Option Addr, (∃ n103 : Nat, (∃ n104 : Nat, ((World.cell? w99 (Addr.add (Addr.mk (Array.size (World.heap w87)) 0 none) 1) = some (Value.slice p102 n103 n104)) ∧ (∃ a105 : Addr, ((p12 = some a105) ∧ (((0 : Int) ≤ x85) ∧ (((x85 : Int) < (↑n13 : Int)) ∧ (∃ x106 : Int, ((World.cell? w99 (Addr.add a105 (Int.toNat x85 * 1)) = some (Value.int IntKind.i64 x106)) ∧ (ifK (decide ((↑n103 : Int) > x106))
                                                  (R (Value.bool false) (w99))
                                                  (z98 (w99))))))))))))))))))))
                                              (∃ p107 : Option Addr, (∃ n108 : Nat, (∃ n109 : Nat, ((World.cell? w99 (Addr.add (Addr.mk (Array.size (World.heap w87)) 0 none) 1) = some (Value.slice p107 n108 n109)) ∧ (∃ a110 : Addr, ((p12 = some a110) ∧ (((0 : Int) ≤ x85) ∧ (((x85 : Int) < (↑n13 : Int)) ∧ (∃ x111 : Int, ((World.cell? w99 (Addr.add a110 (Int.toNat x85 * 1)) = some (Value.int IntKind.i64 x111)) ∧ (ifK (decide ((↑n108 : Int) > x111))
                                                (R (Value.bool false) (w99))
                                                (z98 (w99))))))))))))))))))) ∧ (∀ (_ : Nat → Value), (∀ (w113 : World), ((z98 (w113)) → (∃ p114 : Option Addr, (∃ n115 : Nat, (∃ n116 : Nat, ((World.cell? w113 (Addr.add (Addr.mk (Array.size (World.heap w87)) 0 none) 1) = some (Value.slice p114 n115 n116)) ∧ (∃ z117 : Int → World → Prop, (∃ z118 : Int → World → Nat, ((z117 (0) (w113)) ∧ (∀ (_ : Nat → Value), (∀ (x120 : Int), (∀ (w121 : World), ((z117 (x120) (w121)) → (ifK (decide (x120 < (↑n115 : Int)))
                                      (∃ a122 : Addr, ((p114 = some a122) ∧ (((0 : Int) ≤ x120) ∧ (((x120 : Int) < (↑n115 : Int)) ∧ (∃ x123 : Int, ((World.cell? w121 (Addr.add a122 (Int.toNat x120 * 1)) = some (Value.int IntKind.u64 x123)) ∧ (∃ z124 : World → Prop, ((ifK (x123 == 0)
                                        (R (Value.bool false) (w121))
                                        (ifK (decide (x120 > 0))
                                          (∃ p125 : Option Addr, (∃ n126 : Nat, (∃ n127 : Nat, ((World.cell? w121 (Addr.add (Addr.mk (Array.size (World.heap w87)) 0 none) 1) = some (Value.slice p125 n126 n127)) ∧ (∃ a128 : Addr, ((p125 = some a128) ∧ (((0 : Int) ≤ IntKind.wrap IntKind.i64 (x120 - 1)) ∧ (((IntKind.wrap IntKind.i64 (x120 - 1) : Int) < (↑n126 : Int)) ∧ (∃ x129 : Int, ((World.cell? w121 (Addr.add a128 (Int.toNat (IntKind.wrap IntKind.i64 (x120 - 1)) * 1)) = some (Value.int IntKind.u64 x129)) ∧ (ifK (decide (x129 ≥ x123))
                                            (R (Value.bool false) (w121))
                                            (z124 (w121)))))))))))))
                                          (z124 (w121)))) ∧ (∀ (_ : Nat → Value), (∀ (w131 : World), ((z124 (w131)) → (((0 : Int) ≤ 0) ∧ (((0 : Int) ≤ x82) ∧ (((x82 : Int) ≤ (↑n78 : Int)) ∧ (∃ z132 : Int → World → Prop, (∃ z133 : Int → World → Nat, ((z132 (0) (w131)) ∧ (∀ (_ : Nat → Value), (∀ (x135 : Int), (∀ (w136 : World), ((z132 (x135) (w136)) → (ifK (decide (x135 < (↑(Int.toNat x82 - 0) : Int)))
                                        (∃ a137 : Addr, (((if n78 = 0 then p76 else Option.map (fun x => Addr.add x 0) p76) = some a137) ∧ (((0 : Int) ≤ x135) ∧ (((x135 : Int) < (↑(Int.toNat x82 - 0) : Int)) ∧ (∃ x138 : Int, ((World.cell? w136 (Addr.add a137 (Int.toNat x135 * 1)) = some (Value.int IntKind.i64 x138)) ∧ (Ca Try.prog (19) (Array.mk [Value.pointer p2, Value.int IntKind.i64 x138]) (w136) (fun v139 => (fun w140 =>
                                          (∃ s141 : ByteArray, (∃ p142 : Option Addr, (∃ n143 : Nat, (∃ n144 : Nat, (∃ b145 : Bool, ((v139 = Value.tuple (Array.mk (List.reverse [Value.bool b145, Value.agg (Array.mk (List.reverse [Value.slice p142 n143 n144, Value.string s141]))]))) ∧ (atW (World.alloc w140 (Obj.cells (Array.mk [Value.string (ByteArray.mk #[]), Value.slice none 0 0]) 33 (0, 0))) (fun w146 =>
                                            ((∃ v147 : Value, (World.cell? w146 (Addr.add (Addr.mk (Array.size (World.heap w140)) 0 none) 0) = some v147)) ∧ ((World.frozen? w146 (Addr.add (Addr.mk (Array.size (World.heap w140)) 0 none) 0) = false) ∧ (atW (World.setCell w146 (Addr.add (Addr.mk (Array.size (World.heap w140)) 0 none) 0) (Value.string s141)) (fun w148 =>
                                              ((∃ v149 : Value, (World.cell? w148 (Addr.add (Addr.mk (Array.size (World.heap w140)) 0 none) 1) = some v149)) ∧ ((World.frozen? w148 (Addr.add (Addr.mk (Array.size (World.heap w140)) 0 none) 1) = false) ∧ (atW (World.setCell w148 (Addr.add (Addr.mk (Array.size (World.heap w140)) 0 none) 1) (Value.slice p142 n143 n144)) (fun w150 =>
                                                (∃ p151 : Option Addr, (∃ n152 : Nat, (∃ n153 : Nat, ((World.cell? w150 (Addr.add (Addr.mk (Array.size (World.heap w140)) 0 none) 1) = some (Value.slice p151 n152 n153)) ∧ (∃ z154 : Int → World → Prop, (∃ z155 : Int → World → Nat, ((z154 (0) (w150)) ∧ (∀ (_ : Nat → Value), (∀ (x157 : Int), (∀ (w158 : World), ((z154 (x157) (w158)) → (ifK (decide (x157 < (↑n152 : Int)))
                                                  (∃ a159 : Addr, ((p151 = some a159) ∧ (((0 : Int) ≤ x157) ∧ (((x157 : Int) < (↑n152 : Int)) ∧ (∃ x160 : Int, ((World.cell? w158 (Addr.add a159 (Int.toNat x157 * 1)) = some (Value.int IntKind.u64 x160)) ∧ (∃ s161 : ByteArray, ((World.cell? w158 (Addr.add (Addr.mk (Array.size (World.heap w140)) 0 none) 0) = some (Value.string s161)) ∧ (∃ s162 : ByteArray, ((World.cell? w158 (Addr.add (Addr.mk (Array.size (World.heap w87)) 0 none) 0) = some (Value.string s162)) ∧ (ifK (ByteArray.toList s161 == ByteArray.toList s162)
                                                    (ifK (x160 == x123)
                                                      (R (Value.bool false) (w158))
                                                      ((z154 (IntKind.wrap IntKind.i64 (x157 + 1)) (w158)) ∧ (z155 (IntKind.wrap IntKind.i64 (x157 + 1)) w158 < z155 x157 w158)))
                                                    ((z154 (IntKind.wrap IntKind.i64 (x157 + 1)) (w158)) ∧ (z155 (IntKind.wrap IntKind.i64 (x157 + 1)) w158 < z155 x157 w158)))))))))))))
                                                  ((z132 (IntKind.wrap IntKind.i64 (x135 + 1)) (w158)) ∧ (z133 (IntKind.wrap IntKind.i64 (x135 + 1)) w158 < z133 x135 w136)))))))))))))))))))))))))))))))))))))))
                                        ((z117 (IntKind.wrap IntKind.i64 (x120 + 1)) (w136)) ∧ (z118 (IntKind.wrap IntKind.i64 (x120 + 1)) w136 < z118 x120 w121))))))))))))))))))))))))
                                      ((z79 (IntKind.wrap IntKind.i64 (x82 + 1)) (w121)) ∧ (z80 (IntKind.wrap IntKind.i64 (x82 + 1)) w121 < z80 x82 w83))))))))))))))))))))))))))))))))))))))))))))
                            (∃ s163 : ByteArray, ((World.cell? w83 (Addr.add (Addr.mk (Array.size (World.heap w19)) 0 none) 2) = some (Value.string s163)) ∧ (Ca Try.prog (10) (Array.mk [Value.pointer p2, Value.string s163]) (w83) (fun v164 => (fun w165 =>
                              (∃ x166 : Int, (∃ b167 : Bool, ((v164 = Value.tuple (Array.mk (List.reverse [Value.bool b167, Value.int IntKind.i64 x166]))) ∧ (ifK (b167)
                                (Ca Try.prog (19) (Array.mk [Value.pointer p2, Value.int IntKind.i64 x166]) (w165) (fun v168 => (fun w169 =>
                                  (∃ s170 : ByteArray, (∃ p171 : Option Addr, (∃ n172 : Nat, (∃ n173 : Nat, (∃ b174 : Bool, ((v168 = Value.tuple (Array.mk (List.reverse [Value.bool b174, Value.agg (Array.mk (List.reverse [Value.slice p171 n172 n173, Value.string s170]))]))) ∧ (atW (World.alloc w169 (Obj.cells (Array.mk [Value.string (ByteArray.mk #[]), Value.slice none 0 0]) 33 (0, 0))) (fun w175 =>
                                    ((∃ v176 : Value, (World.cell? w175 (Addr.add (Addr.mk (Array.size (World.heap w169)) 0 none) 0) = some v176)) ∧ ((World.frozen? w175 (Addr.add (Addr.mk (Array.size (World.heap w169)) 0 none) 0) = false) ∧ (atW (World.setCell w175 (Addr.add (Addr.mk (Array.size (World.heap w169)) 0 none) 0) (Value.string s170)) (fun w177 =>
                                      ((∃ v178 : Value, (World.cell? w177 (Addr.add (Addr.mk (Array.size (World.heap w169)) 0 none) 1) = some v178)) ∧ ((World.frozen? w177 (Addr.add (Addr.mk (Array.size (World.heap w169)) 0 none) 1) = false) ∧ (atW (World.setCell w177 (Addr.add (Addr.mk (Array.size (World.heap w169)) 0 none) 1) (Value.slice p171 n172 n173)) (fun w179 =>
                                        (atW (World.drew w179) (fun w180 =>
                                          (ifK (!b174)
                                            (R (Value.bool false) (w180))
                                            (∃ s181 : ByteArray, ((World.cell? w180 (Addr.add (Addr.mk (Array.size (World.heap w169)) 0 none) 0) = some (Value.string s181)) ∧ (∃ s182 : ByteArray, ((World.cell? w180 (Addr.add (Addr.mk (Array.size (World.heap w19)) 0 none) 2) = some (Value.string s182)) ∧ (ifK (!ByteArray.toList s181 == ByteArray.toList s182)
                                              (R (Value.bool false) (w180))
                                              (∃ p183 : Option Addr, (∃ n184 : Nat, (∃ n185 : Nat, ((World.cell? w180 (Addr.add (Addr.mk (Array.size (World.heap w169)) 0 none) 1) = some (Value.slice p183 n184 n185)) ∧ (∃ a186 : Addr, ((p12 = some a186) ∧ (((0 : Int) ≤ x166) ∧ (((x166 : Int) < (↑n13 : Int)) ∧ (∃ x187 : Int, ((World.cell? w180 (Addr.add a186 (Int.toNat x166 * 1)) = some (Value.int IntKind.i64 x187)) ∧ (ifK (decide ((↑n184 : Int) ≥ x187))
                                                (R (Value.bool false) (w180))
                                                (z20 (w180))))))))))))))))))))))))))))))))))))))))
                                (z20 (w165))))))))))))))))))))))))))))))))))))))))))))))))))))))))))))))))))) ∧ (∀ (_ : Nat → Value), (∀ (w189 : World), ((z20 (w189)) → ((z15 (IntKind.wrap IntKind.i64 (x18 + 1)) (w189)) ∧ (z16 (IntKind.wrap IntKind.i64 (x18 + 1)) w189 < z16 x18 w19)))))))
            (Ca Try.prog (14) (Array.mk []) (w19) (fun v190 => (fun w191 =>
              (∃ b192 : Bool, ((v190 = Value.bool b192) ∧ (R (Value.bool b192) (w191)))))))))))))))))))))))))))))))))))
theorem ca5 (actsa : Option Addr) (actsl : Nat) (actsc : Nat) (w : World) (R : Value → World → Prop) (h : W5 actsa actsl actsc w R) : Ca Try.prog 5 ⟨[(.slice actsa actsl actsc)]⟩ w R := by
  have h1 : Try.prog.follows .mixedOrders = true := by kernel_rfl
  have h2 : Try.f5.body = some C5 := by kernel_rfl
  have h3 : (Try.f5.name == "runtime.NumGoroutine") = false := by kernel_rfl
  have h6 : Try.f5.results.toList = [.tmp 2] := by kernel_rfl
  have h4 : Nat.ble 1 221 = true := by kernel_rfl
  have h5 : okCode 221 pl5 ls5 C5 0 = true := by kernel_rfl
  have e : W5 actsa actsl actsc w R = wpC none Try.prog 221 pl5 ls5 C5 0 (endP Try.prog [.tmp 2] R) (fr0 [(.slice actsa actsl actsc)]) [] w := by kernel_rfl
  exact ca_of' (P := Try.prog) (g := 5) (fn := Try.f5) (c := C5) (m := 221) (rs := [.tmp 2]) (args := [(.slice actsa actsl actsc)]) (pl := pl5) (ls := ls5) (w := w) (R := R) h1 Try.func5 h2 Try.ntmps5 h6 h3 h4 h5 (Eq.mp e h)
end Go.Proofs.Ytmnbnjkbbhjocaa

/- The law ConsumerHolds, walked: a tag of a queue is held by one at most, nobody holds more than it may, and who is next has room. -/
namespace Go.Proofs.Ytmnbnjkbbhjocaa
open Go Go.Proofs.Ytmnbnjkbbhjocaa.St

theorem els_take {α : Type} {val : α → Value} {e : TypeId} {w : World} {a : Option Addr} {l c : Nat} {xs : List α} (h : Els val e w a l c xs) {k : Nat} (hk : k ≤ l) : Els val e w a k c (xs.take k) := by
  have hl := h.len
  refine ⟨by simp; omega, ?_⟩
  rcases h.2 with ⟨hv, h0⟩ | ⟨g, cap, cur, hv, hb, hg, h1, h2, h3, h4⟩
  · injection hv with e1 e2 e3
    subst e1; subst e2; subst e3
    have : k = 0 := by omega
    subst this
    exact .inl ⟨rfl, rfl⟩
  · injection hv with e1 e2 e3
    subst e1; subst e3
    refine .inr ⟨g, c, cur, rfl, hb, hg, by omega, h2, h3, ?_⟩
    rw [List.map_take, ← h4, List.take_take, Nat.mul_one, Nat.mul_one, Nat.min_eq_left hk]
theorem els_head {α : Type} {val : α → Value} {e : TypeId} {w : World} {a : Option Addr} {l c : Nat} {xs : List α} (h : Els val e w a l c xs) : (if c = 0 then a else Option.map (fun x => Addr.add x 0) a) = a := by
  rcases h.2 with ⟨hv, h0⟩ | ⟨g, cap, cur, hv, _⟩
  · injection hv with e1 e2 e3
    subst e1
    split <;> rfl
  · injection hv with e1 e2 e3
    subst e1
    split
    · rfl
    · rw [Option.map_some, add_lit]

theorem two_off {w0 w w' : World} {S T : Nat → Prop} {d e : Nat} {F G : Nat → Prop} {l r : List One} (h : Two w0 S w d e F G l r) (hm : Mod T w w') (hT : ∀ k, T k → ¬ F k ∧ ¬ G k ∧ (S k ∨ w0.heap.size ≤ k)) : Two w0 S w' d e F G l r := by
  have hs := hm.size
  have hs0 := h.mod.size
  refine ⟨h.dk.mod hm fun k hk ht => (hT k ht).1 hk, h.rd.mod hm fun k hk ht => (hT k ht).2.1 hk, fun k hk => ⟨(h.fb k hk).1, by have := (h.fb k hk).2.1; omega, (h.fb k hk).2.2⟩, fun k hk => ⟨(h.gb k hk).1, by have := (h.gb k hk).2; omega⟩, h.mod.trans' hm fun k hk ht => ?_⟩
  rcases (hT k ht).2.2 with h' | h'
  · exact h'
  · omega

/-- What one who is there holds, in a place of its own. -/
theorem hold_in {d : Nat} {F : Nat → Prop} {l : List One} {w : World} (hd : Dk w d F l) (hs : ∀ x ∈ l, x.tags.length < 1099511627776) (hU : (l.map (·.client)).Nodup) {x : One} (hx : x ∈ l) {n : Int} (hn : x.client = n) {K : Bool → World → World → Prop}
    (hk : ∀ w' w1 ra rl rc zs, Mod no w w1 → w1.heap[w'.heap.size]? = some (.cells #[.string x.queue, .slice ra rl rc] 33 (0, 0)) → Ints .u64 27 w1 ra rl rc zs → zs.Perm x.tags → Srt zs 0 rl → K true w' w1) :
    Ca Try.prog 19 ⟨[.pointer (some ⟨d, 0, none⟩), .int .i64 n]⟩ w (fun v w' => ∃ (s : ByteArray) (p : Option Addr) (m c : Nat) (b : Bool), v = .tuple ⟨List.reverse [.bool b, .agg ⟨List.reverse [.slice p m c, .string s]⟩]⟩ ∧
      atW (w'.alloc (.cells ⟨[.string ⟨#[]⟩, .slice none 0 0]⟩ 33 (0, 0))) fun w1 => fillC w'.heap.size [.string s, .slice p m c] 0 w1 (K b w')) := by
  refine hold_ok d F l n w hd hs _ (fun h => by rw [find_in hU hx hn] at h; cases h) (fun y hfy w2 ra rl rc zs m2 hra hzp hzs hzn => ?_)
  have hyx : y = x := by rw [find_in hU hx hn] at hfy; exact (Option.some.inj hfy).symm
  subst hyx
  refine ⟨_, _, _, _, _, rfl, ?_⟩
  intro w3 e3
  have m3 : Mod no w2 w3 := by subst e3; exact Mod.alloc _ _
  have b3 : w3.heap[w2.heap.size]? = some (.cells #[.string (ByteArray.mk #[]), .slice none 0 0] 33 (0, 0)) := by subst e3; exact new_at _ _
  clear e3
  refine fillC_ok (vs := [.string y.queue, .slice ra rl rc]) b3 rfl fun w4 b4 m4 _ => ?_
  have m4n : Mod no w2 w4 := m3.new m4 fun k hk => by cases hk; exact Nat.le_refl _
  exact hk w2 w4 ra rl rc zs (m2.trans m4n) b4 (hra.no m4n) hzp hzs

/-- most tells of each client how much it may hold. -/
def Mst (ms : List Int) (l : List One) : Prop := ∀ x ∈ l, at0 ms x.client.toNat = x.most
theorem zeroInt : (Try.prog.info? 3).bind (·.zero) = some (.int .i64 0) := by kernel_rfl

theorem strict_lt {ys : List Int} (hs : Srt ys 0 ys.length) (hnd : ys.Nodup) {i j : Nat} (hij : i < j) (hj : j < ys.length) : at0 ys i < at0 ys j := by
  have h1 := hs i j (Nat.zero_le _) hij hj
  have h2 := List.pairwise_iff_getElem.1 hnd i j (by omega) hj hij
  rw [at0_eq (by omega), at0_eq hj] at h1 ⊢
  omega

theorem holds_ok (a : Option Addr) (l c : Nat) (acs : List ActC) (w : World) (hr : ArgRow actL w a l c acs) (R : Value → World → Prop) (h : ∀ w', Mod no w w' → R (.bool true) w') :
    Ca Try.prog 5 #[.slice a l c] w R := by
  have hal := hr.len
  have hlc := hr.lc
  have hcm := hr.cm
  refine ca5 a l c w R ?_
  refine new_dk w _ fun w1 m1 hd1 => ⟨_, rfl, ?_⟩
  intro w3 e3
  have m3 : Mod no w1 w3 := by subst e3; exact Mod.alloc _ _
  have b3 : w3.heap[w1.heap.size]? = some (.cells #[.slice none 0 0] 44 (0, 0)) := by subst e3; exact new_at _ _
  clear e3
  have t3 := two_new m1 hd1 m3 b3
  have live : ∀ w', Mod no w w' → Ca Try.prog 14 #[] w' (fun v w'' => ∃ b : Bool, v = .bool b ∧ R (.bool b) w'') := fun w' m' => lives_ok w' _ fun w'' m'' => ⟨true, rfl, h w'' (m'.trans m'')⟩
  refine light_ok a l c acs w3 (hr.no t3.mod) _ fun w5 b m5 => ⟨b, rfl, ifK_not (fun _ => live w5 (t3.no m5).mod) (fun _ => ?_)⟩
  have t5 := t3.no m5
  obtain ⟨w6, hrun, hrow6, m6⟩ := row_make (P := Try.prog) (w := w5) (L := oneL (Value.int .i64) (oneInt _)) (t := 36) (e := 3) rowInt (x0 := 0) (fun z hz => by rw [zeroInt] at hz; cases hz; rfl) .i64 .i64 1001 (by decide)
  have hms6 := Els.of_row hrow6
  refine ⟨_, w6, hrun, _, _, _, rfl, ?_⟩
  have hBm : w5.heap.size < w6.heap.size := hms6.blk _ (by simp [rowB])
  have hBw : w.heap.size ≤ w5.heap.size := t5.mod.size
  have hBF : ∀ k, new w k ∧ k < w1.heap.size → k ≠ w5.heap.size := fun k hk e => by
    have := m3.size; have := m5.size; have := hk.2; omega
  have hBG : ¬ on w1.heap.size w5.heap.size := fun hk => by
    have h1 := lt_of_heap b3
    have h2 := m5.size
    have : w5.heap.size = w1.heap.size := hk
    omega
  have t6 := t5.no m6
  have m56 : w5.heap.size ≤ w6.heap.size := m6.size
  generalize w5.heap.size = Bm at hms6 hBm hBw hBF hBG
  refine ⟨fun x w' => ∃ (i : Nat) (F G : Nat → Prop) (ll : List One) (ms : List Int), x = i ∧ i ≤ l ∧ Two w no w' w.heap.size w1.heap.size F G ll [] ∧ WX ll ∧ Ints .i64 3 w' (some ⟨Bm, 0, none⟩) 1001 1001 ms ∧ Mst ms ll ∧ ¬ F Bm ∧ ¬ G Bm, fun x _ => ((l : Int) - x).toNat,
    ⟨0, _, _, [], _, rfl, Nat.zero_le _, t6, WX.nil, hms6, fun x hx => by simp at hx, fun hk => hBF _ hk rfl, hBG⟩, ?_⟩
  clear t3 t5 t6 m5 b3 m3 hd1 hms6 hrow6 hrun hBF hBG m6 m56 hBm
  rintro _ _ w7 ⟨i, F, G, ll, ms, rfl, hi, t7, hw, hms, hmst, hF, hG⟩
  refine ifK_dec (fun hlt => ?_) (fun _ => live w7 t7.mod)
  have e1 : IntKind.i64.wrap ((i : Int) + 1) = ((i + 1 : Nat) : Int) := by rw [wrap64 (by omega) (by omega)]; rfl
  rw [e1]
  clear e1
  refine ⟨fun w' => ∃ (F G : Nat → Prop) (ll : List One) (ms : List Int), Two w no w' w.heap.size w1.heap.size F G ll [] ∧ WX ll ∧ Ints .i64 3 w' (some ⟨Bm, 0, none⟩) 1001 1001 ms ∧ Mst ms ll ∧ ¬ F Bm ∧ ¬ G Bm, ?_, ?_⟩
  rotate_left
  · rintro _ w8 ⟨F8, G8, l8, ms8, h8⟩
    exact ⟨⟨i + 1, F8, G8, l8, ms8, rfl, by omega, h8⟩, by simp only; omega⟩
  refine copyAct (hr.no t7.mod) i rfl (by omega) fun w8 b8 m8 => ?_
  have hi' : i < acs.length := by omega
  have t8 := t7.no m8
  have hms8 := hms.no m8
  have hBlt : Bm < w7.heap.size := hms.blk _ (by simp [rowB])
  have hAF : ¬ F w7.heap.size := fun hk => Nat.lt_irrefl _ (t7.fb _ hk).2.1
  have hAG : ¬ G w7.heap.size := fun hk => Nat.lt_irrefl _ (t7.gb _ hk).2
  clear t7 hms
  -- what is done
  refine ⟨fun w' => ∃ (F G : Nat → Prop) (ll : List One) (ms : List Int), Two w no w' w.heap.size w1.heap.size F G ll [] ∧ WX ll ∧ Ints .i64 3 w' (some ⟨Bm, 0, none⟩) 1001 1001 ms ∧ Mst ms ll ∧ ¬ F Bm ∧ ¬ G Bm ∧
    w'.heap[w7.heap.size]? = some (.cells (actL.cs acs[i]).toArray 47 (0, 0)), ?_, ?_⟩
  · refine ⟨acs[i].kind, by rw [cl1 b8]; rfl, ifK_eq (fun hk => ?_) (fun hk => ?_)⟩
    · refine ⟨acs[i].client, by rw [cl1 b8]; rfl, acs[i].queue, by rw [cl1 b8]; rfl, acs[i].n, by rw [cl1 b8]; rfl, ?_⟩
      refine add_ok _ F ll _ _ _ w8 t8.dk _ fun w9 F9 hd9 m9 hF9 => ⟨_, rfl, ?_⟩
      have t9 := t8.left hd9 m9 hF9
      have s8 := m8.size
      have hA9 : ¬ F w7.heap.size := hAF
      have b9 := m9.at b8 hAF
      have hms9 : Ints .i64 3 w9 (some ⟨Bm, 0, none⟩) 1001 1001 ms := hms8.mod m9 fun k hk hS => by simp [rowB] at hk; subst hk; exact hF hS
      have hF9' : ¬ (F9 Bm ∧ Bm < w9.heap.size) := fun hk => by
        rcases hF9 Bm hk.1 with h | h
        · exact hF h
        · omega
      refine ifK_eq (fun hE => ?_) (fun hE => ?_)
      · obtain ⟨h1, h2, h3, h4, h5⟩ := addE_zero hE
        refine ⟨acs[i].client, by rw [cl1 b9]; rfl, ifK_dec (fun h => by omega) (fun _ => ?_)⟩
        refine ⟨acs[i].client, by rw [cl1 b9]; rfl, ifK_dec (fun h => by omega) (fun _ => ?_)⟩
        refine ⟨acs[i].n, by rw [cl1 b9]; rfl, ifK_dec (fun h => by omega) (fun _ => ?_)⟩
        refine ⟨acs[i].client, by rw [cl1 b9]; rfl, acs[i].n, by rw [cl1 b9]; rfl, ?_⟩
        refine hms9.wr acs[i].client.toNat (by omega) (by omega) _ fun w10 m10 hms10 => ?_
        have hon : ∀ k, rowB (some (⟨Bm, 0, none⟩ : Addr)) k → k = Bm := fun k hk => by simp [rowB] at hk; exact hk.symm
        refine ⟨_, _, _, _, two_off t9 m10 (fun k hk => by rw [hon k hk]; exact ⟨hF9', hG, .inr hBw⟩), hw.add _ _ _, hms10, ?_, hF9', hG, m10.at b9 fun hk => by have := hon _ hk; omega⟩
        intro x hx
        rw [addL, if_pos hE] at hx
        rw [at0_set (by have := hms9.len.1; omega)]
        rcases List.mem_append.1 hx with hx | hx
        · have hne : x.client ≠ acs[i].client := by
            have := List.find?_eq_none.1 h5 x hx
            simpa using this
          have := hw.cl x hx
          rw [if_neg (by omega)]
          exact hmst x hx
        · simp at hx
          subst hx
          rw [if_pos rfl]
      · have hL : addL ll acs[i].client acs[i].queue acs[i].n = ll := by rw [addL, if_neg hE]
        rw [hL] at t9
        refine ⟨acs[i].kind, by rw [cl1 b9]; rfl, ifK_of (fun h => by rw [hk] at h; simp at h) (fun _ => ?_)⟩
        exact ⟨_, _, _, _, t9, hw, hms9, hmst, hF9', hG, b9⟩
    · refine ⟨acs[i].kind, by rw [cl1 b8]; rfl, ifK_of (fun _ => ?_) (fun h => absurd (by simpa using h) hk)⟩
      refine ⟨acs[i].kind, by rw [cl1 b8]; rfl, acs[i].client, by rw [cl1 b8]; rfl, acs[i].queue, by rw [cl1 b8]; rfl, acs[i].n, by rw [cl1 b8]; rfl, acs[i].tag, by rw [cl1 b8]; rfl, ?_⟩
      refine actN_ok w8 _ _ _ F G ll _ _ _ _ _ w8 t8.self hw.wf hk _ fun w9 F9 G9 l9 b t9' hst => ⟨b, rfl, ?_⟩
      have s8 := m8.size
      have hon : ∀ k, rowB (some (⟨Bm, 0, none⟩ : Addr)) k → k = Bm := fun k hk => by simp [rowB] at hk; exact hk.symm
      refine ⟨F9, G9, l9, ms, t8.then t9', hw.step hst, hms8.mod t9'.mod fun k hk hS => ?_, fun x hx => ?_, fun hk => ?_, fun hk => ?_, t9'.mod.at b8 fun hS => hS.elim hAF hAG⟩
      · rw [hon k hk] at hS
        exact hS.elim hF hG
      · obtain ⟨y, hy, h1, h2⟩ := hst.from x hx
        rw [← h1, ← h2]
        exact hmst y hy
      · rcases (t9'.fb _ hk).1 with h | h
        · exact h.elim hF hG
        · omega
      · rcases (t9'.gb _ hk).1 with h | h
        · exact h.elim hF hG
        · omega
  clear t8 hms8 hw hmst hF hG hAF hAG b8 m8 hBlt
  rintro _ w9 ⟨F, G, ll, ms, t9, hw, hms, hmst, hF, hG, b9⟩
  have done : ∀ w', Mod no w9 w' → ∃ (F G : Nat → Prop) (ll : List One) (ms : List Int), Two w no w' w.heap.size w1.heap.size F G ll [] ∧ WX ll ∧ Ints .i64 3 w' (some ⟨Bm, 0, none⟩) 1001 1001 ms ∧ Mst ms ll ∧ ¬ F Bm ∧ ¬ G Bm :=
    fun w' m' => ⟨F, G, ll, ms, t9.no m', hw, hms.no m', hmst, hF, hG⟩
  have hd9 := t9.dk
  have hU := hw.wf.uniq
  have h32 := hw.wf.len
  have hwt : ∀ x ∈ ll, x.tags.length < 1099511627776 := fun x hx => by have := hw.wf.tagsLt x hx; omega
  clear t9
  refine clients_ok _ F ll w9 hd9 (by omega) _ fun w10 p n c' ys hy hyp hys m10 hyn => ⟨_, _, _, rfl, ?_⟩
  have hyl := hy.len.1
  have hync := hy.len.2.1
  have hyr := hyp.length_eq
  rw [List.length_map] at hyr
  have hn32 : n ≤ 32 := by omega
  have hynd : ys.Nodup := hyp.nodup_iff.2 hU
  have hysl : Srt ys 0 ys.length := by rw [hyl]; exact hys
  have hxs : ∀ {j : Nat} (hj : j < ys.length), ∃ x ∈ ll, x.client = ys[j] := fun hj => by
    obtain ⟨x, hx, he⟩ := List.mem_map.1 (hyp.mem_iff.1 (List.getElem_mem hj))
    exact ⟨x, hx, he⟩
  clear hyr hyn
  refine ⟨fun x w' => ∃ j : Nat, x = j ∧ j ≤ n ∧ Mod no w10 w', fun x _ => ((n : Int) - x).toNat, ⟨0, rfl, Nat.zero_le _, Mod.refl _ _⟩, ?_⟩
  rintro _ _ w11 ⟨j, rfl, hj, m11⟩
  have m911 := m10.trans m11
  refine ifK_dec (fun hlt => ?_) (fun _ => ?_)
  · have hjy : j < ys.length := by omega
    rw [wSucc (i := j) (by omega)]
    refine (hy.no m11).rd j rfl (by omega) ?_
    rw [at0_eq hjy]
    obtain ⟨x, hx, hxc⟩ := hxs hjy
    have hcl := hw.cl x hx
    refine hold_in (hd9.no m911) hwt hU hx hxc fun w12 w13 ra rl rc zs m13 b13 hz hzp hzs => ?_
    have hzl := hz.len.1
    have hznd : zs.Nodup := hzp.nodup_iff.2 (hw.wf.tags x hx).1
    have hzsl : Srt zs 0 zs.length := by rw [hzl]; exact hzs
    have hzx : zs.length = x.tags.length := hzp.length_eq
    have hxl := hw.wf.tagsLt x hx
    have hxm := (hw.wf.tags x hx).2.1
    refine ⟨fun w' => Mod no w13 w', ?_, ?_⟩
    · intro w14 e14
      have m14 : Mod no w13 w14 := by subst e14; exact Mod.drew _
      clear e14
      have m914 := (m911.trans m13).trans m14
      refine (ifK_of (fun h => by cases h) (fun _ => ?_) : ifK (!true) _ _)
      refine ifK_dec (fun h => by omega) (fun _ => ifK_dec (fun h => by omega) (fun _ => ?_))
      have hmx := hmst x hx
      rw [hxc] at hmx
      refine ifK_dec (fun hj0 => ?_) (fun _ => ?_)
      · rw [wPred (i := j) (by omega) (by omega)]
        refine ((hy.no m11).no (m13.trans m14)).rd (j - 1) rfl (by omega) (ifK_dec (fun hge => ?_) (fun _ => ?_))
        · have := strict_lt hysl hynd (i := j - 1) (j := j) (by omega) hjy
          rw [at0_eq hjy] at this
          exact absurd this (by clear hmx; omega)
        · refine ⟨ra, rl, rc, by rw [cl1 (m14.at' b13)]; rfl, (hms.no m914).rd (ys[j]).toNat (by omega) (by omega) (ifK_dec (fun hgt => ?_) (fun _ => m14))⟩
          rw [hmx] at hgt
          omega
      · refine ⟨ra, rl, rc, by rw [cl1 (m14.at' b13)]; rfl, (hms.no m914).rd (ys[j]).toNat (by omega) (by omega) (ifK_dec (fun hgt => ?_) (fun _ => m14))⟩
        rw [hmx] at hgt
        omega
    · rintro _ w14 m14
      refine ⟨ra, rl, rc, by rw [cl1 (m14.at' b13)]; rfl, ?_⟩
      refine ⟨fun x w' => ∃ k : Nat, x = k ∧ k ≤ rl ∧ Mod no w13 w', fun x _ => ((rl : Int) - x).toNat, ⟨0, rfl, Nat.zero_le _, m14⟩, ?_⟩
      rintro _ _ w15 ⟨k, rfl, hk, m15⟩
      refine ifK_dec (fun hkl => ?_) (fun _ => ⟨⟨j + 1, rfl, by omega, (m11.trans m13).trans m15⟩, by simp only; omega⟩)
      have hkz : k < zs.length := by omega
      rw [wSucc (i := k) (by omega)]
      refine (hz.no m15).rd k rfl (by omega) ?_
      rw [at0_eq hkz]
      have hmemz : zs[k] ∈ x.tags := hzp.mem_iff.1 (List.getElem_mem hkz)
      refine ⟨fun w' => Mod no w13 w', ?_, ?_⟩
      · refine ifK_eq (fun h0 => absurd (by rw [← h0]; exact hmemz) (hw.nz x hx)) (fun _ => ifK_dec (fun hk0 => ?_) (fun _ => m15))
        rw [wPred (i := k) (by omega) (by omega)]
        refine ⟨ra, rl, rc, by rw [cl1 (m15.at' b13)]; rfl, (hz.no m15).rd (k - 1) rfl (by omega) (ifK_dec (fun hge => ?_) (fun _ => m15))⟩
        have := strict_lt hzsl hznd (i := k - 1) (j := k) (by omega) hkz
        rw [at0_eq hkz] at this
        exact absurd this (by omega)
      · rintro _ w16 m16
        refine ⟨Int.le_refl _, by omega, by omega, ?_⟩
        rw [els_head hy]
        simp only [Int.toNat_natCast, Nat.sub_zero]
        have hyt := els_take hy (k := j) hj
        refine ⟨fun x w' => ∃ q : Nat, x = q ∧ q ≤ j ∧ Mod no w13 w', fun x _ => ((j : Int) - x).toNat, ⟨0, rfl, Nat.zero_le _, m16⟩, ?_⟩
        rintro _ _ w17 ⟨q, rfl, hq, m17⟩
        refine ifK_dec (fun hqj => ?_) (fun _ => ⟨⟨k + 1, rfl, by omega, m17⟩, (by first | omega | (simp only; omega))⟩)
        have hqj : q < j := by omega
        have hqy : q < ys.length := by omega
        rw [wSucc (i := q) (by omega)]
        have m10_17 := (m11.trans m13).trans m17
        refine (hyt.no m10_17).rd q rfl hqj ?_
        rw [at0_eq (by simp; omega), List.getElem_take]
        obtain ⟨y, hy', hyc⟩ := hxs hqy
        refine hold_in (hd9.no ((m911.trans m13).trans m17)) hwt hU hy' hyc fun w18 w19 sa sl sc us m19 b19 hu hup hus => ?_
        have hul := hu.len.1
        have hux : us.length = y.tags.length := hup.length_eq
        have hyl2 := hw.wf.tagsLt y hy'
        have hne : y.client ≠ x.client := by
          rw [hyc, hxc]
          exact List.pairwise_iff_getElem.1 hynd q j hqy hjy hqj
        refine ⟨sa, sl, sc, by rw [cl1 b19]; rfl, ?_⟩
        refine ⟨fun x w' => ∃ s : Nat, x = s ∧ s ≤ sl ∧ Mod no w19 w', fun x _ => ((sl : Int) - x).toNat, ⟨0, rfl, Nat.zero_le _, Mod.refl _ _⟩, ?_⟩
        rintro _ _ w20 ⟨s, rfl, hs, m20⟩
        refine ifK_dec (fun hsl => ?_) (fun _ => ⟨⟨q + 1, rfl, hqj, (m17.trans m19).trans m20⟩, by simp only; omega⟩)
        have hsu : s < us.length := by omega
        rw [wSucc (i := s) (by omega)]
        refine (hu.no m20).rd s rfl (by omega) ?_
        rw [at0_eq hsu]
        have hmemu : us[s] ∈ y.tags := hup.mem_iff.1 (List.getElem_mem hsu)
        have b13' := ((m17.trans m19).trans m20).at' b13
        refine ⟨y.queue, by rw [cl1 (m20.at' b19)]; rfl, x.queue, by rw [cl1 b13']; rfl, ifK_of (fun hqq => ?_) (fun _ => ⟨⟨s + 1, rfl, by omega, m20⟩, by simp only; omega⟩)⟩
        refine ifK_eq (fun he => ?_) (fun _ => ⟨⟨s + 1, rfl, by omega, m20⟩, by simp only; omega⟩)
        exact absurd (by rw [he]; exact hmemz) (hw.apart y hy' x hx hne (by simpa using hqq) _ hmemu)
  · -- who is next
    refine ⟨acs[i].queue, by rw [cl1 (m911.at' b9)]; rfl, ?_⟩
    refine next_dk _ F ll _ w11 (hd9.no m911) _ fun w12 m12 => ⟨_, _, rfl, ?_⟩
    have m912 := m911.trans m12
    refine ifK_of (fun hb => ?_) (fun _ => done w12 m912)
    obtain ⟨x, hfx⟩ : ∃ x, ll.find? (roomO acs[i].queue) = some x := by
      rw [nextB] at hb
      exact Option.isSome_iff_exists.1 hb
    have hx := List.mem_of_find?_eq_some hfx
    have hroom := List.find?_some hfx
    have hnc : nextC ll acs[i].queue = x.client := by rw [nextC, hfx]; rfl
    rw [hnc]
    rw [roomO, Bool.and_eq_true] at hroom
    have hcl := hw.cl x hx
    refine hold_in (hd9.no m912) hwt hU hx rfl fun w13 w14 ra rl rc zs m14 b14 hz hzp hzs => ?_
    intro w15 e15
    have m15 : Mod no w14 w15 := by subst e15; exact Mod.drew _
    clear e15
    have b15 := m15.at' b14
    have m915 := (m912.trans m14).trans m15
    refine (ifK_of (fun h => by cases h) (fun _ => ?_) : ifK (!true) _ _)
    refine ⟨x.queue, by rw [cl1 b15]; rfl, acs[i].queue, by rw [cl1 (m915.at' b9)]; rfl, ifK_of (fun h => by rw [hroom.1] at h; cases h) (fun _ => ?_)⟩
    refine ⟨ra, rl, rc, by rw [cl1 b15]; rfl, (hms.no m915).rd x.client.toNat (by omega) (by omega) (ifK_dec (fun hge => ?_) (fun _ => done w15 m915))⟩
    have h1 := hmst x hx
    have h2 := hz.len.1
    have h3 := hzp.length_eq
    have h4 := of_decide_eq_true hroom.2
    omega
end Go.Proofs.Ytmnbnjkbbhjocaa

/- An argument that is a list of the law's acts: it is read as it lies. -/
namespace Go.Proofs.Ytmnbnjkbbhjocaa
open Go Go.ChangeShapes Go.WideShapes Go.Deep Go.Proofs.Ytmnbnjkbbhjocaa.St

section
variable {H : Type} {enc : TypeId × Value → H} {P : Program} {w : World} {base : Nat} {spare : Nat → Bool} {held : Bool}
theorem open_slice_fields {t e : TypeId} {fs : Array Field} {fuel : Nat} {cs : List Value} {x : DataW H × List MemPlace} (ht : P.underlying t = some (.slice e)) (he : P.underlying e = some (.struct fs))
    (hone : oneCellFields P fs = true) (hC : P.cellsOf e = fs.size) (h : DataW.trod enc P w base spare held fuel t cs = some x) :
    (cs = [.slice none 0 0] ∧ x = (.nil, [])) ∨
    ∃ (a : Addr) (len cap m : Nat) (D : Nat → DataW H) (Pl : Nat → List MemPlace), cs = [.slice (some a) len cap] ∧ base ≤ a.block ∧ len ≤ cap ∧ cap ≤ maxLen ∧ m = (if spare a.block then cap else len) ∧
      x = (.slice ((List.range len).map D) ((List.range (m - len)).map fun j => D (len + j)), MemPlace.row a (m * fs.size) ++ (List.range m).flatMap Pl) ∧
      ∀ i, i < m → ∃ (ys : List (DataW H × List MemPlace)) (n : Nat), D i = .agg (ys.map (·.1)) ∧ Pl i = ys.flatMap (·.2) ∧ ys.length = fs.size ∧
        ∀ (j : Nat) (f : Field), fs[j]? = some f → ∃ (v : Value) (y : DataW H × List MemPlace), w.cell? (a.add (i * fs.size + j)) = some v ∧ ys[j]? = some y ∧ DataW.trod enc P w base spare held n f.type [v] = some y := by
  rcases open_slice ht h with h0 | ⟨a, len, cap, m, n, D, Pl, hcs, hb, hl, hm, hmm, hx, hi⟩
  · exact .inl h0
  · refine .inr ⟨a, len, cap, m, D, Pl, hcs, hb, hl, hm, hmm, by rw [hC] at hx; exact hx, fun i him => ?_⟩
    obtain ⟨cs', hc, ht'⟩ := hi i him
    rw [hC] at hc
    obtain ⟨ys, n', hn', hy, hlen, hyl, hf⟩ := DataW.trod_struct he ht'
    obtain ⟨_, hcl, hat⟩ := World.cells?_some hc
    simp only [Prod.mk.injEq] at hy
    refine ⟨ys, n', hy.1, hy.2, hyl, fun j f hj => ?_⟩
    obtain ⟨ho, hk⟩ := hone_of hone j f hj
    have hjl : j < fs.size := (Array.getElem?_eq_some_iff.1 hj).1
    have hcell := hat j hjl
    have hv : cs'[j]? = some (cs'[j]'(by omega)) := List.getElem?_eq_getElem (by omega)
    have h1 := hf j f hj
    rw [ho, hk] at h1
    have hone' : (cs'.drop j).take 1 = [cs'[j]'(by omega)] := by
      rw [List.drop_eq_getElem_cons (by omega)]
      rfl
    rw [hone'] at h1
    have hys : ys[j]? = some (ys[j]'(by omega)) := List.getElem?_eq_getElem (by omega)
    refine ⟨_, _, ?_, hys, h1.trans hys⟩
    rw [← Go.Deep.add_add, hcell, hv]
end

theorem cell_lt {w : World} {ad : Addr} {v : Value} (h : w.cell? ad = some v) : ad.block < w.heap.size := by
  unfold World.cell? at h
  cases hh : w.heap[ad.block]? with
  | none => rw [hh] at h; cases h
  | some o => exact lt_of_heap hh

theorem cellsAct : Try.prog.cellsOf 47 = 5 := by kernel_rfl
set_option maxRecDepth 100000 in
theorem args_acts {H : Type} {enc : TypeId × Value → H} {w : World} {v : Value} {d : DataW H} {p : List MemPlace} {base : Nat} {r : Reach} {b0 : Nat} (hv : Value.okWide Try.prog w r b0 40 v) (h : DataW.Trod enc Try.prog w base (fun _ => true) true 40 v d p) :
    ∃ a l c acs, v = .slice a l c ∧ ArgRow actL w a l c acs := by
  obtain ⟨a, l, c, rfl⟩ := okWide_slice Try.underlying40 hv
  obtain ⟨fuel, hf⟩ := h
  rcases open_slice_fields Try.underlying40 Try.underlying47 (by kernel_rfl) cellsAct hf with ⟨hcs, _⟩ | ⟨ad, len, cap, m, D, Pl, hcs, _, hl, hm, hmm, _, hi⟩
  · simp only [Value.cells, List.cons.injEq, and_true] at hcs
    injection hcs with h1 h2 h3
    subst h1; subst h2; subst h3
    exact ⟨none, 0, 0, [], rfl, rfl, Nat.le_refl _, by decide, fun ad h => (by cases h), fun i h => (by simp at h)⟩
  · simp only [Value.cells, List.cons.injEq, and_true] at hcs
    injection hcs with h1 h2 h3
    subst h1; subst h2; subst h3
    have hmc : m = c := by rw [hmm]; rfl
    have hone : ∀ i, i < l → ∃ x : ActC, ∀ j v, (actL.cs x)[j]? = some v → w.cell? (Addr.add ad (i * 5 + j)) = some v := by
      intro i hil
      obtain ⟨ys, n, _, _, _, hg⟩ := hi i (by omega)
      obtain ⟨v0, y0, hc0, _, ht0⟩ := hg 0 _ rfl
      obtain ⟨v1, y1, hc1, _, ht1⟩ := hg 1 _ rfl
      obtain ⟨v2, y2, hc2, _, ht2⟩ := hg 2 _ rfl
      obtain ⟨v3, y3, hc3, _, ht3⟩ := hg 3 _ rfl
      obtain ⟨v4, y4, hc4, _, ht4⟩ := hg 4 _ rfl
      obtain ⟨a0, e0, _, _⟩ := DataW.trod_int Try.underlying3 ht0
      obtain ⟨a1, e1, _, _⟩ := DataW.trod_int Try.underlying3 ht1
      obtain ⟨a2, e2, _, _⟩ := DataW.trod_string Try.underlying9 ht2
      obtain ⟨a3, e3, _, _⟩ := DataW.trod_int Try.underlying3 ht3
      obtain ⟨a4, e4, _, _⟩ := DataW.trod_int Try.underlying27 ht4
      simp only [List.cons.injEq, and_true] at e0 e1 e2 e3 e4
      subst e0 e1 e2 e3 e4
      refine ⟨⟨a0, a1, a2, a3, a4⟩, fun j v hj => ?_⟩
      match j, hj with
      | 0, hj => cases hj; exact hc0
      | 1, hj => cases hj; exact hc1
      | 2, hj => cases hj; exact hc2
      | 3, hj => cases hj; exact hc3
      | 4, hj => cases hj; exact hc4
      | j + 5, hj => simp [actL] at hj
    have hall : ∀ i, ∃ x : ActC, i < l → ∀ j v, (actL.cs x)[j]? = some v → w.cell? (Addr.add ad (i * 5 + j)) = some v := by
      intro i
      by_cases h : i < l
      · obtain ⟨x, hx⟩ := hone i h
        exact ⟨x, fun _ => hx⟩
      · exact ⟨⟨0, 0, ByteArray.mk #[], 0, 0⟩, fun h' => absurd h' h⟩
    obtain ⟨f, hf⟩ := Classical.axiomOfChoice hall
    refine ⟨some ad, l, c, (List.range l).map f, rfl, by simp, hl, by simpa [maxLen] using hm, fun ad' had hl0 => ?_, fun i h => ?_⟩
    · cases had
      have := cell_lt (hf 0 hl0 0 _ rfl)
      rwa [add_block] at this
    · refine ⟨ad, rfl, fun j v hj => ?_⟩
      rw [List.getElem_map, List.getElem_range] at hj
      have := hf i (by simpa using h) j v hj
      rwa [← Go.Deep.add_add] at this
end Go.Proofs.Ytmnbnjkbbhjocaa
