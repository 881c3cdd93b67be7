/- Parts of the proof of LedgerTearsCard. -/
import Derived.Test.YtgjdandnncjegaaGreatDoorCore9
import Derived.Test.YtgjdandnncjegaaGreatDoorProg
import Derived.Lib.SlBytesConst
import Derived.Test.YtgjdandnncjegaaGreatDoorLib
import Derived.Deep.Slices
import Derived.ChangeSame
import Derived.Below
import Derived.SizedLaws
import Derived.Deep.Fields
import Derived.Test.YtgjdandnncjegaaGreatDoorU4
/- What a checkpoint leaves of a log, whether or not the power fails in it. In plain Lean; it names no program. -/
namespace Go.Proofs.YtgjdandnncjegaaGreatDoor
open Go Go.Proofs.YtgjdandnncjegaaGreatDoor.St

section
variable {a : AS} {first : Nat} {chk : Bs} {PS : List (List Bs)} {Q : Bs → List Bs → Prop}
theorem flush_law (h : Nrm a first chk PS) {l : AL} (hl : l.last = ((first + PS.length - 1 : Nat) : Int)) (hd : l.dead = false) (hW : ∀ b ∈ l.waits, b.length ≤ 1048512) (h9 : first + PS.length + 1 ≤ 1000000000) (hr : (phi a.all : Int) + sizeB sumB l.waits + 16 ≤ a.room)
    (hQ : ∀ k, k ≤ l.waits.length → Q chk (PS.flatten ++ l.waits.take k)) {G : AS × AL × Int → Prop} (hG : ∀ x m, a.left ≠ 0 → Aft Q x → G (x, m, 9))
    (hf : ∀ a' PS', a'.room = a.room → a'.keep = a.keep → (a.left = 0 → a'.left = 0) → phi a'.all ≤ phi a.all + sizeB sumB l.waits + 16 → Nrm a' first chk PS' → PS'.flatten = PS.flatten ++ l.waits → PS'.length ≤ PS.length + 1 →
      G (a', { l with waits := [], last := ((first + PS'.length - 1 : Nat) : Int) }, 0)) : G (l.flush a) := by
  have hm : l.may a = 0 := by rw [AL.may, hd, h.on]; rfl
  by_cases hw : l.waits = []
  · have hfl : l.flush a = (a, l, 0) := by rw [AL.flush, if_pos (.inr hw), hm]
    rw [hfl]
    have := hf a PS rfl rfl id (by omega) h (by rw [hw]; simp) (by omega)
    rw [← hw, ← hl] at this
    exact this
  · obtain ⟨PS0, P, rfl⟩ : ∃ PS0 P, PS = PS0 ++ [P] := ⟨PS.dropLast, PS.getLast h.log.ne, (List.dropLast_concat_getLast h.log.ne).symm⟩
    simp only [List.length_append, List.length_singleton] at hl h9
    have hl' : l.last = ((first + PS0.length : Nat) : Int) := hl
    have hQ' : ∀ k, k ≤ l.waits.length → Q chk (PS0.flatten ++ P ++ l.waits.take k) := fun k hk => by have := hQ k hk; simpa using this
    rw [AL.flush, if_neg (by rw [hm]; simp [hw])]
    have hput : ∀ (K : AS × Int → Prop), (∀ x, x.2 = 9 → a.left ≠ 0 → Aft Q x.1 → K x) → (∀ all c l', (a.left = 0 → l' = 0) → phi all ≤ phi a.all + sizeB sumB l.waits → Nrm ⟨a.room, all, a.dir, a.sure, false, c, l', a.keep⟩ first chk (PS0 ++ [P ++ l.waits]) → K (⟨a.room, all, a.dir, a.sure, false, c, l', a.keep⟩, 0)) → K (l.put a) :=
      fun K h1 h2 => put_law h hl' rfl hW (by omega) hQ' h1 h2
    refine hput (fun r => G (if r.2 ≠ 0 then (r.1, l.told r.2, r.2) else if ((r.1.read (nameI l.last)).1.length : Int) ≤ l.part ∨ 999999999 ≤ l.last then (r.1, { l with waits := [] }, 0) else AL.turn { l with waits := [] } r.1)) ?_ ?_
    · intro x h1 h2 h3
      rw [if_pos (by omega), h1]
      exact hG _ _ h2 h3
    · intro all c l' h1 h2 h3
      simp only [ne_eq, not_true_eq_false, if_false]
      split
      · have := hf ⟨a.room, all, a.dir, a.sure, false, c, l', a.keep⟩ _ rfl rfl h1 (by simp only; omega) h3 (by simp) (by simp)
        simp only [List.length_append, List.length_singleton] at this
        rw [show first + (PS0.length + 1) - 1 = first + PS0.length by omega, ← hl'] at this
        exact this
      · refine turn_law (Q := Q) h3 (l := { l with waits := [] }) (by simp only [List.length_append, List.length_singleton]; exact hl) (by simpa using h9) (by simp only; omega) ?_ (fun x m hx => hG x m fun h0 => hx (h1 h0)) ?_
        · have := hQ' l.waits.length (Nat.le_refl _)
          simpa using this
        · intro all' dir c' k hk hp hn
          have := hf ⟨a.room, all', dir, dir, false, c', k, a.keep⟩ _ rfl rfl (fun h0 => hk (h1 h0)) (by simp only at hp ⊢; omega) hn (by simp) (by simp)
          simp only [List.length_append, List.length_singleton] at this
          rw [show first + (PS0.length + 1 + 1) - 1 = first + PS0.length + 1 by omega] at this
          rw [hl']
          exact this
/-- Behind the commit of a checkpoint: the elder parts are there still. -/
structure Half (a : AS) (next : Nat) (chk : Bs) (first : Nat) : Prop where
  ok : a.Ok
  on : a.dark = false
  inj : Inj a.dir
  sure : a.sure = a.dir
  synced : ∀ p ∈ a.dir, (fileL a.all p.2).2 = (fileL a.all p.2).1
  log : LogAt a.dir (fun i => (fileL a.all i).1) next chk [[]] []
  nocom : dget a.dir nComing = none
  first1 : 1 ≤ first
  firstN : first < next
  below : ∀ n, n < first → dget a.dir (nameL n) = none
  elder : ∀ n, first ≤ n → n < next → dget a.dir (nameL n) ≠ none
theorem marks_law (h : Nrm a first chk PS) (h9 : first + PS.length + 1 ≤ 1000000000) {check : Bs} (hc : check.length ≤ 1048512) (hr : (phi a.all : Int) + 48 + check.length ≤ a.room) (hQ : Q chk PS.flatten)
    {G : AS × Int → Prop} (hG : ∀ x, x.2 = 9 → a.left ≠ 0 → Aft Q x.1 → G x)
    (hf : ∀ a', a'.room = a.room → a'.keep = a.keep → (a.left = 0 → a'.left = 0) → phi a'.all ≤ phi a.all + 48 + check.length → Half a' (first + PS.length) check first → G (a', 0)) : G (a.marks ((first + PS.length : Nat) : Int) check) := by
  have hp : 0 < PS.length := List.length_pos_iff.2 h.log.ne
  have hf1 := h.log.first1
  have hgN := good_name (n := first + PS.length) (by omega)
  have hnm : nameI ((first + PS.length : Nat) : Int) = nameL (first + PS.length) := nameI_nat (by omega) (by omega)
  have hne1 : nameL (first + PS.length) ≠ nComing := nameL_ne_coming _
  have hne2 : nameL (first + PS.length) ≠ nCheck := nameL_ne_check _
  have hne3 : nComing ≠ nCheck := by decide +kernel
  have hno := h.log.over (first + PS.length) (Nat.le_refl _)
  have hR := h.log.rises
  have hS := h.sur hQ
  generalize hb : sealB sumB (putN 8 (first + PS.length) ++ check) = b
  have hbl : b.length = check.length + 16 := by rw [← hb, sealB_len, List.length_append, putN_len]; omega
  rw [AS.marks, read_not h.on good_coming h.nocom, if_pos (by decide), hnm, Int.toNat_natCast, hb]
  have e0 : thn ((a, 0) : AS × Int) (fun a => a.make nComing) = a.make nComing := by rw [thn, if_pos rfl]
  rw [e0]
  -- each step in its turn
  have room1 := need_room (k := 16) h.ok h.inj (by omega)
  have assoc : ∀ (x : AS × Int) (f g : AS → AS × Int), thn (thn x f) g = thn x fun a => thn (f a) g := by
    intro x f g
    unfold thn
    split <;> rfl
  rw [assoc, assoc, assoc, assoc]
  refine (nx_make hS.dur h.on good_coming h.nocom room1).thn hG fun c1 l1 hl1 => ?_
  have ok1 : (⟨a.room, a.all ++ [([], [])], dset nComing a.all.length a.dir, a.sure, false, c1, l1, a.keep⟩ : AS).Ok := ok_make h.ok good_coming room1
  have hS1 := hS.frame ok1 rfl rfl fun p hp => fileL_add (h.ok.sureI p hp)
  have inj1 : Inj (dset nComing a.all.length a.dir) := dset_inj h.inj _ _ fun p hp _ e => by have := h.ok.dirI p hp; omega
  have g1 : dget (dset nComing a.all.length a.dir) nComing = some a.all.length := by rw [dget_dset hR, if_pos rfl]
  have p1 : phi (a.all ++ [([], [])]) = phi a.all + 16 := phi_add _
  have room2 := need_room (k := b.length) ok1 inj1 (by simp only; omega)
  refine (nx_write hS1.dur rfl good_coming g1 b room2).thn (fun x h1 h2 h3 => hG x h1 (fun h0 => h2 (hl1 h0)) h3) fun c2 l2 hl2 => ?_
  have ok2 := ok_write (c := c2) (l := l2) ok1 g1 b room2
  dsimp only at ok2 ⊢
  have hS2 := hS1.frame ok2 rfl rfl fun p hp => fileL_mod (by have := h.ok.sureI p hp; omega)
  refine (nx_sync hS2.dur rfl good_coming g1).thn (fun x h1 h2 h3 => hG x h1 (fun h0 => h2 (hl2 (hl1 h0))) h3) fun c3 l3 hl3 => ?_
  have ok3 := ok_sync (c := c3) (l := l3) ok2 a.all.length
  dsimp only at ok3 ⊢
  have hS3 := hS2.frame ok3 rfl rfl fun p hp => fileL_mod (by have := h.ok.sureI p hp; omega)
  have p2 := phi_modify (fun x : Bs × Bs => (x.1 ++ b, x.2)) b.length (fun f => by simp only [List.length_append]; omega) (a.all ++ [([], [])]) a.all.length
  have p3 := phi_modify (fun x : Bs × Bs => (x.1, x.1)) 0 (fun f => by simp only; omega) ((a.all ++ [([], [])]).modify a.all.length fun x => (x.1 ++ b, x.2)) a.all.length
  generalize hall : (((a.all ++ [([], [])]).modify a.all.length fun x => (x.1 ++ b, x.2)).modify a.all.length fun x => (x.1, x.1)) = all at *
  have hlen : all.length = a.all.length + 1 := by rw [← hall]; simp
  have f0 : fileL all a.all.length = (b, b) := by rw [← hall, fileL_at (by simp), fileL_at (by simp), fileL_new]; rfl
  have fo : ∀ j, j < a.all.length → fileL all j = fileL a.all j := fun j hj => by rw [← hall, fileL_mod (by omega), fileL_mod (by omega), fileL_add hj]
  have hno1 : dget (dset nComing a.all.length a.dir) (nameL (first + PS.length)) = none := by rw [dget_dset hR, if_neg hne1]; exact hno
  have room4 := need_room (k := 16) ok3 inj1 (by simp only; omega)
  refine (nx_make hS3.dur rfl hgN hno1 room4).thn (fun x h1 h2 h3 => hG x h1 (fun h0 => h2 (hl3 (hl2 (hl1 h0)))) h3) fun c4 l4 hl4 => ?_
  have ok4 := ok_make (c := c4) (l := l4) ok3 hgN room4
  dsimp only at ok4 ⊢
  have hS4 := hS3.frame ok4 rfl rfl fun p hp => fileL_add (by have := h.ok.sureI p hp; omega)
  have hR1 := dset_rises (k := nComing) (f := a.all.length) hR
  have hR2 := dset_rises (k := nameL (first + PS.length)) (f := all.length) hR1
  have g2 : dget (dset (nameL (first + PS.length)) all.length (dset nComing a.all.length a.dir)) nComing = some a.all.length := by rw [dget_dset hR1, if_neg (fun e => hne1 e.symm)]; exact g1
  refine (nx_move hS4.dur rfl good_coming good_check g2).thn (fun x h1 h2 h3 => hG x h1 (fun h0 => h2 (hl4 (hl3 (hl2 (hl1 h0))))) h3) fun c5 l5 hl5 => ?_
  have ok5 := ok_move (c := c5) (l := l5) ok4 good_check g2
  dsimp only at ok5 ⊢
  have hS5 := hS4.frame ok5 rfl rfl fun p hp => rfl
  have inj2 : Inj (dset (nameL (first + PS.length)) all.length (dset nComing a.all.length a.dir)) := dset_inj inj1 _ _ fun p hp _ e => by have := ok3.dirI p hp; simp only at this; omega
  have hR3 := ddel_rises (k := nComing) hR2
  generalize hdir : dset nCheck a.all.length (ddel nComing (dset (nameL (first + PS.length)) all.length (dset nComing a.all.length a.dir))) = dir at *
  have hget : ∀ n, dget dir n = if n = nCheck then some a.all.length else if n = nComing then none else if n = nameL (first + PS.length) then some all.length else dget a.dir n := by
    intro n
    rw [← hdir, dget_dset hR3, dget_ddel hR2, dget_dset hR1, dget_dset hR]
    by_cases h1 : n = nCheck
    · rw [if_pos h1, if_pos h1]
    · rw [if_neg h1, if_neg h1]
      by_cases h2 : n = nComing
      · rw [if_pos h2, if_pos h2]
      · rw [if_neg h2, if_neg h2, if_neg h2]
  have hR4 : Rises dir := by rw [← hdir]; exact dset_rises hR3
  have hmem : ∀ p ∈ dir, dget dir p.1 = some p.2 := fun p hp => dget_mem hR4.nodup hp
  refine (nx_commit hS5.dur rfl).fin (fun x h1 h2 h3 => hG x h1 (fun h0 => h2 (hl5 (hl4 (hl3 (hl2 (hl1 h0)))))) h3) fun c6 l6 hl6 => ?_
  have ok6 := ok_commit (c := c6) (l := l6) ok5
  dsimp only at ok6 ⊢
  have hfiles : ∀ p ∈ dir, (p.1 = nCheck ∧ p.2 = a.all.length) ∨ (p.1 = nameL (first + PS.length) ∧ p.2 = all.length) ∨ (p.1 ≠ nCheck ∧ p.1 ≠ nComing ∧ p ∈ a.dir) := by
    intro p hp
    have := hmem p hp
    rw [hget] at this
    split at this
    · exact .inl ⟨by assumption, by injection this with this; exact this.symm⟩
    · split at this
      · cases this
      · split at this
        · exact .inr (.inl ⟨by assumption, by injection this with this; exact this.symm⟩)
        · exact .inr (.inr ⟨by assumption, by assumption, dget_some this⟩)
  have fl0 : fileL (all ++ [([], [])]) a.all.length = (b, b) := by rw [fileL_add (by omega), f0]
  have flo : ∀ j, j < a.all.length → fileL (all ++ [([], [])]) j = fileL a.all j := fun j hj => by rw [fileL_add (by omega), fo j hj]
  have phi4 : phi (all ++ [([], [])]) = phi all + 16 := phi_add _
  refine hf ⟨a.room, all ++ [([], [])], dir, dir, false, c6, l6, a.keep⟩ rfl rfl (fun h0 => hl6 (hl5 (hl4 (hl3 (hl2 (hl1 h0)))))) (by simp only; omega) ⟨ok6, rfl, ?_, rfl, fun p hp => ?_, ⟨fun p hp => ?_, hR4, by omega, by simp; omega, by simp, ?_, hc, fun j hj => ?_, fun n hn => ?_, ?_, wholeB_stop sumB (by simp [openB])⟩, ?_, hf1, by omega, fun n hn => ?_, fun n h1 h2 => ?_⟩
  · rw [← hdir]
    refine dset_inj (ddel_inj inj2 _) _ _ fun p hp hk e => ?_
    rcases mem_ddel.1 hp with ⟨hp, hk2⟩
    rcases mem_dset.1 hp with rfl | ⟨hp, hk3⟩
    · simp only at e; omega
    · rcases mem_dset.1 hp with rfl | ⟨hp, _⟩
      · exact hk2 rfl
      · have := h.ok.dirI p hp; omega
  · rcases hfiles p hp with ⟨_, e⟩ | ⟨_, e⟩ | ⟨_, _, hp⟩
    · simp only; rw [e, fl0]
    · simp only; rw [e, fileL_new]
    · simp only; rw [flo _ (h.ok.dirI p hp)]; exact h.synced p hp
  · rcases hfiles p hp with ⟨e, _⟩ | ⟨e, _⟩ | ⟨_, _, hp⟩
    · exact .inl e
    · exact .inr (.inr ⟨_, by omega, by omega, e⟩)
    · exact h.log.named p hp
  · refine .inr ⟨a.all.length, by rw [hget, if_pos rfl], ?_⟩
    simp only; rw [fl0, hb]
  · simp only [List.length_singleton] at hj
    obtain rfl : j = 0 := by omega
    refine ⟨all.length, by rw [Nat.add_zero, hget, if_neg hne2, if_neg hne1, if_pos rfl], ?_⟩
    simp only; rw [fileL_new]; simp [sealsB]
  · simp only [List.length_singleton] at hn
    rw [hget, if_neg (nameL_ne_check _), if_neg (nameL_ne_coming _), if_neg fun e => by have := nameL_inj e; omega]
    exact h.log.over n (by omega)
  · intro p hp b' hb'
    rw [List.mem_singleton] at hp
    subst hp
    cases hb'
  · simp only
    rw [hget, if_neg hne3, if_pos rfl]
  · simp only
    rw [hget, if_neg (nameL_ne_check _), if_neg (nameL_ne_coming _), if_neg fun e => by have := nameL_inj e; omega]
    exact h.below n hn
  · simp only
    rw [hget, if_neg (nameL_ne_check _), if_neg (nameL_ne_coming _), if_neg fun e => by have := nameL_inj e; omega]
    obtain ⟨i, hi, _⟩ := h.log.part (n - first) (by omega)
    rw [show first + (n - first) = n by omega] at hi
    rw [hi]; simp
end
end Go.Proofs.YtgjdandnncjegaaGreatDoor

/- What Mark and Open leave of a log, whether or not the power fails in them. In plain Lean; it names no program. -/
namespace Go.Proofs.YtgjdandnncjegaaGreatDoor
open Go Go.Proofs.YtgjdandnncjegaaGreatDoor.St

section
variable {a : AS} {first next : Nat} {chk : Bs} {PS : List (List Bs)} {Q : Bs → List Bs → Prop}
open Classical in
/-- Elder parts go, one behind the other. -/
theorem drops_law (S : List (ByteArray × Nat)) {G : AS × Int → Prop} (h1 : 1 ≤ first) (hN : next ≤ 999999999) (hel : ∀ n, first ≤ n → n < next → dget S (nameL n) ≠ none) :
    ∀ (d k : Nat) (a : AS), first + k + d = next → Sur Q a → Inj a.dir → a.sure = S → (∀ n, dget a.dir n = if ∃ m, first ≤ m ∧ m < first + k ∧ n = nameL m then none else dget S n) →
      (∀ x, x.2 = 9 → a.left ≠ 0 → Aft Q x.1 → G x) →
      (∀ a', a'.room = a.room → a'.keep = a.keep → (a.left = 0 → a'.left = 0) → a'.all = a.all → Sur Q a' → Inj a'.dir → a'.sure = S → (∀ n, dget a'.dir n = if ∃ m, first ≤ m ∧ m < next ∧ n = nameL m then none else dget S n) → G (a', 0)) →
      G (AS.drops (next : Int) ((List.range (d + 1)).map fun j => ((first + (k + j) : Nat) : Int)) a) := by
  intro d
  induction d with
  | zero =>
    intro k a hk hs hi hS hget hG hf
    have e : (List.map (fun j => ((first + (k + j) : Nat) : Int)) (List.range (0 + 1))) = [(next : Int)] := by
      simp [List.range_succ]; omega
    rw [e, AS.drops, if_pos rfl, AS.drops]
    refine hf a rfl rfl id rfl hs hi hS fun n => ?_
    rw [hget, show first + k = next by omega]
  | succ d ih =>
    intro k a hk hs hi hS hget hG hf
    have e : (List.map (fun j => ((first + (k + j) : Nat) : Int)) (List.range (d + 1 + 1))) = ((first + k : Nat) : Int) :: (List.range (d + 1)).map fun j => ((first + (k + 1 + j) : Nat) : Int) := by
      rw [List.range_succ_eq_map, List.map_cons, List.map_map]
      congr 1
      apply List.map_congr_left
      intro j _
      simp only [Function.comp]
      omega
    have hnm : nameI ((first + k : Nat) : Int) = nameL (first + k) := nameI_nat (by omega) (by omega)
    have hgd := good_name (n := first + k) (by omega)
    obtain ⟨i, hgi⟩ : ∃ i, dget a.dir (nameL (first + k)) = some i := by
      have := hel (first + k) (by omega) (by omega)
      rw [hget, if_neg fun ⟨m, h1, h2, h3⟩ => by have := nameL_inj h3; omega]
      cases hd : dget S (nameL (first + k)) with
      | none => exact absurd hd this
      | some i => exact ⟨i, rfl⟩
    rw [e, AS.drops, if_neg (by omega), hnm]
    have hR := hs.ok.dirS
    rcases nx_drop hs.dur hs.on hgd hgi with ⟨h1, h2, h3⟩ | ⟨c1, l1, e1, hl1⟩
    · rw [if_pos (by omega)]
      exact hG _ h1 h2 h3
    · rw [e1, if_neg (by simp)]
      dsimp only
      have ok1 := ok_drop (c := c1) (l := l1) hs.ok (nameL (first + k))
      refine ih (k + 1) _ (by omega) (hs.frame ok1 rfl rfl fun p hp => rfl) (ddel_inj hi _) hS (fun n => ?_) (fun x h1 h2 h3 => hG x h1 (fun h0 => h2 (hl1 h0)) h3) fun a' g1 g2 g3 => hf a' g1 g2 fun h0 => g3 (hl1 h0)
      simp only
      rw [dget_ddel hR, hget]
      by_cases hn : n = nameL (first + k)
      · rw [if_pos hn, if_pos ⟨first + k, by omega, by omega, hn⟩]
      · rw [if_neg hn]
        by_cases hm : ∃ m, first ≤ m ∧ m < first + k ∧ n = nameL m
        · obtain ⟨m, h1, h2, h3⟩ := hm
          rw [if_pos ⟨m, h1, h2, h3⟩, if_pos ⟨m, h1, by omega, h3⟩]
        · rw [if_neg hm, if_neg fun ⟨m, h1, h2, h3⟩ => hm ⟨m, h1, by
            have : m ≠ first + k := fun e => hn (by rw [h3, e])
            omega, h3⟩]
open Classical in
theorem clean_law (h : Half a next chk first) (hQ : Q chk []) {G : AS × Int → Prop} (hG : ∀ x, x.2 = 9 → a.left ≠ 0 → Aft Q x.1 → G x)
    (hf : ∀ a', a'.room = a.room → a'.keep = a.keep → (a.left = 0 → a'.left = 0) → a'.all = a.all → Nrm a' next chk [[]] → G (a', 0)) : G (a.clean next) := by
  have h1 := h.first1
  have h2 := h.firstN
  have h9 := h.log.last9
  simp only [List.length_singleton] at h9
  have hS : Sur Q a := ⟨h.ok, h.on, fun p hp => h.synced p (by rw [← h.sure]; exact hp), by rw [h.sure]; exact h.inj, next, chk, [[]], by rw [h.sure]; exact h.log, by simpa using hQ⟩
  obtain ⟨iN, hgN, hcN⟩ := h.log.part 0 (by simp)
  rw [Nat.add_zero] at hgN
  have hov := h.log.over
  simp only [List.length_singleton] at hov
  have hparts : a.partsL (1 : Nat) = (List.range (next - first + 1)).map fun j => ((first + j : Nat) : Int) := by
    refine partsL_range h.on h.log.rises 1 first (next - first + 1) (Nat.le_refl _) h1 (fun n _ hn => h.below n hn) (by omega) (fun j hj => ?_) fun n hn => hov n (by omega)
    by_cases hj' : first + j < next
    · exact h.elder _ (by omega) hj'
    · rw [show first + j = next by omega, hgN]; simp
  rw [AS.clean, show (1 : Int) = ((1 : Nat) : Int) from rfl, hparts]
  have e0 : ((List.range (next - first + 1)).map fun j => ((first + j : Nat) : Int)) = (List.range (next - first + 1)).map fun j => ((first + (0 + j) : Nat) : Int) := by simp
  rw [e0]
  refine drops_law (Q := Q) a.dir h1 (by omega) h.elder (next - first) 0 a (by omega) hS h.inj h.sure (fun n => by rw [if_neg fun ⟨m, h1, h2, _⟩ => by omega]) (G := fun x => G (thn x fun a => a.commit)) ?_ ?_
  · intro x g1 g2 g3
    rw [thn, if_neg (by omega)]
    exact hG x g1 g2 g3
  · intro a' r1 r2 r3 r4 s1 s2 s3 s4
    rw [thn, if_pos rfl]
    refine (nx_commit s1.dur s1.on).fin (fun x g1 g2 g3 => hG x g1 (fun h0 => g2 (r3 h0)) g3) fun c l hl => ?_
    have ok := ok_commit (c := c) (l := l) s1.ok
    have hsub : ∀ p ∈ a'.dir, p ∈ a.dir := by
      intro p hp
      have := dget_mem s1.ok.dirS.nodup hp
      rw [s4] at this
      split at this
      · cases this
      · exact dget_some this
    have hkeep : ∀ n, (∀ m, m < next → n ≠ nameL m) → dget a'.dir n = dget a.dir n := fun n hn => by
      rw [s4, if_neg fun ⟨m, _, h2, h3⟩ => hn m h2 h3]
    have hkN : dget a'.dir (nameL next) = some iN := by rw [hkeep _ fun m hm e => by have := nameL_inj e; omega, hgN]
    refine hf _ r1 r2 (fun h0 => hl (r3 h0)) r4 ⟨ok, rfl, s2, rfl, fun p hp => ?_, ⟨fun p hp => h.log.named p (hsub p hp), s1.ok.dirS, h.log.first1, h.log.last9, by simp, ?_, h.log.chkL, fun j hj => ?_, fun n hn => ?_, h.log.recs, h.log.tail⟩, ?_, fun n hn => ?_⟩
    · simp only; rw [r4]; exact h.synced p (hsub p hp)
    · rcases h.log.check with ⟨g1, g2⟩ | ⟨i, g1, g2⟩
      · exact .inl ⟨by rw [hkeep _ fun m _ e => nameL_ne_check m e.symm]; exact g1, g2⟩
      · exact .inr ⟨i, by rw [hkeep _ fun m _ e => nameL_ne_check m e.symm]; exact g1, by simp only; rw [r4]; exact g2⟩
    · simp only [List.length_singleton] at hj
      obtain rfl : j = 0 := by omega
      exact ⟨iN, hkN, by simp only; rw [r4]; exact hcN⟩
    · simp only [List.length_singleton] at hn
      rw [hkeep _ fun m hm e => by have := nameL_inj e; omega]
      exact hov n hn
    · simp only; rw [hkeep _ fun m _ e => nameL_ne_coming m e.symm]; exact h.nocom
    · simp only
      rw [s4]
      split
      · rfl
      · rename_i hm
        exact h.below n (by
          apply Classical.byContradiction
          intro hnf
          exact hm ⟨n, by omega, hn, rfl⟩)
theorem mark_law (h : Nrm a first chk PS) {l : AL} (hl : l.last = ((first + PS.length - 1 : Nat) : Int)) (hd : l.dead = false) (hW : ∀ b ∈ l.waits, b.length ≤ 1048512) (h9 : first + PS.length + 2 ≤ 1000000000) {check : Bs} (hc : check.length ≤ 1048512)
    (hr : (phi a.all : Int) + sizeB sumB l.waits + 64 + check.length ≤ a.room) (hQ : ∀ k, k ≤ l.waits.length → Q chk (PS.flatten ++ l.waits.take k)) (hQ' : Q check []) {G : AS × AL × Int → Prop} (hG : ∀ x m, a.left ≠ 0 → Aft Q x → G (x, m, 9))
    (hf : ∀ a' next, a'.room = a.room → a'.keep = a.keep → (a.left = 0 → a'.left = 0) → phi a'.all ≤ phi a.all + sizeB sumB l.waits + 64 + check.length → next ≤ first + PS.length + 1 → Nrm a' next check [[]] →
      G (a', { l with waits := [], last := (next : Int) }, 0)) : G (l.mark a check) := by
  have hm : l.may a = 0 := by rw [AL.may, hd, h.on]; rfl
  rw [AL.mark, if_neg (by omega), if_neg (by omega)]
  refine flush_law (Q := Q) h hl hd hW (by omega) (by omega) hQ (G := fun r => G (if r.2.2 ≠ 0 then r else if 999999999 ≤ r.2.1.last then (r.1, r.2.1, 11)
    else if (r.1.marks (r.2.1.last + 1) check).2 ≠ 0 then ((r.1.marks (r.2.1.last + 1) check).1, r.2.1.told (r.1.marks (r.2.1.last + 1) check).2, (r.1.marks (r.2.1.last + 1) check).2)
    else (((r.1.marks (r.2.1.last + 1) check).1.clean (r.2.1.last + 1)).1, AL.told { r.2.1 with last := r.2.1.last + 1 } ((r.1.marks (r.2.1.last + 1) check).1.clean (r.2.1.last + 1)).2, ((r.1.marks (r.2.1.last + 1) check).1.clean (r.2.1.last + 1)).2))) ?_ ?_
  · intro x m h1 h2
    simp only
    rw [if_pos (by decide)]
    exact hG _ _ h1 h2
  · intro a' PS' r1 r2 r3 r4 hn hfl hlen
    simp only
    have hp : 0 < PS'.length := List.length_pos_iff.2 hn.log.ne
    have hf1 := hn.log.first1
    rw [if_neg (by simp), if_neg (by omega), show (((first + PS'.length - 1 : Nat) : Int) + 1) = ((first + PS'.length : Nat) : Int) by omega]
    refine marks_law (Q := Q) hn (by omega) hc (by omega) (by rw [hfl]; have := hQ l.waits.length (Nat.le_refl _); simpa using this) (G := fun r => G (if r.2 ≠ 0 then (r.1, AL.told { l with waits := [], last := ((first + PS'.length - 1 : Nat) : Int) } r.2, r.2)
      else ((r.1.clean ((first + PS'.length : Nat) : Int)).1, AL.told { l with waits := [], last := ((first + PS'.length : Nat) : Int) } (r.1.clean ((first + PS'.length : Nat) : Int)).2, (r.1.clean ((first + PS'.length : Nat) : Int)).2))) ?_ ?_
    · intro x g1 g2 g3
      rw [if_pos (by omega), g1]
      exact hG _ _ (fun h0 => g2 (r3 h0)) g3
    · intro a2 s1 s2 s3 s4 hh
      simp only
      rw [if_neg (by simp)]
      refine clean_law (Q := Q) hh hQ' (G := fun r => G (r.1, AL.told { l with waits := [], last := ((first + PS'.length : Nat) : Int) } r.2, r.2)) ?_ ?_
      · intro x g1 g2 g3
        rw [g1]
        exact hG _ _ (fun h0 => g2 (s3 (r3 h0))) g3
      · intro a3 t1 t2 t3 t4 hn3
        have := hf a3 (first + PS'.length) (by rw [t1, s1, r1]) (by rw [t2, s2, r2]) (fun h0 => t3 (s3 (r3 h0))) (by rw [t4]; omega) (by omega) hn3
        simpa [AL.told, hd] using this
end
end Go.Proofs.YtgjdandnncjegaaGreatDoor

/- What Open tells of a log, and leaves of it. In plain Lean; it names no program. -/
namespace Go.Proofs.YtgjdandnncjegaaGreatDoor
open Go Go.Proofs.YtgjdandnncjegaaGreatDoor.St

section
variable {a : AS} {first : Nat} {chk : Bs} {PS : List (List Bs)} {Q : Bs → List Bs → Prop} {part : Int}
theorem nrm_parts (h : Nrm a first chk PS) : a.partsL 1 = (List.range PS.length).map fun j => ((first + j : Nat) : Int) :=
  partsL_range h.on h.log.rises 1 first PS.length (Nat.le_refl _) h.log.first1 (fun n _ hn => h.below n hn) h.log.last9 (fun j hj => by obtain ⟨i, h1, _⟩ := h.log.part j hj; rw [h1]; simp) h.log.over
theorem log_parts {tail : Bs} (ho : a.dark = false) (h : LogAt a.dir (now a) first chk PS tail) : a.partsL first = (List.range PS.length).map fun j => ((first + j : Nat) : Int) :=
  partsL_range ho h.rises first first PS.length h.first1 (Nat.le_refl _) (fun n h1 h2 => by omega) h.last9 (fun j hj => by obtain ⟨i, h1, _⟩ := h.part j hj; rw [h1]; simp) h.over
/-- What Open tells of a log, but for what it mends. -/
theorem open_log {tail : Bs} (ho : a.dark = false) (hp : 1 ≤ part ∧ part ≤ 1048576) (h : LogAt a.dir (now a) first chk PS tail) :
    a.openL part = (fun m : AS × Int => if m.2 = 0 then (m.1, 0, some (⟨part, ((first + PS.length - 1 : Nat) : Int), [], false⟩, chk, PS.flatten)) else (m.1, m.2, none))
      (if tail = [] then (a, 0) else thn (a.cut (nameL (first + PS.length - 1)) (sizeB sumB (PS.getD (PS.length - 1) []))) fun a => a.sync (nameL (first + PS.length - 1))) := by
  have hp0 : 0 < PS.length := List.length_pos_iff.2 h.ne
  have hf1 := h.first1
  have h9 := h.last9
  have hlast : lastOf (first : Int) (a.partsL first) = ((first + PS.length - 1 : Nat) : Int) := by
    rw [log_parts ho h, lastOf_range _ _ hp0, show first + (PS.length - 1) = first + PS.length - 1 by omega]
  have hnm : nameI ((first + PS.length - 1 : Nat) : Int) = nameL (first + PS.length - 1) := nameI_nat (by omega) (by omega)
  have hne : a.partsL first ≠ [] := by
    rw [log_parts ho h]
    intro e
    have := congrArg List.length e
    simp at this
    exact h.ne this
  have hc : ¬ (part < 1 ∨ 1048576 < part) := by omega
  have hd : ¬ a.dark = true := by rw [ho]; simp
  rw [AS.openL, if_neg hd, if_neg hc, found_log ho h]
  simp only [gather_log ho h]
  have hm : a.mend first (a.partsL first) (if tail = [] then -1 else (sizeB sumB (PS.getD (PS.length - 1) []) : Int)) =
      (if tail = [] then (a, 0) else thn (a.cut (nameL (first + PS.length - 1)) (sizeB sumB (PS.getD (PS.length - 1) []))) fun a => a.sync (nameL (first + PS.length - 1))) := by
    rw [AS.mend, hlast, hnm]
    by_cases ht : tail = []
    · rw [if_pos ht, if_pos ht, if_neg (by decide), if_neg hne]
    · rw [if_neg ht, if_neg ht, if_pos (by omega)]
  rw [hm, hlast]
theorem open_nrm (h : Nrm a first chk PS) (hp : 1 ≤ part ∧ part ≤ 1048576) : a.openL part = (a, 0, some (⟨part, ((first + PS.length - 1 : Nat) : Int), [], false⟩, chk, PS.flatten)) := by
  rw [open_log h.on hp h.log, if_pos rfl]
  simp
theorem Aft.dur (h : Aft Q a) (ho : a.dark = false) : Dur a (Aft Q) := by
  intro c l
  have hok : ({ a with count := c, left := l } : AS).Ok := h.ok.of_eq rfl rfl rfl rfl
  have e : ({ a with count := c, left := l } : AS).fail a.keep = ⟨a.room, a.all.map (failF a.keep), a.sure, a.sure, true, c, l, a.keep⟩ := by rw [AS.fail, if_neg (by simp [ho])]
  have hf : ∀ p ∈ a.dir, fileL (a.all.map (failF a.keep)) p.2 = fileL a.all p.2 := fun p hp => by rw [fileL_map (h.ok.dirI p hp), failF_synced _ _ (h.synced p hp)]
  have hok' := hok.fail a.keep
  rw [e] at hok' ⊢
  rw [h.sure] at hok' ⊢
  refine ⟨hok', rfl, fun p hp => by simp only; rw [hf p hp]; exact h.synced p hp, h.inj, ?_⟩
  obtain ⟨first, chk, PS, tail, h1, h2⟩ := h.log
  exact ⟨first, chk, PS, tail, h1.congr fun p hp => by show (fileL (a.all.map (failF a.keep)) p.2).1 = _; rw [hf p hp], h2⟩
/-- Cutting what is torn, and making it sure: behind a failure it is as it was. -/
theorem mend_law {tail : Bs} {PS0 : List (List Bs)} {P : List Bs} (h : Aft Q a) (ho : a.dark = false) (hi : Inj a.dir) (hlog : LogAt a.dir (fun i => (fileL a.all i).1) first chk (PS0 ++ [P]) tail) (hQ : Q chk (PS0 ++ [P]).flatten) (ht : tail ≠ [])
    {G : AS × Int → Prop} (hG : ∀ x, x.2 = 9 → a.left ≠ 0 → Aft Q x.1 → Inj x.1.dir → G x)
    (hf : ∀ a', a'.dark = false → (a.left = 0 → a'.left = 0) → a'.room = a.room → Aft Q a' → Inj a'.dir → a'.dir = a.dir → (∃ i, dget a.dir (nameL (first + PS0.length)) = some i ∧ (fileL a'.all i).1 = sealsB sumB P) →
      LogAt a'.dir (fun i => (fileL a'.all i).1) first chk (PS0 ++ [P]) [] → G (a', 0)) :
    G (thn (a.cut (nameL (first + PS0.length)) (sizeB sumB P)) fun a => a.sync (nameL (first + PS0.length))) := by
  have h9 := hlog.last9
  have hf1 := hlog.first1
  simp only [List.length_append, List.length_singleton] at h9
  obtain ⟨i, hg, hc⟩ := hlog.part PS0.length (by simp)
  rw [getD_snoc, if_pos (by simp)] at hc
  have hia := h.ok.dirI _ (dget_some hg)
  have hgd := good_name (n := first + PS0.length) (by omega)
  have hs := h.synced _ (dget_some hg)
  have htl : 0 < tail.length := List.length_pos_iff.2 ht
  have hfl : fileL a.all i = (sealsB sumB P ++ tail, sealsB sumB P ++ tail) := by
    refine Prod.ext hc ?_
    rw [hs]; exact hc
  have hD := h.dur ho
  have hinj : ∀ c l, Inj (({ a with count := c, left := l } : AS).fail a.keep).dir := fun c l => by
    rw [AS.fail, if_neg (by simp [ho])]; simp only; rw [h.sure]; exact hi
  have hD' : Dur a fun x => Aft Q x ∧ Inj x.dir := fun c l => ⟨hD c l, hinj c l⟩
  refine (nx_cut hD' ho hgd hg (by omega) (by show _ ≤ (((fileL a.all i).1.length : Nat) : Int); rw [hfl, List.length_append, sealsB_size]; omega)).thn (fun x h1 h2 h3 => hG x h1 h2 h3.1 h3.2) fun c1 l1 hl1 => ?_
  rw [Int.toNat_natCast]
  have ok1 := ok_cut (c := c1) (l := l1) h.ok i (sizeB sumB P)
  generalize hall : (a.all.modify i fun x => (x.1.take (sizeB sumB P), x.2)) = all at *
  have hfi : fileL all i = (sealsB sumB P, sealsB sumB P ++ tail) := by
    rw [← hall, fileL_at hia, hfl]
    simp only [Prod.mk.injEq, and_true]
    exact List.take_left
  have hfo : ∀ j, j ≠ i → fileL all j = fileL a.all j := fun j hj => by rw [← hall, fileL_mod fun e => hj e.symm]
  have hlen : all.length = a.all.length := by rw [← hall]; simp
  have hfp : ∀ p ∈ a.dir, fileL (all.map (failF a.keep)) p.2 = fileL a.all p.2 := fun p hp => by
    rw [fileL_map (by rw [hlen]; exact h.ok.dirI p hp)]
    by_cases hpi : p.2 = i
    · rw [hpi, hfi, hfl, failF, if_neg (by simp; omega)]
    · rw [hfo _ hpi, failF_synced _ _ (h.synced p hp)]
  have hD2 : Dur ⟨a.room, all, a.dir, a.sure, false, c1, l1, a.keep⟩ fun x => Aft Q x ∧ Inj x.dir := by
    intro c l
    have e : ({ (⟨a.room, all, a.dir, a.sure, false, c1, l1, a.keep⟩ : AS) with count := c, left := l } : AS).fail a.keep = ⟨a.room, all.map (failF a.keep), a.sure, a.sure, true, c, l, a.keep⟩ := rfl
    have hok' := (ok1.of_eq (b := ⟨a.room, all, a.dir, a.sure, false, c, l, a.keep⟩) rfl rfl rfl rfl).fail a.keep
    have e' : (⟨a.room, all, a.dir, a.sure, false, c, l, a.keep⟩ : AS).fail a.keep = ⟨a.room, all.map (failF a.keep), a.sure, a.sure, true, c, l, a.keep⟩ := rfl
    rw [e'] at hok'
    show Aft Q (({ (⟨a.room, all, a.dir, a.sure, false, c1, l1, a.keep⟩ : AS) with count := c, left := l } : AS).fail a.keep) ∧ _
    rw [e]
    rw [h.sure] at hok' ⊢
    exact ⟨⟨hok', rfl, fun p hp => by simp only; rw [hfp p hp]; exact h.synced p hp, hi, first, chk, PS0 ++ [P], tail, hlog.congr fun p hp => by show (fileL (all.map (failF a.keep)) p.2).1 = _; rw [hfp p hp], hQ⟩, hi⟩
  refine (nx_sync hD2 rfl hgd hg).fin (fun x h1 h2 h3 => hG x h1 (fun h0 => h2 (hl1 h0)) h3.1 h3.2) fun c2 l2 hl2 => ?_
  have ok2 := ok_sync (c := c2) (l := l2) ok1 i
  dsimp only at ok2 ⊢
  have hgi : fileL (all.modify i fun x => (x.1, x.1)) i = (sealsB sumB P, sealsB sumB P) := by rw [fileL_at (by omega), hfi]
  have hgo : ∀ j, j ≠ i → fileL (all.modify i fun x => (x.1, x.1)) j = fileL a.all j := fun j hj => by rw [fileL_mod fun e => hj e.symm, hfo j hj]
  have hlog' : LogAt a.dir (fun i' => (fileL (all.modify i fun x => (x.1, x.1)) i').1) first chk (PS0 ++ [P]) [] :=
    hlog.last hi hg (by rw [hgi]; simp) (fun j hj => by rw [hgo j hj]) (hlog.recs P (by simp)) (wholeB_stop sumB (by simp [openB]))
  refine hf _ rfl (fun h0 => hl2 (hl1 h0)) rfl ⟨ok2, h.sure, fun p hp => ?_, hi, first, chk, PS0 ++ [P], [], hlog', hQ⟩ hi rfl ⟨i, hg, by simp only; rw [hgi]⟩ hlog'
  by_cases hpi : p.2 = i
  · simp only; rw [hpi, hgi]
  · simp only; rw [hgo _ hpi]; exact h.synced p hp
theorem aft_open (h : Aft Q a) (ho : a.dark = false) (hi : Inj a.dir) (hp : 1 ≤ part ∧ part ≤ 1048576) {G : AS × Int × Option (AL × Bs × List Bs) → Prop} (hG : ∀ x, a.left ≠ 0 → Aft Q x → Inj x.dir → G (x, 9, none))
    (hf : ∀ a' l c rs, (a.left = 0 → a'.left = 0) → Aft Q a' → Inj a'.dir → Q c rs → G (a', 0, some (l, c, rs))) : G (a.openL part) := by
  obtain ⟨first, chk, PS, tail, h1, h2⟩ := h.log
  rw [open_log ho hp h1]
  by_cases ht : tail = []
  · rw [if_pos ht]
    exact hf a _ chk _ id h hi h2
  · rw [if_neg ht]
    obtain ⟨PS0, P, rfl⟩ : ∃ PS0 P, PS = PS0 ++ [P] := ⟨PS.dropLast, PS.getLast h1.ne, (List.dropLast_concat_getLast h1.ne).symm⟩
    have e1 : first + (PS0 ++ [P]).length - 1 = first + PS0.length := by simp
    have e2 : (PS0 ++ [P]).getD ((PS0 ++ [P]).length - 1) [] = P := by simp
    rw [e1, e2]
    refine mend_law h ho hi h1 h2 ht (G := fun m => G (if m.2 = 0 then (m.1, 0, some (⟨part, ((first + PS0.length : Nat) : Int), [], false⟩, chk, (PS0 ++ [P]).flatten)) else (m.1, m.2, none))) ?_ ?_
    · intro x g1 g2 g3 g4
      rw [if_neg (by omega), g1]
      exact hG _ g2 g3 g4
    · intro a' g1 g2 _ g3 g4 _ _ _
      rw [if_pos rfl]
      exact hf a' _ chk _ g2 g3 g4 h2
end
end Go.Proofs.YtgjdandnncjegaaGreatDoor

/- A ledger in use, in plain Lean: what it holds, how much room it may take; its calls. It names no program. -/
namespace Go.Proofs.YtgjdandnncjegaaGreatDoor
open Go Go.Proofs.YtgjdandnncjegaaGreatDoor.St

/-- The ledger l over the store a: the checkpoint chk, the records recs, those that wait; it took at most k bytes. -/
structure Fine (room : Int) (a : AS) (l : AL) (chk : Bs) (recs waits : List Bs) (k c : Nat) : Prop where
  ex : ∃ first PS, Nrm a first chk PS ∧ l.last = ((first + PS.length - 1 : Nat) : Int) ∧ PS.flatten = recs ∧ first + PS.length ≤ c
  dead : l.dead = false
  wt : l.waits = waits
  ln : ∀ b ∈ waits, b.length ≤ 1048512
  rm : a.room = room
  kb : phi a.all + sizeB sumB waits ≤ k
theorem sizeB_snoc (l : List Bs) (b : Bs) : sizeB sumB (l ++ [b]) = sizeB sumB l + (b.length + 8) := by
  rw [sizeB, sealsB_append, List.length_append]
  simp [sealsB, sealB_len, sizeB]
section
variable {room : Int} {a : AS} {l : AL} {chk : Bs} {recs waits : List Bs} {k n : Nat} {Q : Bs → List Bs → Prop}
theorem Fine.mono (h : Fine room a l chk recs waits k n) {k' n' : Nat} (hk : k ≤ k') (hn : n ≤ n') : Fine room a l chk recs waits k' n' :=
  ⟨let ⟨f, PS, r1, r2, r3, r4⟩ := h.ex; ⟨f, PS, r1, r2, r3, Nat.le_trans r4 hn⟩, h.dead, h.wt, h.ln, h.rm, Nat.le_trans h.kb hk⟩
theorem Fine.may (h : Fine room a l chk recs waits k n) : l.may a = 0 := by
  obtain ⟨f, PS, hn, _⟩ := h.ex
  rw [AL.may, h.dead, hn.on]; rfl
theorem Fine.add (h : Fine room a l chk recs waits k n) {b : Bs} (hb : b.length ≤ 1048512) (hw : waits.length < 1000) : l.add a b = ({ l with waits := waits ++ [b] }, 0) ∧ Fine room a { l with waits := waits ++ [b] } chk recs (waits ++ [b]) (k + b.length + 8) n := by
  have hm := h.may
  refine ⟨by rw [AL.add, if_neg (by omega), if_neg (by rw [h.wt]; omega), h.wt], ?_⟩
  obtain ⟨f, PS, h1, h2, h3, h4⟩ := h.ex
  have hk := h.kb
  refine ⟨⟨f, PS, h1, h2, h3, by omega⟩, h.dead, rfl, fun x hx => ?_, h.rm, by rw [sizeB_snoc]; omega⟩
  rcases List.mem_append.1 hx with hx | hx
  · exact h.ln x hx
  · rw [List.mem_singleton] at hx; subst hx; exact hb
theorem Fine.flush (h : Fine room a l chk recs waits k n) (hr : (k : Int) + 16 ≤ room) (hk : n ≤ 1000000) (hQ : ∀ j, j ≤ waits.length → Q chk (recs ++ waits.take j)) :
    (∃ x m, l.flush a = (x, m, 9) ∧ a.left ≠ 0 ∧ Aft Q x) ∨ ∃ a' l', l.flush a = (a', l', 0) ∧ Fine room a' l' chk (recs ++ waits) [] (k + 16) (n + 2) ∧ l'.part = l.part ∧ (a.left = 0 → a'.left = 0) ∧ a'.keep = a.keep := by
  obtain ⟨f, PS, h1, h2, h3, h4⟩ := h.ex
  have hk' := h.kb
  have hroom := h.rm
  subst h3
  have hw := h.wt
  subst hw
  refine flush_law (Q := Q) h1 h2 h.dead h.ln (by omega) (by omega) hQ (G := fun r => (∃ x m, r = (x, m, 9) ∧ a.left ≠ 0 ∧ Aft Q x) ∨ ∃ a' l', r = (a', l', 0) ∧ Fine room a' l' chk (PS.flatten ++ l.waits) [] (k + 16) (n + 2) ∧ l'.part = l.part ∧ (a.left = 0 → a'.left = 0) ∧ a'.keep = a.keep) ?_ ?_
  · exact fun x m g1 g2 => .inl ⟨x, m, rfl, g1, g2⟩
  · exact fun a' PS' g1 g2 g3 g4 g5 g6 g7 => .inr ⟨a', _, rfl, ⟨⟨f, PS', g5, rfl, g6, by omega⟩, h.dead, rfl, fun _ hb => (nomatch hb), by rw [g1, hroom], by simp only [sizeB, sealsB, List.length_nil] at *; omega⟩, rfl, g3, g2⟩
theorem Fine.mark (h : Fine room a l chk recs waits k n) {c : Bs} (hc : c.length ≤ 1048512) (hr : (k : Int) + 64 + c.length ≤ room) (hk : n ≤ 1000000) (hQ : ∀ j, j ≤ waits.length → Q chk (recs ++ waits.take j)) (hQ' : Q c []) :
    (∃ x m, l.mark a c = (x, m, 9) ∧ a.left ≠ 0 ∧ Aft Q x) ∨ ∃ a' l', l.mark a c = (a', l', 0) ∧ Fine room a' l' c [] [] (k + 64 + c.length) (n + 2) ∧ l'.part = l.part ∧ (l'.parts a').length = 1 ∧ (a.left = 0 → a'.left = 0) ∧ a'.keep = a.keep := by
  obtain ⟨f, PS, h1, h2, h3, h4⟩ := h.ex
  have hk' := h.kb
  have hroom := h.rm
  subst h3
  have hw := h.wt
  subst hw
  refine mark_law (Q := Q) h1 h2 h.dead h.ln (by omega) hc (by omega) hQ hQ' (G := fun r => (∃ x m, r = (x, m, 9) ∧ a.left ≠ 0 ∧ Aft Q x) ∨ ∃ a' l', r = (a', l', 0) ∧ Fine room a' l' c [] [] (k + 64 + c.length) (n + 2) ∧ l'.part = l.part ∧ (l'.parts a').length = 1 ∧ (a.left = 0 → a'.left = 0) ∧ a'.keep = a.keep) ?_ ?_
  · exact fun x m g1 g2 => .inl ⟨x, m, rfl, g1, g2⟩
  · refine fun a' next g1 g2 g3 g4 g5 g6 => .inr ⟨a', _, rfl, ⟨⟨next, [[]], g6, rfl, rfl, by simp only [List.length_singleton]; omega⟩, h.dead, rfl, fun _ hb => (nomatch hb), by rw [g1, hroom], by simp only [sizeB, sealsB, List.length_nil] at *; omega⟩, rfl, ?_, g3, g2⟩
    rw [AL.parts, if_neg (by rw [g6.on]; simp), nrm_parts g6]
    simp
theorem Fine.open (h : Fine room a l chk recs waits k n) {part : Int} (hp : 1 ≤ part ∧ part ≤ 1048576) : ∃ m, a.openL part = (a, 0, some (m, chk, recs)) := by
  obtain ⟨f, PS, h1, h2, h3, h4⟩ := h.ex
  subst h3
  exact ⟨_, open_nrm h1 hp⟩
theorem Fine.nrm (h : Fine room a l chk recs waits k n) : ∃ first PS, Nrm a first chk PS ∧ PS.flatten = recs := by
  obtain ⟨f, PS, h1, h2, h3, h4⟩ := h.ex
  exact ⟨f, PS, h1, h3⟩
theorem numI_le {m f z : Int} {x : ByteArray} (hm : m ≤ f) (h : numI f x = some z) : numI m x = some z := by
  unfold numI at h ⊢
  cases hb : numB x with
  | none => rw [hb] at h; cases h
  | some n =>
    rw [hb] at h
    simp only [Option.bind] at h ⊢
    split at h
    · rw [if_pos (by omega)]; exact h
    · cases h
theorem numsOf_le (m f : Int) (hm : m ≤ f) : ∀ l : List ByteArray, (numsOf f l).length ≤ (numsOf m l).length
  | [] => Nat.le_refl _
  | x :: l => by
    have ih := numsOf_le m f hm l
    rw [numsOf_eq, numsOf_eq] at ih ⊢
    rw [List.filterMap_cons, List.filterMap_cons]
    cases h1 : numI f x with
    | none =>
      cases h2 : numI m x with
      | none => exact ih
      | some z => simp only [List.length_cons]; omega
    | some z =>
      rw [numI_le hm h1]
      simp only [List.length_cons]; omega
theorem Fine.parts (h : Fine room a l chk recs waits k n) (hn : n ≤ 1000) (f : Int) : (a.partsL f).length ≤ 1000 := by
  obtain ⟨first, PS, h1, _, _, h4⟩ := h.ex
  have e := nrm_parts h1
  have e1 : (a.partsL 1).length = PS.length := by rw [e]; simp
  by_cases hf : 1 ≤ f
  · have := numsOf_le 1 f hf a.names
    rw [AS.partsL, List.length_mergeSort] at e1 ⊢
    omega
  · have e2 : numsOf f a.names = numsOf 1 a.names := by
      rw [numsOf_eq, numsOf_eq]
      congr 1
      funext x
      unfold numI
      cases hb : numB x with
      | none => rfl
      | some z =>
        have := (numB_some hb).2
        simp only [Option.bind]
        rw [if_pos (by omega), if_pos (by omega)]
    rw [AS.partsL, e2, ← AS.partsL, e1]
    omega
/-- A power cut at rest. -/
theorem Fine.fail (h : Fine room a l chk recs waits k n) (hQ : Q chk recs) (keep : Int) : Aft Q (a.fail keep) := by
  obtain ⟨f, PS, h1, h2, h3, h4⟩ := h.ex
  subst h3
  have := (h1.sur hQ)
  have h5 : Sur Q { a with keep := keep } := ⟨this.ok.of_eq rfl rfl rfl rfl, this.on, this.synced, this.inj, this.log⟩
  have h6 := h5.dur a.count a.left
  have e : (({ a with keep := keep, count := a.count, left := a.left } : AS).fail keep) = { (a.fail keep) with keep := keep } := by
    unfold AS.fail
    rw [h1.on]
    rfl
  have h7 : Aft Q { (a.fail keep) with keep := keep } := by rw [← e]; exact h6
  exact ⟨h7.ok.of_eq rfl rfl rfl rfl, h7.sure, h7.synced, h7.inj, h7.log⟩
end
/-- The first Open of a new store. -/
theorem fine_new {room : Int} (hr : 16 ≤ room) (hr2 : room ≤ 1073741824) {part : Int} (hp : 1 ≤ part ∧ part ≤ 1048576) : ∃ a l, (AS.new room).openL part = (a, 0, some (l, [], [])) ∧ Fine room a l [] [] [] 16 2 ∧ a.left = 0 ∧ l.part = part := by
  have hn : nameI 1 = nameL 1 := nameI_nat (n := 1) (by omega) (by omega)
  have hg := good_name (n := 1) (by omega)
  have hk : (AS.new room).known (nameL 1) = 3 := known_not rfl hg rfl
  have hm : (AS.new room).make (nameL 1) = (⟨room, [([], [])], [(nameL 1, 0)], [], false, 1, 0, 0⟩, 0) := by
    rw [AS.make, if_neg (by omega), if_pos hk, if_neg (by show ¬ room - ((0 : Nat) : Int) < 16; omega)]
    rfl
  have hf : (AS.new room).found = some (1, []) := by rw [AS.found, read_not rfl good_check rfl, if_pos (by decide)]
  have hpl : (AS.new room).partsL 1 = [] := by
    have : (AS.new room).names = [] := rfl
    rw [AS.partsL, this]; simp [numsOf]
  have hmd : (AS.new room).mend 1 [] (-1) = (⟨room, [([], [])], [(nameL 1, 0)], [(nameL 1, 0)], false, 2, 0, 0⟩, 0) := by
    rw [AS.mend, if_neg (by decide), if_pos rfl, hn, hm]; rfl
  have ho : (AS.new room).openL part = (⟨room, [([], [])], [(nameL 1, 0)], [(nameL 1, 0)], false, 2, 0, 0⟩, 0, some (⟨part, 1, [], false⟩, [], [])) := by
    have hc : ¬ (part < 1 ∨ 1048576 < part) := by omega
    have hd : ¬ (AS.new room).dark = true := by simp [AS.new]
    rw [AS.openL, if_neg hd, if_neg hc, hf]
    simp only [hpl, AS.gather, hmd]
    rfl
  refine ⟨_, _, ho, ⟨⟨1, [[]], ⟨?_, rfl, by simp [Inj], rfl, fun p hp => ?_, ⟨fun p hp => ?_, by simp [Rises], Nat.le_refl _, by simp, by simp, .inl ⟨?_, rfl, rfl⟩, by simp, fun j hj => ?_, fun n hn => ?_, fun p hp => ?_, wholeB_stop sumB (by simp [openB])⟩, ?_, fun n hn => ?_⟩, rfl, rfl, by simp⟩, rfl, rfl, fun _ h => (nomatch h), rfl, by simp [phi, sizeB, sealsB]⟩, rfl, rfl⟩
  · refine ⟨by simp only; omega, hr2, fun f hf => ?_, by simp [Rises], by simp [Rises], fun p hp => ?_, fun p hp => ?_, by simp, by simp, fun p hp => ?_, fun p hp => ?_⟩
    all_goals simp only [List.mem_singleton] at *
    · subst hf; simp
    · subst hp; simp
    · subst hp; simp
    · subst hp; exact hg
    · subst hp; exact hg
  · simp only [List.mem_singleton] at hp; subst hp; rfl
  · simp only [List.mem_singleton] at hp; subst hp; exact .inr (.inr ⟨1, by omega, by omega, rfl⟩)
  · exact dget_none.2 fun p hp => by simp only [List.mem_singleton] at hp; subst hp; exact nameL_ne_check 1
  · simp only [List.length_singleton] at hj
    obtain rfl : j = 0 := by omega
    exact ⟨0, dget_mem (by simp) (by simp), rfl⟩
  · simp only [List.length_singleton] at hn
    exact dget_none.2 fun p hp => by simp only [List.mem_singleton] at hp; subst hp; exact fun e => by have := nameL_inj e; omega
  · rw [List.mem_singleton] at hp; subst hp; intro b hb; cases hb
  · exact dget_none.2 fun p hp => by simp only [List.mem_singleton] at hp; subst hp; exact nameL_ne_coming 1
  · exact dget_none.2 fun p hp => by simp only [List.mem_singleton] at hp; subst hp; exact fun e => by have := nameL_inj e; omega
end Go.Proofs.YtgjdandnncjegaaGreatDoor

/- The formulas of functions, printed by a program of mine (gen.py) out of the translation. -/
namespace Go.Proofs.YtgjdandnncjegaaGreatDoor
open Go Go.Proofs.YtgjdandnncjegaaGreatDoor.St
open _root_.Go.Value (string int bool slice pointer agg tuple map func nilFunc iface)
open _root_.Go.World (cell? frozen? setCell alloc drew)
open _root_.Go.Addr (add)
open _root_.Go.Obj (cells)
open _root_.Go.IntKind (wrap i64 u64 i32 u32 u8)
set_option maxRecDepth 100000

/-- staith/staithlaw12.lives -/
noncomputable def C10 : Code := (Tryz.f10.body).getD .skip
def pl10 : Nat → Plan := fun _ => .done
def ls10 : Nat → List (Nat × LT) := fun _ => []
def W10 (w : World) (R : Value → World → Prop) : Prop :=
  (Ca Tryz.prog (8) (Array.mk [int i64 10000]) (w) (fun v0 => (fun w1 =>
(∃ p2 : Option Addr, ((v0 = pointer p2) ∧ (Ca Tryz.prog (9) (Array.mk [pointer p2, int i64 100]) (w1) (fun v3 => (fun w4 =>
(∃ p5 : Option Addr, (∃ p6 : Option Addr, (∃ n7 : Nat, (∃ n8 : Nat, (∃ p9 : Option Addr, (∃ n10 : Nat, (∃ n11 : Nat, (∃ x12 : Int, ((v3 = tuple (Array.mk (List.reverse [int i64 x12, slice p9 n10 n11, slice p6 n7 n8, pointer p5]))) ∧ (ifK (x12 != 0)
(R (bool false) (w4))
(atW (alloc w4 (cells (Array.mk [int u8 97]) 5 (0, 0))) (fun w13 =>
(∃ v14 : Value, (∃ w15 : World, ((Sem.run Tryz.prog (convert 27 27 (slice (some (nw w4)) 1 1)) w13 = Result.ok v14 w15) ∧ (∃ p16 : Option Addr, (∃ n17 : Nat, (∃ n18 : Nat, ((v14 = slice p16 n17 n18) ∧ (Ca Tryz.prog (11) (Array.mk [pointer p5, slice p16 n17 n18]) (w15) (fun v19 => (fun w20 =>
(∃ x21 : Int, ((v19 = int i64 x21) ∧ (ifK (x21 != 0)
(R (bool false) (w20))
(atW (alloc w20 (cells (Array.mk [int u8 98]) 5 (0, 0))) (fun w22 =>
(∃ v23 : Value, (∃ w24 : World, ((Sem.run Tryz.prog (convert 27 27 (slice (some (nw w20)) 1 1)) w22 = Result.ok v23 w24) ∧ (∃ p25 : Option Addr, (∃ n26 : Nat, (∃ n27 : Nat, ((v23 = slice p25 n26 n27) ∧ (Ca Tryz.prog (11) (Array.mk [pointer p5, slice p25 n26 n27]) (w24) (fun v28 => (fun w29 =>
(∃ x30 : Int, ((v28 = int i64 x30) ∧ (ifK (x30 != 0)
(R (bool false) (w29))
(Ca Tryz.prog (22) (Array.mk [pointer p5]) (w29) (fun v31 => (fun w32 =>
(∃ x33 : Int, ((v31 = int i64 x33) ∧ (ifK (x33 != 2)
(R (bool false) (w32))
(Ca Tryz.prog (13) (Array.mk [pointer p5]) (w32) (fun v34 => (fun w35 =>
(∃ x36 : Int, ((v34 = int i64 x36) ∧ (ifK (x36 != 0)
(R (bool false) (w35))
(atW (alloc w35 (cells (Array.mk [int u8 99]) 5 (0, 0))) (fun w37 =>
(∃ v38 : Value, (∃ w39 : World, ((Sem.run Tryz.prog (convert 27 27 (slice (some (nw w35)) 1 1)) w37 = Result.ok v38 w39) ∧ (∃ p40 : Option Addr, (∃ n41 : Nat, (∃ n42 : Nat, ((v38 = slice p40 n41 n42) ∧ (Ca Tryz.prog (19) (Array.mk [pointer p5, slice p40 n41 n42]) (w39) (fun v43 => (fun w44 =>
(∃ x45 : Int, ((v43 = int i64 x45) ∧ (ifK (x45 != 0)
(R (bool false) (w44))
(atW (alloc w44 (cells (Array.mk [int u8 100]) 5 (0, 0))) (fun w46 =>
(∃ v47 : Value, (∃ w48 : World, ((Sem.run Tryz.prog (convert 27 27 (slice (some (nw w44)) 1 1)) w46 = Result.ok v47 w48) ∧ (∃ p49 : Option Addr, (∃ n50 : Nat, (∃ n51 : Nat, ((v47 = slice p49 n50 n51) ∧ (Ca Tryz.prog (11) (Array.mk [pointer p5, slice p49 n50 n51]) (w48) (fun v52 => (fun w53 =>
(∃ x54 : Int, ((v52 = int i64 x54) ∧ (ifK (x54 != 0)
(R (bool false) (w53))
(Ca Tryz.prog (13) (Array.mk [pointer p5]) (w53) (fun v55 => (fun w56 =>
(∃ x57 : Int, ((v55 = int i64 x57) ∧ (ifK (x57 != 0)
(R (bool false) (w56))
(Ca Tryz.prog (9) (Array.mk [pointer p2, int i64 100]) (w56) (fun v58 => (fun w59 =>
(∃ p60 : Option Addr, (∃ p61 : Option Addr, (∃ n62 : Nat, (∃ n63 : Nat, (∃ p64 : Option Addr, (∃ n65 : Nat, (∃ n66 : Nat, (∃ x67 : Int, ((v58 = tuple (Array.mk (List.reverse [int i64 x67, slice p64 n65 n66, slice p61 n62 n63, pointer p60]))) ∧ (ifK (x67 == 0)
(∃ v68 : Value, (∃ w69 : World, ((Sem.run Tryz.prog (convert 27 9 (slice p61 n62 n63)) w59 = Result.ok v68 w69) ∧ (∃ s70 : ByteArray, ((v68 = string s70) ∧ (ifK (ByteArray.toList s70 == ByteArray.toList (ByteArray.mk #[99]))
(ifK ((↑n65 : Int) == 1)
(∃ a71 : Addr, ((p64 = some a71) ∧ (((0 : Int) ≤ 0) ∧ (((0 : Int) < (↑n65 : Int)) ∧ (∃ p72 : Option Addr, (∃ n73 : Nat, (∃ n74 : Nat, ((cell? w69 (add a71 0) = some (slice p72 n73 n74)) ∧ (∃ v75 : Value, (∃ w76 : World, ((Sem.run Tryz.prog (convert 27 9 (slice p72 n73 n74)) w69 = Result.ok v75 w76) ∧ (∃ s77 : ByteArray, ((v75 = string s77) ∧ (ifK (ByteArray.toList s77 == ByteArray.toList (ByteArray.mk #[100]))
(Ca Tryz.prog (17) (Array.mk [int i64 12]) (w76) (fun v78 => (fun w79 =>
(∃ s80 : ByteArray, ((v78 = string s80) ∧ (R (bool (ByteArray.toList s80 == ByteArray.toList (ByteArray.mk #[108, 111, 103, 46, 49, 50]))) (w79)))))))
(R (bool false) (w76))))))))))))))))
(R (bool false) (w69)))
(R (bool false) (w69))))))))
(R (bool false) (w59)))))))))))))))))))))))))))))))))))))))))))))))))))))))))))))))))))))))))))))))))))))))))))))))))))))))))))))))
theorem ca10 (w : World) (R : Value → World → Prop) (h : W10  w R) : Ca Tryz.prog 10 ⟨[]⟩ w R :=
  caB (fn := Tryz.f10) (pl := pl10) (ls := ls10) Tryz.func10 (by kernel_rfl) (by kernel_rfl) h

/-- staith/staithlaw12.same -/
noncomputable def C16 : Code := (Tryz.f16.body).getD .skip
def pl16 : Nat → Plan
  | 6 => (.quiet 0 (.quiet 1 (.quiet 2 (.quiet 3 (.quiet 4 (.quiet 5 (.quiet 6 (.quiet 7 (.eff 8 [] (.quiet 9 .done))))))))))
  | _ => .done
def ls16 : Nat → List (Nat × LT)
  | 6 => [(13, (.one (.int .i64)))]
  | _ => []
def W16 (a_a : Option Addr) (a_l : Nat) (_a_c : Nat) (ba : Option Addr) (bl : Nat) (_bc : Nat) (w : World) (R : Value → World → Prop) : Prop :=
  (ifK ((↑a_l : Int) != (↑bl : Int))
(R (bool false) (w))
(∃ z0 : Int → World → Prop, (∃ z1 : Int → World → Nat, ((z0 (0) (w)) ∧ (∀ (_ : Nat → Value), (∀ (x3 : Int), (∀ (w4 : World), ((z0 (x3) (w4)) → (ifK (decide (x3 < (↑a_l : Int)))
(atW (drew w4) (fun w5 =>
(∃ a6 : Addr, ((a_a = some a6) ∧ (((0 : Int) ≤ x3) ∧ (((x3 : Int) < (↑a_l : Int)) ∧ (∃ p7 : Option Addr, (∃ n8 : Nat, (∃ n9 : Nat, ((cell? w5 (add a6 (Int.toNat x3 * 1)) = some (slice p7 n8 n9)) ∧ (∃ a10 : Addr, ((ba = some a10) ∧ (((0 : Int) ≤ x3) ∧ (((x3 : Int) < (↑bl : Int)) ∧ (∃ p11 : Option Addr, (∃ n12 : Nat, (∃ n13 : Nat, ((cell? w5 (add a10 (Int.toNat x3 * 1)) = some (slice p11 n12 n13)) ∧ (Ca Tryz.prog (21) (Array.mk [slice p7 n8 n9, slice p11 n12 n13]) (w5) (fun v14 => (fun w15 =>
(∃ b16 : Bool, ((v14 = bool b16) ∧ (ifK (!b16)
(R (bool false) (w15))
((z0 (wrap i64 (x3 + 1)) (w15)) ∧ (z1 (wrap i64 (x3 + 1)) w15 < z1 x3 w4))))))))))))))))))))))))))
(R (bool true) (w4)))))))))))
theorem ca16 (a_a : Option Addr) (a_l : Nat) (a_c : Nat) (ba : Option Addr) (bl : Nat) (bc : Nat) (w : World) (R : Value → World → Prop) (h : W16 a_a a_l a_c ba bl bc w R) : Ca Tryz.prog 16 ⟨[(.slice a_a a_l a_c), (.slice ba bl bc)]⟩ w R :=
  caB (fn := Tryz.f16) (pl := pl16) (ls := ls16) Tryz.func16 (by kernel_rfl) (by kernel_rfl) h

/-- staith/staithlaw12.light -/
noncomputable def C23 : Code := (Tryz.f23.body).getD .skip
def pl23 : Nat → Plan := fun _ => .done
def ls23 : Nat → List (Nat × LT)
  | 4 => [(3, (.one (.int .i64))), (8, (.one (.int .i64)))]
  | _ => []
def W23 (actsa : Option Addr) (actsl : Nat) (_actsc : Nat) (w : World) (R : Value → World → Prop) : Prop :=
  (∃ z0 : Int → Int → World → Prop, (∃ z1 : Int → Int → World → Nat, ((z0 (0) (0) (w)) ∧ (∀ (_ : Nat → Value), (∀ (x3 : Int), (∀ (x4 : Int), (∀ (w5 : World), ((z0 (x3) (x4) (w5)) → (ifK (decide (x4 < (↑actsl : Int)))
(∃ a6 : Addr, ((actsa = some a6) ∧ (((0 : Int) ≤ x4) ∧ (((x4 : Int) < (↑actsl : Int)) ∧ (∃ x7 : Int, ((cell? w5 (add (add a6 (Int.toNat x4 * 5)) 0) = some (int i64 x7)) ∧ (∃ p8 : Option Addr, (∃ n9 : Nat, (∃ n10 : Nat, ((cell? w5 (add (add a6 (Int.toNat x4 * 5)) 1) = some (slice p8 n9 n10)) ∧ (∃ s11 : ByteArray, ((cell? w5 (add (add a6 (Int.toNat x4 * 5)) 2) = some (string s11)) ∧ (∃ x12 : Int, ((cell? w5 (add (add a6 (Int.toNat x4 * 5)) 3) = some (int i64 x12)) ∧ (∃ x13 : Int, ((cell? w5 (add (add a6 (Int.toNat x4 * 5)) 4) = some (int i64 x13)) ∧ (atW (alloc w5 (cells (Array.mk [int i64 0, slice none 0 0, string (ByteArray.mk #[]), int i64 0, int i64 0]) 54 (0, 0))) (fun w14 =>
(st1 (add (nw w5) 0) (int i64 x7) w14 (fun w16 =>
(st1 (add (nw w5) 1) (slice p8 n9 n10) w16 (fun w18 =>
(st1 (add (nw w5) 2) (string s11) w18 (fun w20 =>
(st1 (add (nw w5) 3) (int i64 x12) w20 (fun w22 =>
(st1 (add (nw w5) 4) (int i64 x13) w22 (fun w24 =>
(∃ p25 : Option Addr, (∃ n26 : Nat, (∃ n27 : Nat, ((cell? w24 (add (nw w5) 1) = some (slice p25 n26 n27)) ∧ (((50 : Int) ≠ 0) ∧ (ifK (decide (wrap i64 (x3 + wrap i64 (1 + wrap i64 (Int.tdiv (↑n26 : Int) 50))) > 200))
(R (bool false) (w24))
((z0 (wrap i64 (x3 + wrap i64 (1 + wrap i64 (Int.tdiv (↑n26 : Int) 50)))) (wrap i64 (x4 + 1)) (w24)) ∧ (z1 (wrap i64 (x3 + wrap i64 (1 + wrap i64 (Int.tdiv (↑n26 : Int) 50)))) (wrap i64 (x4 + 1)) w24 < z1 x3 x4 w5))))))))))))))))))))))))))))))))))))
(R (bool true) (w5)))))))))))
theorem ca23 (actsa : Option Addr) (actsl : Nat) (actsc : Nat) (w : World) (R : Value → World → Prop) (h : W23 actsa actsl actsc w R) : Ca Tryz.prog 23 ⟨[(.slice actsa actsl actsc)]⟩ w R :=
  caB (fn := Tryz.f23) (pl := pl23) (ls := ls23) Tryz.func23 (by kernel_rfl) (by kernel_rfl) h

/-- staith/staithlaw12.LedgerNames -/
noncomputable def C4 : Code := (Tryz.f4.body).getD .skip
def pl4 : Nat → Plan := fun _ => .done
def ls4 : Nat → List (Nat × LT)
  | 5 => [(0, .agg [])]
  | 15 => [(14, (.one (.int .i64)))]
  | _ => []
def W4 (n : Int) (m : Int) (ba : Option Addr) (bl : Nat) (bc : Nat) (w : World) (R : Value → World → Prop) : Prop :=
  (ifK (decide ((↑bl : Int) > 1000))
(Ca Tryz.prog (10) (Array.mk []) (w) (fun v0 => (fun w1 =>
(∃ b2 : Bool, ((v0 = bool b2) ∧ (R (bool b2) (w1)))))))
(Ca Tryz.prog (17) (Array.mk [int i64 n]) (w) (fun v3 => (fun w4 =>
(∃ s5 : ByteArray, ((v3 = string s5) ∧ (Ca Tryz.prog (17) (Array.mk [int i64 m]) (w4) (fun v6 => (fun w7 =>
(∃ s8 : ByteArray, ((v6 = string s8) ∧ (∃ z9 : World → Prop, ((ifK (decide (n < 1))
(ifK (!(ByteArray.toList s5 == ByteArray.toList (ByteArray.mk #[])) == true)
(R (bool false) (w7))
(ifK (!ByteArray.toList s5 == ByteArray.toList (ByteArray.mk #[]))
(ifK (!(ByteArray.toList s5 == ByteArray.toList s8) == (n == m))
(R (bool false) (w7))
(Ca Tryz.prog (18) (Array.mk [string s5]) (w7) (fun v10 => (fun w11 =>
(∃ b12 : Bool, ((v10 = bool b12) ∧ (ifK (!b12)
(R (bool false) (w11))
(z9 (w11)))))))))
(z9 (w7))))
(ifK (!(ByteArray.toList s5 == ByteArray.toList (ByteArray.mk #[])) == decide (n > 999999999))
(R (bool false) (w7))
(ifK (!ByteArray.toList s5 == ByteArray.toList (ByteArray.mk #[]))
(ifK (!(ByteArray.toList s5 == ByteArray.toList s8) == (n == m))
(R (bool false) (w7))
(Ca Tryz.prog (18) (Array.mk [string s5]) (w7) (fun v13 => (fun w14 =>
(∃ b15 : Bool, ((v13 = bool b15) ∧ (ifK (!b15)
(R (bool false) (w14))
(z9 (w14)))))))))
(z9 (w7))))) ∧ (∀ (_ : Nat → Value), (∀ (w17 : World), ((z9 (w17)) → (Ca Tryz.prog (8) (Array.mk [int i64 100000]) (w17) (fun v18 => (fun w19 =>
(∃ p20 : Option Addr, ((v18 = pointer p20) ∧ (Ca Tryz.prog (9) (Array.mk [pointer p20, int i64 64]) (w19) (fun v21 => (fun w22 =>
(∃ p23 : Option Addr, (∃ p24 : Option Addr, (∃ n25 : Nat, (∃ n26 : Nat, (∃ p27 : Option Addr, (∃ n28 : Nat, (∃ n29 : Nat, (∃ x30 : Int, ((v21 = tuple (Array.mk (List.reverse [int i64 x30, slice p27 n28 n29, slice p24 n25 n26, pointer p23]))) ∧ (ifK (x30 != 0)
(R (bool false) (w22))
(∃ z31 : Int → World → Prop, (∃ z32 : Int → World → Nat, ((z31 (0) (w22)) ∧ (∀ (_ : Nat → Value), (∀ (x34 : Int), (∀ (w35 : World), ((z31 (x34) (w35)) → (ifK (decide (x34 < 5))
(Ca Tryz.prog (11) (Array.mk [pointer p23, slice ba bl bc]) (w35) (fun v36 => (fun w37 =>
(∃ x38 : Int, ((v36 = int i64 x38) ∧ (ifK (x38 != 0)
(R (bool false) (w37))
(Ca Tryz.prog (13) (Array.mk [pointer p23]) (w37) (fun v39 => (fun w40 =>
(∃ x41 : Int, ((v39 = int i64 x41) ∧ (ifK (x41 != 0)
(R (bool false) (w40))
((z31 (wrap i64 (x34 + 1)) (w40)) ∧ (z32 (wrap i64 (x34 + 1)) w40 < z32 x34 w35))))))))))))))
(Ca Tryz.prog (19) (Array.mk [pointer p23, slice ba bl bc]) (w35) (fun v42 => (fun w43 =>
(∃ x44 : Int, ((v42 = int i64 x44) ∧ (ifK (x44 != 0)
(R (bool false) (w43))
(Ca Tryz.prog (20) (Array.mk [pointer p23]) (w43) (fun v45 => (fun w46 =>
(∃ p47 : Option Addr, (∃ n48 : Nat, (∃ n49 : Nat, ((v45 = slice p47 n48 n49) ∧ (ifK ((↑n48 : Int) != 1)
(R (bool false) (w46))
(Ca Tryz.prog (9) (Array.mk [pointer p20, int i64 64]) (w46) (fun v50 => (fun w51 =>
(∃ p52 : Option Addr, (∃ p53 : Option Addr, (∃ n54 : Nat, (∃ n55 : Nat, (∃ p56 : Option Addr, (∃ n57 : Nat, (∃ n58 : Nat, (∃ x59 : Int, ((v50 = tuple (Array.mk (List.reverse [int i64 x59, slice p56 n57 n58, slice p53 n54 n55, pointer p52]))) ∧ (ifK (x59 == 0)
(Ca Tryz.prog (21) (Array.mk [slice p53 n54 n55, slice ba bl bc]) (w51) (fun v60 => (fun w61 =>
(∃ b62 : Bool, ((v60 = bool b62) ∧ (ifK (b62)
(ifK ((↑n57 : Int) == 0)
(Ca Tryz.prog (10) (Array.mk []) (w61) (fun v63 => (fun w64 =>
(∃ b65 : Bool, ((v63 = bool b65) ∧ (R (bool b65) (w64)))))))
(R (bool false) (w61)))
(R (bool false) (w61))))))))
(R (bool false) (w51)))))))))))))))))))))))))))))))))))))))))))))))))))))))))))))))))))))))
theorem ca4 (n : Int) (m : Int) (ba : Option Addr) (bl : Nat) (bc : Nat) (w : World) (R : Value → World → Prop) (h : W4 n m ba bl bc w R) : Ca Tryz.prog 4 ⟨[(.int .i64 n), (.int .i64 m), (.slice ba bl bc)]⟩ w R :=
  caB (fn := Tryz.f4) (pl := pl4) (ls := ls4) Tryz.func4 (by kernel_rfl) (by kernel_rfl) h

/-- staith/staithlaw12.LedgerNone -/
noncomputable def C5 : Code := (Tryz.f5.body).getD .skip
def pl5 : Nat → Plan := fun _ => .done
def ls5 : Nat → List (Nat × LT)
  | 4 => [(13, (.one (.int .i64)))]
  | _ => []
def W5 (ba : Option Addr) (bl : Nat) (bc : Nat) (n : Int) (w : World) (R : Value → World → Prop) : Prop :=
  (atW (alloc w (cells (Array.mk [pointer none, int i64 0, int i64 0, slice none 0 0, bool false]) 47 (0, 0))) (fun w0 =>
(∃ z1 : Int → World → Prop, (∃ z2 : Int → World → Nat, ((z1 (0) (w0)) ∧ (∀ (_ : Nat → Value), (∀ (x4 : Int), (∀ (w5 : World), ((z1 (x4) (w5)) → (ifK (decide (x4 < 2))
(∃ v6 : Value, (∃ w7 : World, ((Sem.run Tryz.prog (Instr.index 48 (agg (Array.mk [pointer none, pointer (some (nw w))])) (int i64 x4)) w5 = Result.ok v6 w7) ∧ (∃ p8 : Option Addr, ((v6 = pointer p8) ∧ (Ca Tryz.prog (11) (Array.mk [pointer p8, slice ba bl bc]) (w7) (fun v9 => (fun w10 =>
(∃ x11 : Int, ((v9 = int i64 x11) ∧ (ifK (x11 != 1)
(R (bool false) (w10))
(Ca Tryz.prog (13) (Array.mk [pointer p8]) (w10) (fun v12 => (fun w13 =>
(∃ x14 : Int, ((v12 = int i64 x14) ∧ (ifK (x14 != 1)
(R (bool false) (w13))
(Ca Tryz.prog (19) (Array.mk [pointer p8, slice ba bl bc]) (w13) (fun v15 => (fun w16 =>
(∃ x17 : Int, ((v15 = int i64 x17) ∧ (ifK (x17 != 1)
(R (bool false) (w16))
(Ca Tryz.prog (22) (Array.mk [pointer p8]) (w16) (fun v18 => (fun w19 =>
(∃ x20 : Int, ((v18 = int i64 x20) ∧ (Ca Tryz.prog (20) (Array.mk [pointer p8]) (w19) (fun v21 => (fun w22 =>
(∃ p23 : Option Addr, (∃ n24 : Nat, (∃ n25 : Nat, ((v21 = slice p23 n24 n25) ∧ (ifK (wrap i64 (x20 + (↑n24 : Int)) != 0)
(R (bool false) (w22))
((z1 (wrap i64 (x4 + 1)) (w22)) ∧ (z2 (wrap i64 (x4 + 1)) w22 < z2 x4 w5))))))))))))))))))))))))))))))))))))))
(Ca Tryz.prog (9) (Array.mk [pointer none, int i64 n]) (w5) (fun v26 => (fun w27 =>
(∃ p28 : Option Addr, (∃ p29 : Option Addr, (∃ n30 : Nat, (∃ n31 : Nat, (∃ p32 : Option Addr, (∃ n33 : Nat, (∃ n34 : Nat, (∃ x35 : Int, ((v26 = tuple (Array.mk (List.reverse [int i64 x35, slice p32 n33 n34, slice p29 n30 n31, pointer p28]))) ∧ (ifK (Option.isNone p28)
(ifK (x35 == 1)
(Ca Tryz.prog (10) (Array.mk []) (w27) (fun v36 => (fun w37 =>
(∃ b38 : Bool, ((v36 = bool b38) ∧ (R (bool b38) (w37)))))))
(R (bool false) (w27)))
(R (bool false) (w27)))))))))))))))))))))))))
theorem ca5 (ba : Option Addr) (bl : Nat) (bc : Nat) (n : Int) (w : World) (R : Value → World → Prop) (h : W5 ba bl bc n w R) : Ca Tryz.prog 5 ⟨[(.slice ba bl bc), (.int .i64 n)]⟩ w R :=
  caB (fn := Tryz.f5) (pl := pl5) (ls := ls5) Tryz.func5 (by kernel_rfl) (by kernel_rfl) h

/-- staith/staithlaw12.LedgerTells -/
noncomputable def C6 : Code := (Tryz.f6.body).getD .skip
def pl6 : Nat → Plan := fun _ => .done
def ls6 : Nat → List (Nat × LT)
  | 14 => [(11, (.one .slice)), (12, (.one .slice)), (13, (.one .slice)), (41, (.one (.int .i64)))]
  | 19 => [(0, .agg []), (11, (.one .slice)), (12, (.one .slice)), (13, (.one .slice))]
  | _ => []
def W6 (actsa : Option Addr) (actsl : Nat) (actsc : Nat) (part : Int) (w : World) (R : Value → World → Prop) : Prop :=
  (Ca Tryz.prog (23) (Array.mk [slice actsa actsl actsc]) (w) (fun v0 => (fun w1 =>
(∃ b2 : Bool, ((v0 = bool b2) ∧ (ifK (!b2)
(Ca Tryz.prog (10) (Array.mk []) (w1) (fun v3 => (fun w4 =>
(∃ b5 : Bool, ((v3 = bool b5) ∧ (R (bool b5) (w4)))))))
(((500 : Int) ≠ 0) ∧ (Ca Tryz.prog (8) (Array.mk [int i64 1048576]) (w1) (fun v6 => (fun w7 =>
(∃ p8 : Option Addr, ((v6 = pointer p8) ∧ (Ca Tryz.prog (9) (Array.mk [pointer p8, int i64 (wrap i64 (1 + wrap i64 (Int.tmod part 500)))]) (w7) (fun v9 => (fun w10 =>
(∃ p11 : Option Addr, (∃ p12 : Option Addr, (∃ n13 : Nat, (∃ n14 : Nat, (∃ p15 : Option Addr, (∃ n16 : Nat, (∃ n17 : Nat, (∃ x18 : Int, ((v9 = tuple (Array.mk (List.reverse [int i64 x18, slice p15 n16 n17, slice p12 n13 n14, pointer p11]))) ∧ (ifK (x18 != 0)
(R (bool false) (w10))
(∃ z19 : Option Addr → Nat → Nat → Option Addr → Nat → Nat → Option Addr → Nat → Nat → Int → World → Prop, (∃ z20 : Option Addr → Nat → Nat → Option Addr → Nat → Nat → Option Addr → Nat → Nat → Int → World → Nat, ((z19 (none) (0) (0) (none) (0) (0) (none) (0) (0) (0) (w10)) ∧ (∀ (_ : Nat → Value), (∀ (p22 : Option Addr), (∀ (n23 : Nat), (∀ (n24 : Nat), (∀ (p25 : Option Addr), (∀ (n26 : Nat), (∀ (n27 : Nat), (∀ (p28 : Option Addr), (∀ (n29 : Nat), (∀ (n30 : Nat), (∀ (x31 : Int), (∀ (w32 : World), ((z19 (p22) (n23) (n24) (p25) (n26) (n27) (p28) (n29) (n30) (x31) (w32)) → (ifK (decide (x31 < (↑actsl : Int)))
(∃ a33 : Addr, ((actsa = some a33) ∧ (((0 : Int) ≤ x31) ∧ (((x31 : Int) < (↑actsl : Int)) ∧ (∃ x34 : Int, ((cell? w32 (add (add a33 (Int.toNat x31 * 5)) 0) = some (int i64 x34)) ∧ (∃ p35 : Option Addr, (∃ n36 : Nat, (∃ n37 : Nat, ((cell? w32 (add (add a33 (Int.toNat x31 * 5)) 1) = some (slice p35 n36 n37)) ∧ (∃ s38 : ByteArray, ((cell? w32 (add (add a33 (Int.toNat x31 * 5)) 2) = some (string s38)) ∧ (∃ x39 : Int, ((cell? w32 (add (add a33 (Int.toNat x31 * 5)) 3) = some (int i64 x39)) ∧ (∃ x40 : Int, ((cell? w32 (add (add a33 (Int.toNat x31 * 5)) 4) = some (int i64 x40)) ∧ (atW (alloc w32 (cells (Array.mk [int i64 0, slice none 0 0, string (ByteArray.mk #[]), int i64 0, int i64 0]) 54 (0, 0))) (fun w41 =>
(st1 (add (nw w32) 0) (int i64 x34) w41 (fun w43 =>
(st1 (add (nw w32) 1) (slice p35 n36 n37) w43 (fun w45 =>
(st1 (add (nw w32) 2) (string s38) w45 (fun w47 =>
(st1 (add (nw w32) 3) (int i64 x39) w47 (fun w49 =>
(st1 (add (nw w32) 4) (int i64 x40) w49 (fun w51 =>
(∃ z52 : Option Addr → Nat → Nat → Option Addr → Nat → Nat → Option Addr → Nat → Nat → World → Prop, ((∃ x53 : Int, ((cell? w51 (add (nw w32) 0) = some (int i64 x53)) ∧ (ifK (x53 == 0)
(∃ p54 : Option Addr, (∃ n55 : Nat, (∃ n56 : Nat, ((cell? w51 (add (nw w32) 1) = some (slice p54 n55 n56)) ∧ (Ca Tryz.prog (11) (Array.mk [pointer p11, slice p54 n55 n56]) (w51) (fun v57 => (fun w58 =>
(∃ x59 : Int, ((v57 = int i64 x59) ∧ (ifK (x59 != 0)
(R (bool false) (w58))
(∃ p60 : Option Addr, (∃ n61 : Nat, (∃ n62 : Nat, ((cell? w58 (add (nw w32) 1) = some (slice p60 n61 n62)) ∧ (atW (alloc w58 (cells (Array.mk [slice p60 n61 n62]) 27 (0, 0))) (fun w63 =>
(∃ v64 : Value, (∃ w65 : World, ((Sem.run Tryz.prog (Builtin.append_ (Array.mk [22, 22]) 22 (Array.mk [slice p28 n29 n30, slice (some (nw w58)) 1 1])) w63 = Result.ok v64 w65) ∧ (∃ p66 : Option Addr, (∃ n67 : Nat, (∃ n68 : Nat, ((v64 = slice p66 n67 n68) ∧ (z52 (p22) (n23) (n24) (p25) (n26) (n27) (p66) (n67) (n68) (w65)))))))))))))))))))))))))
(ifK (x53 == 1)
(Ca Tryz.prog (13) (Array.mk [pointer p11]) (w51) (fun v69 => (fun w70 =>
(∃ x71 : Int, ((v69 = int i64 x71) ∧ (ifK (x71 != 0)
(R (bool false) (w70))
(∃ v72 : Value, (∃ w73 : World, ((Sem.run Tryz.prog (Builtin.append_ (Array.mk [22, 22]) 22 (Array.mk [slice p25 n26 n27, slice p28 n29 n30])) w70 = Result.ok v72 w73) ∧ (∃ p74 : Option Addr, (∃ n75 : Nat, (∃ n76 : Nat, ((v72 = slice p74 n75 n76) ∧ (z52 (p22) (n23) (n24) (p74) (n75) (n76) (none) (0) (0) (w73)))))))))))))))
(ifK (x53 == 2)
(∃ p77 : Option Addr, (∃ n78 : Nat, (∃ n79 : Nat, ((cell? w51 (add (nw w32) 1) = some (slice p77 n78 n79)) ∧ (Ca Tryz.prog (19) (Array.mk [pointer p11, slice p77 n78 n79]) (w51) (fun v80 => (fun w81 =>
(∃ x82 : Int, ((v80 = int i64 x82) ∧ (ifK (x82 != 0)
(R (bool false) (w81))
(Ca Tryz.prog (20) (Array.mk [pointer p11]) (w81) (fun v83 => (fun w84 =>
(∃ p85 : Option Addr, (∃ n86 : Nat, (∃ n87 : Nat, ((v83 = slice p85 n86 n87) ∧ (ifK ((↑n86 : Int) != 1)
(R (bool false) (w84))
(∃ p88 : Option Addr, (∃ n89 : Nat, (∃ n90 : Nat, ((cell? w84 (add (nw w32) 1) = some (slice p88 n89 n90)) ∧ (z52 (p88) (n89) (n90) (none) (0) (0) (none) (0) (0) (w84))))))))))))))))))))))))
(z52 (p22) (n23) (n24) (p25) (n26) (n27) (p28) (n29) (n30) (w51))))))) ∧ (∀ (_ : Nat → Value), (∀ (p92 : Option Addr), (∀ (n93 : Nat), (∀ (n94 : Nat), (∀ (p95 : Option Addr), (∀ (n96 : Nat), (∀ (n97 : Nat), (∀ (p98 : Option Addr), (∀ (n99 : Nat), (∀ (n100 : Nat), (∀ (w101 : World), ((z52 (p92) (n93) (n94) (p95) (n96) (n97) (p98) (n99) (n100) (w101)) → (Ca Tryz.prog (22) (Array.mk [pointer p11]) (w101) (fun v102 => (fun w103 =>
(∃ x104 : Int, ((v102 = int i64 x104) ∧ (ifK (x104 != (↑n99 : Int))
(R (bool false) (w103))
(Ca Tryz.prog (9) (Array.mk [pointer p8, int i64 (wrap i64 (1 + wrap i64 (Int.tmod part 500)))]) (w103) (fun v105 => (fun w106 =>
(∃ p107 : Option Addr, (∃ p108 : Option Addr, (∃ n109 : Nat, (∃ n110 : Nat, (∃ p111 : Option Addr, (∃ n112 : Nat, (∃ n113 : Nat, (∃ x114 : Int, ((v105 = tuple (Array.mk (List.reverse [int i64 x114, slice p111 n112 n113, slice p108 n109 n110, pointer p107]))) ∧ (ifK (x114 != 0)
(R (bool false) (w106))
(Ca Tryz.prog (21) (Array.mk [slice p108 n109 n110, slice p92 n93 n94]) (w106) (fun v115 => (fun w116 =>
(∃ b117 : Bool, ((v115 = bool b117) ∧ (ifK (!b117)
(R (bool false) (w116))
(Ca Tryz.prog (16) (Array.mk [slice p111 n112 n113, slice p95 n96 n97]) (w116) (fun v118 => (fun w119 =>
(∃ b120 : Bool, ((v118 = bool b120) ∧ (ifK (!b120)
(R (bool false) (w119))
((z19 (p92) (n93) (n94) (p95) (n96) (n97) (p98) (n99) (n100) (wrap i64 (x31 + 1)) (w119)) ∧ (z20 p92 n93 n94 p95 n96 n97 p98 n99 n100 (wrap i64 (x31 + 1)) w119 < z20 p22 n23 n24 p25 n26 n27 p28 n29 n30 x31 w32)))))))))))))))))))))))))))))))))))))))))))))))))))))))))))))))))))))))))))
(Ca Tryz.prog (10) (Array.mk []) (w32) (fun v121 => (fun w122 =>
(∃ b123 : Bool, ((v121 = bool b123) ∧ (R (bool b123) (w122)))))))))))))))))))))))))))))))))))))))))))))))))
theorem ca6 (actsa : Option Addr) (actsl : Nat) (actsc : Nat) (part : Int) (w : World) (R : Value → World → Prop) (h : W6 actsa actsl actsc part w R) : Ca Tryz.prog 6 ⟨[(.slice actsa actsl actsc), (.int .u64 part)]⟩ w R :=
  caB (fn := Tryz.f6) (pl := pl6) (ls := ls6) Tryz.func6 (by kernel_rfl) (by kernel_rfl) h

/-- staith/staithlaw12.LedgerKeeps -/
noncomputable def C7 : Code := (Tryz.f7.body).getD .skip
def pl7 : Nat → Plan := fun _ => .done
def ls7 : Nat → List (Nat × LT)
  | 13 => [(0, .agg []), (12, (.one .slice)), (13, (.one .slice)), (14, (.one .slice)), (15, (.one .slice)), (16, (.one .bool))]
  | 15 => [(12, (.one .slice)), (13, (.one .slice)), (14, (.one .slice)), (15, (.one .slice)), (16, (.one .bool)), (57, (.one (.int .i64)))]
  | 21 => [(0, .agg []), (12, (.one .slice)), (13, (.one .slice)), (14, (.one .slice)), (15, (.one .slice)), (16, (.one .bool)), (19, (.one (.int .i64)))]
  | 33 => [(0, .agg [])]
  | 37 => [(0, .agg [])]
  | 46 => [(0, .agg [])]
  | _ => []
def W7 (actsa : Option Addr) (actsl : Nat) (actsc : Nat) (c0 : Int) (c1 : Int) (again0 : Int) (again1 : Int) (w : World) (R : Value → World → Prop) : Prop :=
  (atW (alloc w (cells (Array.mk [int u64 c0, int i64 c1]) 57 (0, 0))) (fun w0 =>
(atW (alloc w0 (cells (Array.mk [int u64 again0, int i64 again1]) 57 (0, 0))) (fun w1 =>
(Ca Tryz.prog (23) (Array.mk [slice actsa actsl actsc]) (w1) (fun v2 => (fun w3 =>
(∃ b4 : Bool, ((v2 = bool b4) ∧ (ifK (!b4)
(Ca Tryz.prog (10) (Array.mk []) (w3) (fun v5 => (fun w6 =>
(∃ b7 : Bool, ((v5 = bool b7) ∧ (R (bool b7) (w6)))))))
(Ca Tryz.prog (8) (Array.mk [int i64 1048576]) (w3) (fun v8 => (fun w9 =>
(∃ p10 : Option Addr, ((v8 = pointer p10) ∧ (Ca Tryz.prog (9) (Array.mk [pointer p10, int i64 80]) (w9) (fun v11 => (fun w12 =>
(∃ p13 : Option Addr, (∃ p14 : Option Addr, (∃ n15 : Nat, (∃ n16 : Nat, (∃ p17 : Option Addr, (∃ n18 : Nat, (∃ n19 : Nat, (∃ x20 : Int, ((v11 = tuple (Array.mk (List.reverse [int i64 x20, slice p17 n18 n19, slice p14 n15 n16, pointer p13]))) ∧ (ifK (x20 != 0)
(R (bool false) (w12))
(∃ x21 : Int, ((cell? w12 (add (nw w) 0) = some (int u64 x21)) ∧ (((60 : Int) ≠ 0) ∧ (∃ x22 : Int, ((cell? w12 (add (nw w) 1) = some (int i64 x22)) ∧ (Ca Tryz.prog (24) (Array.mk [pointer p10, int i64 (wrap i64 (1 + wrap i64 (Int.tmod x21 60))), int i64 x22]) (w12) (fun v23 => (fun w24 =>
(∃ x25 : Int, ((v23 = int i64 x25) ∧ (ifK (x25 != 0)
(R (bool false) (w24))
(∃ z26 : Option Addr → Nat → Nat → Option Addr → Nat → Nat → Option Addr → Nat → Nat → Option Addr → Nat → Nat → Bool → World → Prop, ((∃ z27 : Option Addr → Nat → Nat → Option Addr → Nat → Nat → Option Addr → Nat → Nat → Option Addr → Nat → Nat → Bool → Int → World → Prop, (∃ z28 : Option Addr → Nat → Nat → Option Addr → Nat → Nat → Option Addr → Nat → Nat → Option Addr → Nat → Nat → Bool → Int → World → Nat, ((z27 (none) (0) (0) (none) (0) (0) (none) (0) (0) (none) (0) (0) (false) (0) (w24)) ∧ (∀ (_ : Nat → Value), (∀ (p30 : Option Addr), (∀ (n31 : Nat), (∀ (n32 : Nat), (∀ (p33 : Option Addr), (∀ (n34 : Nat), (∀ (n35 : Nat), (∀ (p36 : Option Addr), (∀ (n37 : Nat), (∀ (n38 : Nat), (∀ (p39 : Option Addr), (∀ (n40 : Nat), (∀ (n41 : Nat), (∀ (b42 : Bool), (∀ (x43 : Int), (∀ (w44 : World), ((z27 (p30) (n31) (n32) (p33) (n34) (n35) (p36) (n37) (n38) (p39) (n40) (n41) (b42) (x43) (w44)) → (ifK (decide (x43 < (↑actsl : Int)))
(∃ a45 : Addr, ((actsa = some a45) ∧ (((0 : Int) ≤ x43) ∧ (((x43 : Int) < (↑actsl : Int)) ∧ (∃ x46 : Int, ((cell? w44 (add (add a45 (Int.toNat x43 * 5)) 0) = some (int i64 x46)) ∧ (∃ p47 : Option Addr, (∃ n48 : Nat, (∃ n49 : Nat, ((cell? w44 (add (add a45 (Int.toNat x43 * 5)) 1) = some (slice p47 n48 n49)) ∧ (∃ s50 : ByteArray, ((cell? w44 (add (add a45 (Int.toNat x43 * 5)) 2) = some (string s50)) ∧ (∃ x51 : Int, ((cell? w44 (add (add a45 (Int.toNat x43 * 5)) 3) = some (int i64 x51)) ∧ (∃ x52 : Int, ((cell? w44 (add (add a45 (Int.toNat x43 * 5)) 4) = some (int i64 x52)) ∧ (atW (alloc w44 (cells (Array.mk [int i64 0, slice none 0 0, string (ByteArray.mk #[]), int i64 0, int i64 0]) 54 (0, 0))) (fun w53 =>
(st1 (add (nw w44) 0) (int i64 x46) w53 (fun w55 =>
(st1 (add (nw w44) 1) (slice p47 n48 n49) w55 (fun w57 =>
(st1 (add (nw w44) 2) (string s50) w57 (fun w59 =>
(st1 (add (nw w44) 3) (int i64 x51) w59 (fun w61 =>
(st1 (add (nw w44) 4) (int i64 x52) w61 (fun w63 =>
(∃ z64 : Option Addr → Nat → Nat → Option Addr → Nat → Nat → Option Addr → Nat → Nat → Option Addr → Nat → Nat → Bool → Int → World → Prop, ((∃ x65 : Int, ((cell? w63 (add (nw w44) 0) = some (int i64 x65)) ∧ (ifK (x65 == 0)
(∃ p66 : Option Addr, (∃ n67 : Nat, (∃ n68 : Nat, ((cell? w63 (add (nw w44) 1) = some (slice p66 n67 n68)) ∧ (Ca Tryz.prog (11) (Array.mk [pointer p13, slice p66 n67 n68]) (w63) (fun v69 => (fun w70 =>
(∃ x71 : Int, ((v69 = int i64 x71) ∧ (ifK (x71 == 0)
(∃ p72 : Option Addr, (∃ n73 : Nat, (∃ n74 : Nat, ((cell? w70 (add (nw w44) 1) = some (slice p72 n73 n74)) ∧ (atW (alloc w70 (cells (Array.mk [slice p72 n73 n74]) 27 (0, 0))) (fun w75 =>
(∃ v76 : Value, (∃ w77 : World, ((Sem.run Tryz.prog (Builtin.append_ (Array.mk [22, 22]) 22 (Array.mk [slice p36 n37 n38, slice (some (nw w70)) 1 1])) w75 = Result.ok v76 w77) ∧ (∃ p78 : Option Addr, (∃ n79 : Nat, (∃ n80 : Nat, ((v76 = slice p78 n79 n80) ∧ (z64 (p30) (n31) (n32) (p33) (n34) (n35) (p78) (n79) (n80) (p39) (n40) (n41) (b42) (x71) (w77)))))))))))))))
(z64 (p30) (n31) (n32) (p33) (n34) (n35) (p36) (n37) (n38) (p39) (n40) (n41) (b42) (x71) (w70))))))))))))
(ifK (x65 == 1)
(Ca Tryz.prog (13) (Array.mk [pointer p13]) (w63) (fun v81 => (fun w82 =>
(∃ x83 : Int, ((v81 = int i64 x83) ∧ (ifK (x83 == 0)
(∃ v84 : Value, (∃ w85 : World, ((Sem.run Tryz.prog (Builtin.append_ (Array.mk [22, 22]) 22 (Array.mk [slice p33 n34 n35, slice p36 n37 n38])) w82 = Result.ok v84 w85) ∧ (∃ p86 : Option Addr, (∃ n87 : Nat, (∃ n88 : Nat, ((v84 = slice p86 n87 n88) ∧ (z64 (p30) (n31) (n32) (p86) (n87) (n88) (none) (0) (0) (p39) (n40) (n41) (b42) (x83) (w85)))))))))
(z64 (p30) (n31) (n32) (p33) (n34) (n35) (p36) (n37) (n38) (p39) (n40) (n41) (b42) (x83) (w82))))))))
(ifK (x65 == 2)
(∃ p89 : Option Addr, (∃ n90 : Nat, (∃ n91 : Nat, ((cell? w63 (add (nw w44) 1) = some (slice p89 n90 n91)) ∧ (Ca Tryz.prog (19) (Array.mk [pointer p13, slice p89 n90 n91]) (w63) (fun v92 => (fun w93 =>
(∃ x94 : Int, ((v92 = int i64 x94) ∧ (ifK (x94 == 0)
(∃ p95 : Option Addr, (∃ n96 : Nat, (∃ n97 : Nat, ((cell? w93 (add (nw w44) 1) = some (slice p95 n96 n97)) ∧ (z64 (p95) (n96) (n97) (none) (0) (0) (none) (0) (0) (p39) (n40) (n41) (b42) (x94) (w93))))))
(∃ p98 : Option Addr, (∃ n99 : Nat, (∃ n100 : Nat, ((cell? w93 (add (nw w44) 1) = some (slice p98 n99 n100)) ∧ (z64 (p30) (n31) (n32) (p33) (n34) (n35) (p36) (n37) (n38) (p98) (n99) (n100) (true) (x94) (w93))))))))))))))))
(z64 (p30) (n31) (n32) (p33) (n34) (n35) (p36) (n37) (n38) (p39) (n40) (n41) (b42) (0) (w63))))))) ∧ (∀ (_ : Nat → Value), (∀ (p102 : Option Addr), (∀ (n103 : Nat), (∀ (n104 : Nat), (∀ (p105 : Option Addr), (∀ (n106 : Nat), (∀ (n107 : Nat), (∀ (p108 : Option Addr), (∀ (n109 : Nat), (∀ (n110 : Nat), (∀ (p111 : Option Addr), (∀ (n112 : Nat), (∀ (n113 : Nat), (∀ (b114 : Bool), (∀ (x115 : Int), (∀ (w116 : World), ((z64 (p102) (n103) (n104) (p105) (n106) (n107) (p108) (n109) (n110) (p111) (n112) (n113) (b114) (x115) (w116)) → (ifK (x115 != 0)
(z26 (p102) (n103) (n104) (p105) (n106) (n107) (p108) (n109) (n110) (p111) (n112) (n113) (b114) (w116))
((z27 (p102) (n103) (n104) (p105) (n106) (n107) (p108) (n109) (n110) (p111) (n112) (n113) (b114) (wrap i64 (x43 + 1)) (w116)) ∧ (z28 p102 n103 n104 p105 n106 n107 p108 n109 n110 p111 n112 n113 b114 (wrap i64 (x43 + 1)) w116 < z28 p30 n31 n32 p33 n34 n35 p36 n37 n38 p39 n40 n41 b42 x43 w44))))))))))))))))))))))))))))))))))))))))))))))))))
(z26 (p30) (n31) (n32) (p33) (n34) (n35) (p36) (n37) (n38) (p39) (n40) (n41) (b42) (w44))))))))))))))))))))))) ∧ (∀ (_ : Nat → Value), (∀ (p118 : Option Addr), (∀ (n119 : Nat), (∀ (n120 : Nat), (∀ (p121 : Option Addr), (∀ (n122 : Nat), (∀ (n123 : Nat), (∀ (p124 : Option Addr), (∀ (n125 : Nat), (∀ (n126 : Nat), (∀ (p127 : Option Addr), (∀ (n128 : Nat), (∀ (n129 : Nat), (∀ (b130 : Bool), (∀ (w131 : World), ((z26 (p118) (n119) (n120) (p121) (n122) (n123) (p124) (n125) (n126) (p127) (n128) (n129) (b130) (w131)) → (∃ z132 : World → Prop, ((Ca Tryz.prog (25) (Array.mk [pointer p10]) (w131) (fun v133 => (fun w134 =>
(∃ b135 : Bool, ((v133 = bool b135) ∧ (ifK (b135)
(∃ x136 : Int, ((cell? w134 (add (nw w) 1) = some (int i64 x136)) ∧ (Ca Tryz.prog (26) (Array.mk [pointer p10, int i64 x136]) (w134) (fun v137 => (fun w138 =>
((v137 = tuple (Array.mk (List.reverse []))) ∧ (z132 (w138))))))))
(z132 (w134)))))))) ∧ (∀ (_ : Nat → Value), (∀ (w140 : World), ((z132 (w140)) → (Ca Tryz.prog (27) (Array.mk [pointer p10]) (w140) (fun v141 => (fun w142 =>
((v141 = tuple (Array.mk (List.reverse []))) ∧ (∃ x143 : Int, ((cell? w142 (add (nw w0) 0) = some (int u64 x143)) ∧ (((6 : Int) ≠ 0) ∧ (∃ x144 : Int, ((cell? w142 (add (nw w0) 1) = some (int i64 x144)) ∧ (Ca Tryz.prog (24) (Array.mk [pointer p10, int i64 (wrap i64 (Int.tmod x143 6)), int i64 x144]) (w142) (fun v145 => (fun w146 =>
(∃ x147 : Int, ((v145 = int i64 x147) ∧ (∃ z148 : World → Prop, ((Ca Tryz.prog (9) (Array.mk [pointer p10, int i64 80]) (w146) (fun v149 => (fun w150 =>
(∃ p151 : Option Addr, (∃ p152 : Option Addr, (∃ n153 : Nat, (∃ n154 : Nat, (∃ p155 : Option Addr, (∃ n156 : Nat, (∃ n157 : Nat, (∃ x158 : Int, ((v149 = tuple (Array.mk (List.reverse [int i64 x158, slice p155 n156 n157, slice p152 n153 n154, pointer p151]))) ∧ (ifK (x158 != 0)
(ifK (x158 != 9)
(R (bool false) (w150))
(z148 (w150)))
(z148 (w150))))))))))))))) ∧ (∀ (_ : Nat → Value), (∀ (w160 : World), ((z148 (w160)) → (Ca Tryz.prog (27) (Array.mk [pointer p10]) (w160) (fun v161 => (fun w162 =>
((v161 = tuple (Array.mk (List.reverse []))) ∧ (Ca Tryz.prog (9) (Array.mk [pointer p10, int i64 80]) (w162) (fun v163 => (fun w164 =>
(∃ p165 : Option Addr, (∃ p166 : Option Addr, (∃ n167 : Nat, (∃ n168 : Nat, (∃ p169 : Option Addr, (∃ n170 : Nat, (∃ n171 : Nat, (∃ x172 : Int, ((v163 = tuple (Array.mk (List.reverse [int i64 x172, slice p169 n170 n171, slice p166 n167 n168, pointer p165]))) ∧ (ifK (x172 != 0)
(R (bool false) (w164))
(∃ z173 : World → Prop, ((ifK (b130)
(Ca Tryz.prog (21) (Array.mk [slice p166 n167 n168, slice p127 n128 n129]) (w164) (fun v174 => (fun w175 =>
(∃ b176 : Bool, ((v174 = bool b176) ∧ (ifK (b176)
(ifK ((↑n170 : Int) == 0)
(Ca Tryz.prog (10) (Array.mk []) (w175) (fun v177 => (fun w178 =>
(∃ b179 : Bool, ((v177 = bool b179) ∧ (R (bool b179) (w178)))))))
(z173 (w175)))
(z173 (w175))))))))
(z173 (w164))) ∧ (∀ (_ : Nat → Value), (∀ (w181 : World), ((z173 (w181)) → (atW (alloc w181 (cells (Array.mk []) 27 (0, 0))) (fun w182 =>
(∃ v183 : Value, (∃ w184 : World, ((Sem.run Tryz.prog (Builtin.append_ (Array.mk [22, 22]) 22 (Array.mk [slice (some (nw w181)) 0 0, slice p121 n122 n123])) w182 = Result.ok v183 w184) ∧ (∃ p185 : Option Addr, (∃ n186 : Nat, (∃ n187 : Nat, ((v183 = slice p185 n186 n187) ∧ (∃ v188 : Value, (∃ w189 : World, ((Sem.run Tryz.prog (Builtin.append_ (Array.mk [22, 22]) 22 (Array.mk [slice p185 n186 n187, slice p124 n125 n126])) w184 = Result.ok v188 w189) ∧ (∃ p190 : Option Addr, (∃ n191 : Nat, (∃ n192 : Nat, ((v188 = slice p190 n191 n192) ∧ (Ca Tryz.prog (21) (Array.mk [slice p166 n167 n168, slice p118 n119 n120]) (w189) (fun v193 => (fun w194 =>
(∃ b195 : Bool, ((v193 = bool b195) ∧ (ifK (b195)
(ifK (decide ((↑n170 : Int) ≥ (↑n122 : Int)))
(ifK (decide ((↑n170 : Int) ≤ (↑n191 : Int)))
(((0 : Int) ≤ 0) ∧ (((0 : Int) ≤ (↑n170 : Int)) ∧ ((((↑n170 : Int) : Int) ≤ (↑n192 : Int)) ∧ (Ca Tryz.prog (16) (Array.mk [slice p169 n170 n171, slice (if n192 = 0 then p190 else Option.map (fun x => add x 0) p190) (Int.toNat (↑n170 : Int) - 0) (n192 - 0)]) (w194) (fun v196 => (fun w197 =>
(∃ b198 : Bool, ((v196 = bool b198) ∧ (ifK (b198)
(Ca Tryz.prog (10) (Array.mk []) (w197) (fun v199 => (fun w200 =>
(∃ b201 : Bool, ((v199 = bool b201) ∧ (R (bool b201) (w200)))))))
(R (bool false) (w197)))))))))))
(R (bool false) (w194)))
(R (bool false) (w194)))
(R (bool false) (w194)))))))))))))))))))))))))))))))))))))))))))))))))))))))))))))))))))))))))))))))))))))))))))))))))))))))))))))))))))))))))))))))
theorem ca7 (actsa : Option Addr) (actsl : Nat) (actsc : Nat) (c0 : Int) (c1 : Int) (again0 : Int) (again1 : Int) (w : World) (R : Value → World → Prop) (h : W7 actsa actsl actsc c0 c1 again0 again1 w R) : Ca Tryz.prog 7 ⟨[(.slice actsa actsl actsc), (.agg ⟨[(.int .u64 c0), (.int .i64 c1)]⟩), (.agg ⟨[(.int .u64 again0), (.int .i64 again1)]⟩)]⟩ w R :=
  caB (fn := Tryz.f7) (pl := pl7) (ls := ls7) Tryz.func7 (by kernel_rfl) (by kernel_rfl) h

/-- staith/staithlaw12.LedgerTears -/
noncomputable def C3 : Code := (Tryz.f3.body).getD .skip
def pl3 : Nat → Plan
  | 13 => (.quiet 0 (.quiet 1 (.quiet 2 (.quiet 3 (.quiet 4 (.quiet 5 (.quiet 6 (.quiet 7 (.eff 8 [6] (.quiet 9 (.quiet 10 (.eff 11 [] (.eff 12 [] (.eff 13 [] .done))))))))))))))
  | _ => .done
def ls3 : Nat → List (Nat × LT)
  | 9 => [(10, (.one .slice)), (35, (.one (.int .i64)))]
  | 28 => [(0, .agg []), (14, (.one (.int .i64)))]
  | 29 => [(14, (.one (.int .i64)))]
  | 34 => [(15, (.one (.int .i64)))]
  | _ => []
def W3 (la : Option Addr) (ll : Nat) (lc : Nat) (cut : Int) (w : World) (R : Value → World → Prop) : Prop :=
  (Ca Tryz.prog (8) (Array.mk [int i64 1048576]) (w) (fun v0 => (fun w1 =>
(∃ p2 : Option Addr, ((v0 = pointer p2) ∧ (Ca Tryz.prog (9) (Array.mk [pointer p2, int i64 1048576]) (w1) (fun v3 => (fun w4 =>
(∃ p5 : Option Addr, (∃ p6 : Option Addr, (∃ n7 : Nat, (∃ n8 : Nat, (∃ p9 : Option Addr, (∃ n10 : Nat, (∃ n11 : Nat, (∃ x12 : Int, ((v3 = tuple (Array.mk (List.reverse [int i64 x12, slice p9 n10 n11, slice p6 n7 n8, pointer p5]))) ∧ (ifK (x12 != 0)
(R (bool false) (w4))
(atW (alloc w4 (cells (Array.mk [int i64 0]) 3 (0, 0))) (fun w13 =>
(∃ z14 : Option Addr → Nat → Nat → Int → World → Prop, (∃ z15 : Option Addr → Nat → Nat → Int → World → Nat, ((z14 (some (nw w4)) (1) (1) (0) (w13)) ∧ (∀ (_ : Nat → Value), (∀ (p17 : Option Addr), (∀ (n18 : Nat), (∀ (n19 : Nat), (∀ (x20 : Int), (∀ (w21 : World), ((z14 (p17) (n18) (n19) (x20) (w21)) → (ifK (decide (x20 < (↑ll : Int)))
(∃ a22 : Addr, ((la = some a22) ∧ (((0 : Int) ≤ x20) ∧ (((x20 : Int) < (↑ll : Int)) ∧ (∃ p23 : Option Addr, (∃ n24 : Nat, (∃ n25 : Nat, ((cell? w21 (add a22 (Int.toNat x20 * 1)) = some (slice p23 n24 n25)) ∧ (ifK (decide ((↑n24 : Int) > 500))
(Ca Tryz.prog (10) (Array.mk []) (w21) (fun v26 => (fun w27 =>
(∃ b28 : Bool, ((v26 = bool b28) ∧ (R (bool b28) (w27)))))))
(ifK (decide ((↑ll : Int) > 50))
(Ca Tryz.prog (10) (Array.mk []) (w21) (fun v29 => (fun w30 =>
(∃ b31 : Bool, ((v29 = bool b31) ∧ (R (bool b31) (w30)))))))
(Ca Tryz.prog (11) (Array.mk [pointer p5, slice p23 n24 n25]) (w21) (fun v32 => (fun w33 =>
(∃ x34 : Int, ((v32 = int i64 x34) ∧ (ifK (x34 != 0)
(R (bool false) (w33))
(atW (drew w33) (fun w35 =>
(∃ a36 : Addr, ((p17 = some a36) ∧ (((0 : Int) ≤ wrap i64 ((↑n18 : Int) - 1)) ∧ (((wrap i64 ((↑n18 : Int) - 1) : Int) < (↑n18 : Int)) ∧ (∃ x37 : Int, ((cell? w35 (add a36 (Int.toNat (wrap i64 ((↑n18 : Int) - 1)) * 1)) = some (int i64 x37)) ∧ (Ca Tryz.prog (12) (Array.mk [slice p23 n24 n25]) (w35) (fun v38 => (fun w39 =>
(∃ p40 : Option Addr, (∃ n41 : Nat, (∃ n42 : Nat, ((v38 = slice p40 n41 n42) ∧ ((cell? w39 (add (add a36 (Int.toNat (wrap i64 ((↑n18 : Int) - 1)) * 1)) 0) = some (int i64 x37)) ∧ (atW (alloc w39 (cells (Array.mk [int i64 (wrap i64 (x37 + (↑n41 : Int)))]) 3 (0, 0))) (fun w43 =>
(∃ v44 : Value, (∃ w45 : World, ((Sem.run Tryz.prog (Builtin.append_ (Array.mk [31, 31]) 31 (Array.mk [slice p17 n18 n19, slice (some (nw w39)) 1 1])) w43 = Result.ok v44 w45) ∧ (∃ p46 : Option Addr, (∃ n47 : Nat, (∃ n48 : Nat, ((v44 = slice p46 n47 n48) ∧ ((z14 (p46) (n47) (n48) (wrap i64 (x20 + 1)) (w45)) ∧ (z15 p46 n47 n48 (wrap i64 (x20 + 1)) w45 < z15 p17 n18 n19 x20 w21)))))))))))))))))))))))))))))))))))))))))))
(Ca Tryz.prog (13) (Array.mk [pointer p5]) (w21) (fun v49 => (fun w50 =>
(∃ x51 : Int, ((v49 = int i64 x51) ∧ (ifK (x51 != 0)
(R (bool false) (w50))
(∃ a52 : Addr, ((p17 = some a52) ∧ (((0 : Int) ≤ (↑ll : Int)) ∧ ((((↑ll : Int) : Int) < (↑n18 : Int)) ∧ (∃ x53 : Int, ((cell? w50 (add a52 (Int.toNat (↑ll : Int) * 1)) = some (int i64 x53)) ∧ (((wrap u64 (wrap i64 (x53 + 1)) : Int) ≠ 0) ∧ (Ca Tryz.prog (14) (Array.mk [pointer p2, string (ByteArray.mk #[108, 111, 103, 46, 49]), int i64 (wrap i64 (Int.tmod cut (wrap u64 (wrap i64 (x53 + 1)))))]) (w50) (fun v54 => (fun w55 =>
(∃ x56 : Int, ((v54 = int i64 x56) ∧ (ifK (x56 != 0)
(R (bool false) (w55))
(∃ z57 : Int → World → Prop, ((∃ z58 : Int → World → Prop, (∃ z59 : Int → World → Nat, ((z58 (0) (w55)) ∧ (∀ (_ : Nat → Value), (∀ (x61 : Int), (∀ (w62 : World), ((z58 (x61) (w62)) → (ifK (decide (x61 < (↑ll : Int)))
(∃ a63 : Addr, ((p17 = some a63) ∧ (((0 : Int) ≤ wrap i64 (x61 + 1)) ∧ (((wrap i64 (x61 + 1) : Int) < (↑n18 : Int)) ∧ (∃ x64 : Int, ((cell? w62 (add a63 (Int.toNat (wrap i64 (x61 + 1)) * 1)) = some (int i64 x64)) ∧ (ifK (decide (x64 ≤ wrap i64 (Int.tmod cut (wrap u64 (wrap i64 (x53 + 1))))))
((z58 (wrap i64 (x61 + 1)) (w62)) ∧ (z59 (wrap i64 (x61 + 1)) w62 < z59 x61 w62))
(z57 (x61) (w62)))))))))
(z57 (x61) (w62)))))))))) ∧ (∀ (_ : Nat → Value), (∀ (x66 : Int), (∀ (w67 : World), ((z57 (x66) (w67)) → (∃ z68 : Int → World → Prop, (∃ z69 : Int → World → Nat, ((z68 (0) (w67)) ∧ (∀ (_ : Nat → Value), (∀ (x71 : Int), (∀ (w72 : World), ((z68 (x71) (w72)) → (ifK (decide (x71 < 2))
(Ca Tryz.prog (9) (Array.mk [pointer p2, int i64 1048576]) (w72) (fun v73 => (fun w74 =>
(∃ p75 : Option Addr, (∃ p76 : Option Addr, (∃ n77 : Nat, (∃ n78 : Nat, (∃ p79 : Option Addr, (∃ n80 : Nat, (∃ n81 : Nat, (∃ x82 : Int, ((v73 = tuple (Array.mk (List.reverse [int i64 x82, slice p79 n80 n81, slice p76 n77 n78, pointer p75]))) ∧ (Ca Tryz.prog (15) (Array.mk [pointer p2, string (ByteArray.mk #[108, 111, 103, 46, 49])]) (w74) (fun v83 => (fun w84 =>
(∃ p85 : Option Addr, (∃ n86 : Nat, (∃ n87 : Nat, (∃ x88 : Int, ((v83 = tuple (Array.mk (List.reverse [int i64 x88, slice p85 n86 n87]))) ∧ (ifK (x82 != 0)
(R (bool false) (w84))
(((0 : Int) ≤ 0) ∧ (((0 : Int) ≤ x66) ∧ (((x66 : Int) ≤ (↑lc : Int)) ∧ (Ca Tryz.prog (16) (Array.mk [slice p79 n80 n81, slice (if lc = 0 then la else Option.map (fun x => add x 0) la) (Int.toNat x66 - 0) (lc - 0)]) (w84) (fun v89 => (fun w90 =>
(∃ b91 : Bool, ((v89 = bool b91) ∧ (ifK (!b91)
(R (bool false) (w90))
(∃ a92 : Addr, ((p17 = some a92) ∧ (((0 : Int) ≤ x66) ∧ (((x66 : Int) < (↑n18 : Int)) ∧ (∃ x93 : Int, ((cell? w90 (add a92 (Int.toNat x66 * 1)) = some (int i64 x93)) ∧ (ifK ((↑n86 : Int) != x93)
(R (bool false) (w90))
((z68 (wrap i64 (x71 + 1)) (w90)) ∧ (z69 (wrap i64 (x71 + 1)) w90 < z69 x71 w72)))))))))))))))))))))))))))))))))))))))
(Ca Tryz.prog (10) (Array.mk []) (w72) (fun v94 => (fun w95 =>
(∃ b96 : Bool, ((v94 = bool b96) ∧ (R (bool b96) (w95)))))))))))))))))))))))))))))))))))))))))))))))))))))))))))))))))))))))
theorem ca3 (la : Option Addr) (ll : Nat) (lc : Nat) (cut : Int) (w : World) (R : Value → World → Prop) (h : W3 la ll lc cut w R) : Ca Tryz.prog 3 ⟨[(.slice la ll lc), (.int .u64 cut)]⟩ w R :=
  caB (fn := Tryz.f3) (pl := pl3) (ls := ls3) Tryz.func3 (by kernel_rfl) (by kernel_rfl) h

/-- staith/staithref03.Seal -/
noncomputable def C12 : Code := (Tryz.f12.body).getD .skip
def pl12 : Nat → Plan := fun _ => .done
def ls12 : Nat → List (Nat × LT) := fun _ => []
def W12 (ba : Option Addr) (bl : Nat) (bc : Nat) (w : World) (R : Value → World → Prop) : Prop :=
  (ifK (decide ((↑bl : Int) > 1048576))
(R (slice none 0 0) (w))
(Ca Tryz.prog (40) (Array.mk [slice none 0 0, int i64 4, int u64 (wrap u64 (↑bl : Int))]) (w) (fun v0 => (fun w1 =>
(∃ p2 : Option Addr, (∃ n3 : Nat, (∃ n4 : Nat, ((v0 = slice p2 n3 n4) ∧ (∃ v5 : Value, (∃ w6 : World, ((Sem.run Tryz.prog (Builtin.append_ (Array.mk [27, 27]) 27 (Array.mk [slice p2 n3 n4, slice ba bl bc])) w1 = Result.ok v5 w6) ∧ (∃ p7 : Option Addr, (∃ n8 : Nat, (∃ n9 : Nat, ((v5 = slice p7 n8 n9) ∧ (Ca Tryz.prog (41) (Array.mk [slice p7 n8 n9]) (w6) (fun v10 => (fun w11 =>
(∃ x12 : Int, ((v10 = int u32 x12) ∧ (Ca Tryz.prog (40) (Array.mk [slice p7 n8 n9, int i64 4, int u64 (wrap u64 x12)]) (w11) (fun v13 => (fun w14 =>
(∃ p15 : Option Addr, (∃ n16 : Nat, (∃ n17 : Nat, ((v13 = slice p15 n16 n17) ∧ (R (slice p15 n16 n17) (w14)))))))))))))))))))))))))))))
theorem ca12 (ba : Option Addr) (bl : Nat) (bc : Nat) (w : World) (R : Value → World → Prop) (h : W12 ba bl bc w R) : Ca Tryz.prog 12 ⟨[(.slice ba bl bc)]⟩ w R :=
  caB (fn := Tryz.f12) (pl := pl12) (ls := ls12) Tryz.func12 (by kernel_rfl) (by kernel_rfl) h

/-- staith/staithref03.Sum -/
noncomputable def C41 : Code := (Tryz.f41.body).getD .skip
def pl41 : Nat → Plan := fun _ => .done
def ls41 : Nat → List (Nat × LT)
  | 4 => [(3, (.one (.int .u32))), (10, (.one (.int .i64)))]
  | 10 => [(3, (.one (.int .u32))), (6, (.one (.int .i64)))]
  | _ => []
def W41 (ba : Option Addr) (bl : Nat) (_bc : Nat) (w : World) (R : Value → World → Prop) : Prop :=
  (∃ z0 : Int → Int → World → Prop, (∃ z1 : Int → Int → World → Nat, ((z0 (4294967295) (0) (w)) ∧ (∀ (_ : Nat → Value), (∀ (x3 : Int), (∀ (x4 : Int), (∀ (w5 : World), ((z0 (x3) (x4) (w5)) → (ifK (decide (x4 < (↑bl : Int)))
(∃ a6 : Addr, ((ba = some a6) ∧ (((0 : Int) ≤ x4) ∧ (((x4 : Int) < (↑bl : Int)) ∧ (∃ x7 : Int, ((cell? w5 (add a6 (Int.toNat x4 * 1)) = some (int u8 x7)) ∧ (∃ z8 : Int → Int → World → Prop, (∃ z9 : Int → Int → World → Nat, ((z8 (x3) (7) (w5)) ∧ (∀ (_ : Nat → Value), (∀ (x11 : Int), (∀ (x12 : Int), (∀ (w13 : World), ((z8 (x11) (x12) (w13)) → (ifK (decide (x12 ≥ 0))
(((0 : Int) ≤ 31) ∧ (((0 : Int) ≤ wrap u64 x12) ∧ (((0 : Int) ≤ 1) ∧ (ifK (Int.fdiv x11 (2 ^ 31) != wrap u32 (↑(BitVec.toNat (BitVec.ofInt 32 (wrap u32 (Int.fdiv x7 (2 ^ min (Int.toNat (wrap u64 x12)) 8))) &&& BitVec.ofInt 32 1)) : Int))
((z8 (wrap u32 (↑(BitVec.toNat (BitVec.ofInt 32 (wrap u32 (x11 * 2 ^ 1)) ^^^ BitVec.ofInt 32 1947962583)) : Int)) (wrap i64 (x12 - 1)) (w13)) ∧ (z9 (wrap u32 (↑(BitVec.toNat (BitVec.ofInt 32 (wrap u32 (x11 * 2 ^ 1)) ^^^ BitVec.ofInt 32 1947962583)) : Int)) (wrap i64 (x12 - 1)) w13 < z9 x11 x12 w13))
((z8 (wrap u32 (x11 * 2 ^ 1)) (wrap i64 (x12 - 1)) (w13)) ∧ (z9 (wrap u32 (x11 * 2 ^ 1)) (wrap i64 (x12 - 1)) w13 < z9 x11 x12 w13))))))
((z0 (x11) (wrap i64 (x4 + 1)) (w13)) ∧ (z1 x11 (wrap i64 (x4 + 1)) w13 < z1 x3 x4 w5)))))))))))))))))
(R (int u32 x3) (w5)))))))))))
theorem ca41 (ba : Option Addr) (bl : Nat) (bc : Nat) (w : World) (R : Value → World → Prop) (h : W41 ba bl bc w R) : Ca Tryz.prog 41 ⟨[(.slice ba bl bc)]⟩ w R :=
  caB (fn := Tryz.f41) (pl := pl41) (ls := ls41) Tryz.func41 (by kernel_rfl) (by kernel_rfl) h

/-- staith/staithref01.Put -/
noncomputable def C40 : Code := (Tryz.f40.body).getD .skip
def pl40 : Nat → Plan := fun _ => .done
def ls40 : Nat → List (Nat × LT)
  | 7 => [(7, (.one .slice)), (8, (.one (.int .i64)))]
  | _ => []
def W40 (ba : Option Addr) (bl : Nat) (bc : Nat) (width : Int) (v_ : Int) (w : World) (R : Value → World → Prop) : Prop :=
  (atW (alloc w (cells (Array.mk []) 5 (0, 0))) (fun w0 =>
(∃ v1 : Value, (∃ w2 : World, ((Sem.run Tryz.prog (Builtin.append_ (Array.mk [27, 27]) 27 (Array.mk [slice (some (nw w)) 0 0, slice ba bl bc])) w0 = Result.ok v1 w2) ∧ (∃ p3 : Option Addr, (∃ n4 : Nat, (∃ n5 : Nat, ((v1 = slice p3 n4 n5) ∧ (Ca Tryz.prog (77) (Array.mk [int i64 width]) (w2) (fun v6 => (fun w7 =>
(∃ b8 : Bool, ((v6 = bool b8) ∧ (ifK (!b8)
(R (slice p3 n4 n5) (w7))
(∃ z9 : Option Addr → Nat → Nat → Int → World → Prop, (∃ z10 : Option Addr → Nat → Nat → Int → World → Nat, ((z9 (p3) (n4) (n5) (wrap i64 (width - 1)) (w7)) ∧ (∀ (_ : Nat → Value), (∀ (p12 : Option Addr), (∀ (n13 : Nat), (∀ (n14 : Nat), (∀ (x15 : Int), (∀ (w16 : World), ((z9 (p12) (n13) (n14) (x15) (w16)) → (ifK (decide (x15 ≥ 0))
(((0 : Int) ≤ wrap u64 (wrap i64 (8 * x15))) ∧ (atW (alloc w16 (cells (Array.mk [int u8 (wrap u8 (Int.fdiv v_ (2 ^ min (Int.toNat (wrap u64 (wrap i64 (8 * x15)))) 64)))]) 5 (0, 0))) (fun w17 =>
(∃ v18 : Value, (∃ w19 : World, ((Sem.run Tryz.prog (Builtin.append_ (Array.mk [27, 27]) 27 (Array.mk [slice p12 n13 n14, slice (some (nw w16)) 1 1])) w17 = Result.ok v18 w19) ∧ (∃ p20 : Option Addr, (∃ n21 : Nat, (∃ n22 : Nat, ((v18 = slice p20 n21 n22) ∧ ((z9 (p20) (n21) (n22) (wrap i64 (x15 - 1)) (w19)) ∧ (z10 p20 n21 n22 (wrap i64 (x15 - 1)) w19 < z10 p12 n13 n14 x15 w16))))))))))))
(R (slice p12 n13 n14) (w16))))))))))))))))))))))))))))
theorem ca40 (ba : Option Addr) (bl : Nat) (bc : Nat) (width : Int) (v_ : Int) (w : World) (R : Value → World → Prop) (h : W40 ba bl bc width v_ w R) : Ca Tryz.prog 40 ⟨[(.slice ba bl bc), (.int .i64 width), (.int .u64 v_)]⟩ w R :=
  caB (fn := Tryz.f40) (pl := pl40) (ls := ls40) Tryz.func40 (by kernel_rfl) (by kernel_rfl) h

/-- staith/staithref01.Good -/
noncomputable def C77 : Code := (Tryz.f77.body).getD .skip
def pl77 : Nat → Plan := fun _ => .done
def ls77 : Nat → List (Nat × LT) := fun _ => []
def W77 (width : Int) (w : World) (R : Value → World → Prop) : Prop :=
  (ifK (width == 1)
(R (bool true) (w))
(ifK (width == 2)
(R (bool true) (w))
(ifK (width == 4)
(R (bool true) (w))
(R (bool (width == 8)) (w)))))
theorem ca77 (width : Int) (w : World) (R : Value → World → Prop) (h : W77 width w R) : Ca Tryz.prog 77 ⟨[(.int .i64 width)]⟩ w R :=
  caB (fn := Tryz.f77) (pl := pl77) (ls := ls77) Tryz.func77 (by kernel_rfl) (by kernel_rfl) h
end Go.Proofs.YtgjdandnncjegaaGreatDoor

/- The ledger's examples in the statements: lives; two lists of bytes that are held against each other: same. -/
namespace Go.Proofs.YtgjdandnncjegaaGreatDoor
open Go Go.Proofs.YtgjdandnncjegaaGreatDoor.St

theorem ifT {b : Bool} {A B : Prop} (h : b = true) (a : A) : ifK b A B := by subst h; exact a
theorem ifF {b : Bool} {A B : Prop} (h : b = false) (a : B) : ifK b A B := by subst h; exact a
/-- A store, and a ledger over it, that were made since w0. -/
def SB (w0 w : World) (s : Nat) (a : AS) : Prop := ∃ F, St1 w s F a ∧ Mod St.no w0 w ∧ ∀ k, F k → w0.heap.size ≤ k
def LB (w0 w : World) (s g : Nat) (a : AS) (l : AL) : Prop := ∃ F G, LS w s g F G a l ∧ Mod St.no w0 w ∧ ∀ k, F k ∨ G k → w0.heap.size ≤ k
section
variable {w0 w w' : World} {s g : Nat} {F G : Nat → Prop} {a b : AS} {l m : AL}
theorem SB.no (h : SB w0 w s a) (hm : Mod St.no w w') : SB w0 w' s a := let ⟨F, h1, h2, h3⟩ := h; ⟨F, h1.no hm, h2.trans hm, h3⟩
theorem LB.no (h : LB w0 w s g a l) (hm : Mod St.no w w') : LB w0 w' s g a l := let ⟨F, G, h1, h2, h3⟩ := h; ⟨F, G, h1.no hm, h2.trans hm, h3⟩
theorem SB.mod (h : SB w0 w s a) : Mod St.no w0 w := let ⟨_, _, h2, _⟩ := h; h2
theorem LB.mod (h : LB w0 w s g a l) : Mod St.no w0 w := let ⟨_, _, _, h2, _⟩ := h; h2
theorem SB.next (h1 : Mod St.no w0 w) (h2 : ∀ k, F k → w0.heap.size ≤ k) (hp : St1P s F w b w') : SB w0 w' s b := by
  obtain ⟨F', g1, g2, g3⟩ := hp
  exact ⟨F', g1, h1.new g3 h2, fun k hk => (g2 k hk).elim (h2 k) (Nat.le_trans h1.size)⟩
theorem LB.next (h1 : Mod St.no w0 w) (h2 : ∀ k, F k ∨ G k → w0.heap.size ≤ k) (hp : LSP s g F G w b m w') : LB w0 w' s g b m := by
  obtain ⟨F', G', g1, g2, g3, g4⟩ := hp
  exact ⟨F', G', g1, h1.new g4 h2, fun k hk => hk.elim (fun hk => (g2 k hk).elim (fun h => h2 k (.inl h)) (Nat.le_trans h1.size)) fun hk => (g3 k hk).elim (fun h => h2 k (.inr h)) (Nat.le_trans h1.size)⟩
theorem LB.store (h : LB w0 w s g a l) : ∃ F, St1 w s F a ∧ (∀ k, F k → w0.heap.size ≤ k) ∧ ∀ w' b, St1P s F w b w' → LB w0 w' s g b l :=
  let ⟨F, _, h1, h2, h3⟩ := h
  ⟨F, h1.st, fun k hk => h3 k (.inl hk), fun _ _ hp => LB.next h2 h3 (h1.store hp)⟩
theorem newL_ok {w : World} (hV : Vars w) (h6 : 6 ≤ w.heap.size) (room : Int) (hr : 0 ≤ room ∧ room ≤ 4194304) (R : Value → World → Prop) (hR : ∀ w' s, SB w w' s (AS.new room) → R (.pointer (some ⟨s, 0, none⟩)) w') : Ca Tryz.prog 8 #[.int .i64 room] w R := by
  refine new_ok room w R (fun h => by omega) fun _ _ w' s h1 m1 => hR w' s ⟨_, ⟨h1.old, hV.no m1, fun k hk => ⟨by omega, hk.2⟩, AS.Named.new hr.1 hr.2⟩, m1, fun k hk => hk.1⟩
/-- The first Open of a new store. -/
theorem openN_ok {room : Int} (h : SB w0 w s (AS.new room)) (hr : 16 ≤ room ∧ room ≤ 4194304) {part : Int} (hp : 1 ≤ part ∧ part ≤ 1048576) (R : Value → World → Prop)
    (hR : ∀ w' g a l p n c rp rn rc, LB w0 w' s g a l → Fine room a l [] [] [] 16 2 → a.left = 0 → l.part = part → R (.tuple #[.pointer (some ⟨g, 0, none⟩), .slice p n c, .slice rp rn rc, .int .i64 0]) w') : Ca Tryz.prog 9 #[.pointer (some ⟨s, 0, none⟩), .int .i64 part] w R := by
  obtain ⟨F, h1, h2, h3⟩ := h
  obtain ⟨a', l', e, hf, hl, hpt⟩ := fine_new hr.1 (by omega) hp
  refine open_l_ok h1 part R (fun e' he => by rw [e] at he; cases he) fun l check rs he w' g cp cl cc rp rl rc ho => ?_
  · rw [e] at he
    injection he with _ he
    injection he with he
    injection he with he _
    subst he
    obtain ⟨H', g1, g2, g3, g4, g5, _⟩ := ho.ex
    rw [e] at g1
    have hlo := h2.size
    refine hR w' g a' l' _ _ _ _ _ _ ⟨H', fun k => k = g, ⟨g1, g4, fun k hk hg => by subst hg; exact g5.2 hk, fun k hk => ?_⟩, h2.new g3 h3, fun k hk => ?_⟩ hf hl hpt
    · subst hk
      obtain ⟨_, _, q, _⟩ := g4.at_
      have := lt_of_heap q
      have := h1.big
      omega
    · rcases hk with hk | rfl
      · exact (g2 k hk).elim (h3 k) (Nat.le_trans hlo)
      · exact Nat.le_trans hlo g5.1
/-- A later Open, beside the ledger that is there. -/
theorem openG_ok {room : Int} {chk : Bs} {recs waits : List Bs} {k n : Nat} (h1 : LS w s g F G a l) (hf : Fine room a l chk recs waits k n) {part : Int} (hp : 1 ≤ part ∧ part ≤ 1048576) (R : Value → World → Prop)
    (hR : ∀ w' (q : Option Addr) p n c rp rc, LSP s g F G w a l w' → Rd w' p n c chk → BIn (fun k => w.heap.size ≤ k) w' rp recs.length rc recs → R (.tuple #[.pointer q, .slice p n c, .slice rp recs.length rc, .int .i64 0]) w') : Ca Tryz.prog 9 #[.pointer (some ⟨s, 0, none⟩), .int .i64 part] w R := by
  obtain ⟨m, e⟩ := hf.open hp
  refine open_l_ok h1.st part R (fun e' he => by rw [e] at he; cases he) fun l' check rs he w' g' cp cl cc rp rl rc ho => ?_
  rw [e] at he
  injection he with _ he
  injection he with he
  injection he with _ he
  injection he with he1 he2
  subst he1; subst he2
  obtain ⟨H', g1, g2, g3, _, _, g6, _, g8⟩ := ho.ex
  rw [e] at g1
  have hl := g8.len.1
  subst hl
  exact hR w' _ _ _ _ _ _ (h1.store ⟨H', g1, g2, g3⟩) g6 (g8.mono fun k hk => hk.1)
theorem openF_ok {room : Int} {chk : Bs} {recs waits : List Bs} {k n : Nat} (h : LB w0 w s g a l) (hf : Fine room a l chk recs waits k n) {part : Int} (hp : 1 ≤ part ∧ part ≤ 1048576) (R : Value → World → Prop)
    (hR : ∀ w' (q : Option Addr) p n c rp rc, LB w0 w' s g a l → Rd w' p n c chk → BIn (fun k => w.heap.size ≤ k) w' rp recs.length rc recs → R (.tuple #[.pointer q, .slice p n c, .slice rp recs.length rc, .int .i64 0]) w') : Ca Tryz.prog 9 #[.pointer (some ⟨s, 0, none⟩), .int .i64 part] w R := by
  obtain ⟨F, G, h1, h2, h3⟩ := h
  exact openG_ok h1 hf hp R fun w' q p n c rp rc hp => hR w' q p n c rp rc (LB.next h2 h3 hp)
end

/-! ### Lists of bytes that are read -/
def RR (w : World) (a : Option Addr) (l : Nat) (xs : List Bs) : Prop := xs.length = l ∧ ∀ i b, xs[i]? = some b → ∃ ad s, a = some ad ∧ w.cell? (Addr.add ad (i * 1)) = some (slv s) ∧ Rd w s.1 s.2.1 s.2.2 b
theorem RR.no {w w' : World} {a : Option Addr} {l : Nat} {xs : List Bs} (h : RR w a l xs) (hm : Mod no w w') : RR w' a l xs :=
  ⟨h.1, fun i b hb => let ⟨ad, s, h1, h2, h3⟩ := h.2 i b hb; ⟨ad, s, h1, cell_mod hm h2 id, h3.no hm⟩⟩
theorem BIn.rr {G : Nat → Prop} {w : World} {a : Option Addr} {l c : Nat} {xs : List Bs} (h : BIn G w a l c xs) : RR w a l xs :=
  ⟨h.len.1, fun i b hb => by
    obtain ⟨hi, rfl⟩ := List.getElem?_eq_some_iff.1 hb
    obtain ⟨ad, s, h1, h2, h3, _⟩ := h.get hi
    exact ⟨ad, s, h1, h2, Rd.of_els h3⟩⟩
theorem RR.take {w : World} {a : Option Addr} {l : Nat} {xs : List Bs} (h : RR w a l xs) {k : Nat} (hk : k ≤ l) : RR w a k (xs.take k) :=
  ⟨by rw [List.length_take, h.1]; omega, fun i b hb => h.2 i b (by
    rw [List.getElem?_take] at hb
    split at hb
    · exact hb
    · cases hb)⟩
theorem same_ok2 {w : World} {a b : Option Addr} {al ac bl bc : Nat} {xs ys : List Bs} (hx : RR w a al xs) (hy : RR w b bl ys) (hn : al < 4611686018427387904) (R : Value → World → Prop) (hR : ∀ w', Mod no w w' → R (.bool (decide (xs = ys))) w') :
    Ca Tryz.prog 16 #[.slice a al ac, .slice b bl bc] w R := by
  have hxl := hx.1
  have hyl := hy.1
  refine ca16 a al ac b bl bc w R ?_
  refine ifNe (fun hne => ?_) fun heq => ?_
  · have := hR w (Mod.refl _ _)
    rwa [decide_eq_false fun e => hne (by rw [← hxl, ← hyl, e])] at this
  have hal : al = bl := by omega
  subst hal
  refine ⟨fun x w' => ∃ i : Nat, x = i ∧ i ≤ al ∧ Mod no w w' ∧ xs.take i = ys.take i, fun x _ => ((al : Int) - x).toNat, ⟨0, rfl, Nat.zero_le _, Mod.refl _ _, by simp⟩, ?_⟩
  rintro _ _ w4 ⟨i, rfl, hi, m4, htk⟩
  refine ifK_dec (fun hlt => ?_) fun hge => ?_
  · have hix : i < xs.length := by omega
    have hiy : i < ys.length := by omega
    refine drewG w4 _ fun w5 m5 => ?_
    have m05 := m4.trans m5
    obtain ⟨ad, s, h1, h2, h3⟩ := (hx.no m05).2 i xs[i] (by simp [hix])
    obtain ⟨bd, t, g1, g2, g3⟩ := (hy.no m05).2 i ys[i] (by simp [hiy])
    refine ⟨ad, h1, by omega, by omega, _, _, _, by rw [Int.toNat_natCast]; exact h2, bd, g1, by omega, by omega, _, _, _, by rw [Int.toNat_natCast]; exact g2, ?_⟩
    refine same_ok h3 g3 _ ⟨_, rfl, ?_⟩
    have e1 : IntKind.i64.wrap ((i : Int) + 1) = ((i + 1 : Nat) : Int) := by rw [wrap64 (by omega) (by omega)]; rfl
    rw [e1]
    by_cases he : xs[i] = ys[i]
    · rw [decide_eq_true he]
      refine (ifK_of (fun h => by cases h) (fun _ => ?_) : ifK (!true) _ _)
      refine ⟨⟨i + 1, rfl, by omega, m05, ?_⟩, ?_⟩
      · rw [List.take_succ_eq_append_getElem hix, List.take_succ_eq_append_getElem hiy, htk, he]
      · show ((al : Int) - ((i + 1 : Nat) : Int)).toNat < ((al : Int) - (i : Int)).toNat
        omega
    · rw [decide_eq_false he]
      refine (ifK_of (fun _ => ?_) (fun h => by cases h) : ifK (!false) _ _)
      have := hR w5 m05
      rwa [decide_eq_false fun e => he (by subst e; rfl)] at this
  · have := hR w4 m4
    rw [List.take_of_length_le (by omega), List.take_of_length_le (by omega)] at htk
    rwa [decide_eq_true htk] at this

/-- A literal's byte. -/
theorem litB (w : World) (x : UInt8) (K : Option Addr → Nat → Nat → World → Prop) (hK : ∀ w8, Rd w8 (some ⟨w.heap.size, 0, none⟩) 1 1 [x] → Mod no w w8 → w.heap.size < w8.heap.size → K (some ⟨w.heap.size, 0, none⟩) 1 1 w8) :
    atW (w.alloc (.cells #[.int .u8 x.toNat] 5)) fun w6 => ∃ v w8, (convert 27 27 (.slice (some ⟨w.heap.size, 0, none⟩) 1 1)).run Tryz.prog w6 = .ok v w8 ∧ ∃ p n m, v = .slice p n m ∧ K p n m w8 := by
  intro w6 e6
  subst e6
  refine ⟨_, _, Lib.run_convert_bytes_const (P := Tryz.prog) w 27 5 _ 1 1 Tryz.underlying27 Tryz.underlying5, _, _, _, rfl, hK _ ⟨rfl, Nat.le_refl _, by decide, ?_, fun h => by cases h⟩ (Mod.alloc _ _) (lt_of_heap (new_at w _))⟩
  intro ad had j v hj
  cases had
  rw [cl1 (new_at w _)]
  have : j = 0 ∨ 1 ≤ j := by omega
  rcases this with rfl | h
  · simpa [u8v] using hj
  · rw [List.getElem?_eq_none (by simpa using h)] at hj; cases hj

set_option maxHeartbeats 1000000 in
theorem lives_ok {w : World} (hV : Vars w) (h6 : 6 ≤ w.heap.size) (R : Value → World → Prop) (hR : ∀ w', Mod no w w' → R (.bool true) w') : Ca Tryz.prog 10 #[] w R := by
  refine ca10 w R ?_
  refine newL_ok hV h6 10000 (by omega) _ fun w1 s h1 => ⟨_, rfl, ?_⟩
  refine openN_ok h1 (by omega) (by omega) _ fun w4 g a1 l1 p n c rp rn rc h4 f4 z4 pt4 => ⟨_, _, _, _, _, _, _, _, rfl, ?_⟩
  refine ifF rfl ?_
  refine litB w4 97 _ fun w15 r15 m15 _ => ?_
  obtain ⟨F, G, q1, q2, q3⟩ := h4.no m15
  obtain ⟨e5, f5⟩ := f4.add (b := [97]) (by simp) (by simp)
  refine add_ok q1 r15 _ fun w20 hp => ?_
  rw [e5] at hp ⊢
  replace h4 := LB.next q2 q3 hp
  refine ⟨_, rfl, ifF rfl ?_⟩
  refine litB w20 98 _ fun w24 r24 m24 _ => ?_
  obtain ⟨F, G, q1, q2, q3⟩ := h4.no m24
  obtain ⟨e6, f6⟩ := f5.add (b := [98]) (by simp) (by simp)
  refine add_ok q1 r24 _ fun w29 hp => ?_
  rw [e6] at hp ⊢
  replace h4 := LB.next q2 q3 hp
  refine ⟨_, rfl, ifF rfl ?_⟩
  obtain ⟨F, G, q1, q2, q3⟩ := h4
  refine pending2_ok q1 _ ⟨_, rfl, ifF rfl ?_⟩
  refine flush_ok q1 _ fun w35 hp => ?_
  rcases f6.flush (Q := fun _ _ => True) (by simp) (by simp) (fun _ _ => trivial) with ⟨_, _, _, hx, _⟩ | ⟨a2, l2, e7, f7, pt7, z7, _⟩
  · exact absurd z4 hx
  rw [e7] at hp ⊢
  replace h4 := LB.next q2 q3 hp
  refine ⟨_, rfl, ifF rfl ?_⟩
  refine litB w35 99 _ fun w39 r39 m39 z39 => ?_
  have z35 := h4.mod.size
  obtain ⟨F, G, q1, q2, q3⟩ := h4
  refine mark_ok (q1.no m39) r39 (fun _ k hk hx => ?_) _ fun w44 hp => ?_
  · simp [rowB] at hk
    subst hk
    rcases hx with hx | hx
    · have := (q1.st.old _ hx).2; omega
    · have := (q1.old _ hx).2; omega
  rcases f7.mark (c := [99]) (Q := fun _ _ => True) (by simp) (by simp) (by simp) (fun _ _ => trivial) trivial with ⟨_, _, _, hx, _⟩ | ⟨a3, l3, e8, f8, pt8, _, z8, _⟩
  · exact absurd (z7 z4) hx
  rw [e8] at hp ⊢
  replace h4 := LB.next (q2.trans m39) q3 hp
  refine ⟨_, rfl, ifF rfl ?_⟩
  refine litB w44 100 _ fun w48 r48 m48 _ => ?_
  obtain ⟨F, G, q1, q2, q3⟩ := h4.no m48
  obtain ⟨e9, f9⟩ := f8.add (b := [100]) (by simp) (by simp)
  refine add_ok q1 r48 _ fun w53 hp => ?_
  rw [e9] at hp ⊢
  replace h4 := LB.next q2 q3 hp
  refine ⟨_, rfl, ifF rfl ?_⟩
  obtain ⟨F, G, q1, q2, q3⟩ := h4
  refine flush_ok q1 _ fun w56 hp => ?_
  rcases f9.flush (Q := fun _ _ => True) (by simp) (by simp) (fun _ _ => trivial) with ⟨_, _, _, hx, _⟩ | ⟨a4, l4, e10, f10, pt10, z10, _⟩
  · exact absurd (z8 (z7 z4)) hx
  rw [e10] at hp ⊢
  replace h4 := LB.next q2 q3 hp
  refine ⟨_, rfl, ifF rfl ?_⟩
  refine openF_ok h4 f10 (by omega) _ fun w59 _ p61 n62 n63 p64 n66 h59 r59 b59 => ⟨_, _, _, _, _, _, _, _, rfl, ?_⟩
  refine ifT rfl ?_
  refine ⟨_, _, str_ok r59, _, rfl, ifT (beq_self_eq_true _) ?_⟩
  refine ifT rfl ?_
  obtain ⟨ad, sl, had, hcell, hel, _⟩ := b59.get (i := 0) (by simp)
  refine ⟨ad, had, by omega, by simp, sl.1, sl.2.1, sl.2.2, hcell, ?_⟩
  refine ⟨_, _, str_ok (Rd.of_els hel), _, rfl, ifT (by decide +kernel) ?_⟩
  refine name_ok (hV.no h59.mod) 12 _ fun w79 m79 => ⟨_, rfl, ?_⟩
  have e12 : (ByteArray.toList (nameI 12) == ByteArray.toList (ByteArray.mk #[108, 111, 103, 46, 49, 50])) = true := by decide +kernel
  have := hR w79 (h59.mod.trans m79)
  rw [← e12] at this
  exact this
end Go.Proofs.YtgjdandnncjegaaGreatDoor

/- The walk of LedgerNames. -/
namespace Go.Proofs.YtgjdandnncjegaaGreatDoor
open Go Go.Proofs.YtgjdandnncjegaaGreatDoor.St

theorem beq_str (a b : ByteArray) : (ByteArray.toList a == ByteArray.toList b) = decide (a = b) := by
  rw [byteArray_toList, byteArray_toList, Bool.eq_iff_iff, beq_iff_eq, decide_eq_true_iff]
  constructor
  · intro h
    cases a; cases b
    simp only at h
    rw [Array.toList_inj.1 h]
  · intro h; rw [h]
theorem nameI_empty {n : Int} (h : ¬ (1 ≤ n ∧ n ≤ 999999999)) : nameI n = ⟨#[]⟩ := by rw [nameI, if_neg h]
theorem nameI_in {n : Int} (h : 1 ≤ n ∧ n ≤ 999999999) : nameI n = nameL n.toNat := by rw [nameI, if_pos h]
theorem nameL_ne_empty (n : Nat) : nameL n ≠ ⟨#[]⟩ := fun e => by
  have := congrArg (fun x => x.data.toList.length) e
  simp only [nameL_list, List.length_append] at this
  simp [logL] at this
theorem nameI_eq {n m : Int} (h : 1 ≤ n ∧ n ≤ 999999999) : decide (nameI n = nameI m) = (n == m) := by
  rw [Bool.eq_iff_iff, decide_eq_true_iff, beq_iff_eq]
  constructor
  · intro e
    rw [nameI_in h] at e
    by_cases hm : 1 ≤ m ∧ m ≤ 999999999
    · rw [nameI_in hm] at e
      have := nameL_inj e
      omega
    · rw [nameI_empty hm] at e
      exact absurd e (nameL_ne_empty _)
  · rintro rfl; rfl
set_option maxHeartbeats 1000000 in
theorem names_walk (n m : Int) (ba : Option Addr) (bl bc : Nat) (b : Bs) (w : World) (hV : Vars w) (h6 : 6 ≤ w.heap.size) (hb : Rd w ba bl bc b) (R : Value → World → Prop) (hR : ∀ w', Mod no w w' → R (.bool true) w') :
    Ca Tryz.prog 4 #[.int .i64 n, .int .i64 m, .slice ba bl bc] w R := by
  have hbl := hb.len
  refine ca4 n m ba bl bc w R ?_
  have lives : ∀ w1, Mod no w w1 → ∀ K : Value → World → Prop, (∀ w2, Mod no w w2 → K (.bool true) w2) → Ca Tryz.prog 10 #[] w1 K := fun w1 m1 K hK => lives_ok (hV.no m1) (Nat.le_trans h6 m1.size) K fun w2 m2 => hK w2 (m1.trans m2)
  refine ifK_dec (fun _ => lives w (Mod.refl _ _) _ fun w1 m1 => ⟨_, rfl, hR w1 m1⟩) fun hle => ?_
  refine name_ok hV n _ fun w4 m4 => ⟨_, rfl, name_ok (hV.no m4) m _ fun w7 m7 => ⟨_, rfl, ?_⟩⟩
  have m07 := m4.trans m7
  refine ⟨fun w' => Mod no w w', ?_, ?_⟩
  · simp only [beq_str]
    by_cases hn : 1 ≤ n ∧ n ≤ 999999999
    · have h1 : decide (nameI n = ⟨#[]⟩) = false := by rw [nameI_in hn]; exact decide_eq_false (nameL_ne_empty _)
      refine ifF (decide_eq_false (by omega)) ?_
      rw [h1, nameI_eq hn]
      refine ifF (by rw [decide_eq_false (show ¬ n > 999999999 by omega)]; rfl) ?_
      refine ifT rfl ?_
      refine ifF (by simp) ?_
      refine good_ok _ w7 (by have := nameI_size n; omega) _ fun w14 m14 => ⟨_, rfl, ?_⟩
      rw [nameI_in hn, good_name (by omega)]
      exact ifF rfl (m07.trans m14)
    · have h1 : decide (nameI n = ⟨#[]⟩) = true := by rw [nameI_empty hn]; exact decide_eq_true rfl
      rw [h1]
      by_cases h0 : n < 1
      · refine ifT (decide_eq_true h0) ?_
        exact ifF rfl (ifF rfl m07)
      · refine ifF (decide_eq_false h0) ?_
        refine ifF (by rw [decide_eq_true (show n > 999999999 by omega)]; rfl) (ifF rfl m07)
  intro _ w17 m17
  refine newL_ok (hV.no m17) (Nat.le_trans h6 m17.size) 100000 (by omega) _ fun w19 s h19 => ⟨_, rfl, ?_⟩
  refine openN_ok h19 (by omega) (by omega) _ fun w22 g a l p24 n25 c26 p27 n28 c29 h22 f22 z22 pt22 => ⟨_, _, _, _, _, _, _, _, rfl, ifF rfl ?_⟩
  -- five records, each flushed
  refine ⟨fun x w' => ∃ (i : Nat) (a' : AS) (l' : AL) (recs : List Bs), x = i ∧ i ≤ 5 ∧ LB w17 w' s g a' l' ∧ Fine 100000 a' l' [] recs [] (16 + i * 1100) (2 + i * 2) ∧ a'.left = 0, fun x _ => (5 - x).toNat, ⟨0, a, l, [], rfl, by omega, h22, f22, z22⟩, ?_⟩
  rintro _ _ w35 ⟨i, a1, l1, recs, rfl, hi, h35, f35, z35⟩
  have apart : ∀ {w' : World} {F G : Nat → Prop}, (∀ k, F k ∨ G k → w17.heap.size ≤ k) → 0 < bl → ∀ k, rowB ba k → ¬ (F k ∨ G k) := fun hlo h0 k hk hx => by
    have := hlo k hx
    have := hb.lt h0 k hk
    have := m17.size
    omega
  refine ifK_dec (fun hlt => ?_) fun hge => ?_
  · obtain ⟨F, G, q1, q2, q3⟩ := h35
    obtain ⟨e1, f1⟩ := f35.add (b := b) (by omega) (by simp)
    refine add_ok q1 (hb.no (m17.trans q2)) _ fun w37 hp => ?_
    rw [e1] at hp ⊢
    refine ⟨_, rfl, ifF rfl ?_⟩
    obtain ⟨F, G, q1, q2, q3⟩ := LB.next q2 q3 hp
    refine flush_ok q1 _ fun w40 hp => ?_
    rcases f1.flush (Q := fun _ _ => True) (by omega) (by omega) (fun _ _ => trivial) with ⟨_, _, _, hx, _⟩ | ⟨a2, l2, e2, f2, _, z2, _⟩
    · exact absurd z35 hx
    rw [e2] at hp ⊢
    refine ⟨_, rfl, ifF rfl ⟨⟨i + 1, a2, l2, recs ++ ([] ++ [b]), ?_, by omega, LB.next q2 q3 hp, f2.mono (by omega) (by omega), z2 z35⟩, ?_⟩⟩
    · rw [wrap64 (by omega) (by omega)]; omega
    · rw [wrap64 (by omega) (by omega)]; simp only; omega
  · obtain ⟨F, G, q1, q2, q3⟩ := h35
    refine mark_ok q1 (hb.no (m17.trans q2)) (apart (w' := w35) q3) _ fun w43 hp => ?_
    rcases f35.mark (c := b) (Q := fun _ _ => True) (by omega) (by omega) (by omega) (fun _ _ => trivial) trivial with ⟨_, _, _, hx, _⟩ | ⟨a2, l2, e2, f2, _, pl2, z2, _⟩
    · exact absurd z35 hx
    rw [e2] at hp ⊢
    have h43 := LB.next q2 q3 hp
    refine ⟨_, rfl, ifF rfl ?_⟩
    obtain ⟨F, G, q1, q2, q3⟩ := h43
    refine partsM_ok q1 _ fun w46 p n' c hn' m46 => ⟨_, _, _, rfl, ?_⟩
    rw [pl2] at hn'
    subst hn'
    refine ifF rfl ?_
    have h46 : LB w17 w46 s g a2 l2 := LB.no ⟨F, G, q1, q2, q3⟩ m46
    refine openF_ok h46 f2 (by omega) _ fun w51 q p53 n54 n55 p56 n58 h51 r51 b51 => ⟨_, _, _, _, _, _, _, _, rfl, ifT rfl ?_⟩
    refine same_ok r51 (hb.no (m17.trans h51.mod)) _ ⟨_, rfl, ifT (decide_eq_true rfl) (ifT rfl ?_)⟩
    exact lives w51 (m17.trans h51.mod) _ fun w64 m64 => ⟨_, rfl, hR w64 m64⟩
end Go.Proofs.YtgjdandnncjegaaGreatDoor

/- A row of two pointers, read. It names no program. -/
namespace Go.Proofs.YtgjdandnncjegaaGreatDoor.St
open Go
theorem index2p {P : Program} {t e : TypeId} {i : TypeInfo} (w : World) (hu : P.underlying t = some (.array 2 e)) (hi : P.info? e = some i) (hs : i.size = 1) (ha : (isAgg e).run P w = .ok false w) (p q : Option Addr) (n : Nat) (hn : n < 2) :
    (Instr.index t (.agg #[.pointer p, .pointer q]) (.int .i64 n)).run P w = .ok (.pointer (if n = 0 then p else q)) w := by
  have h : n = 0 ∨ n = 1 := by omega
  rcases h with rfl | rfl
  · simp [Instr.index, asIntOf, run_underlying' hu, Result.andThen, part, ha, sizeOf, typeInfo, hi]
  · simp [Instr.index, asIntOf, run_underlying' hu, Result.andThen, part, ha, sizeOf, typeInfo, hi, hs]
/-- t is a row of two pointers. -/
def ixOk (P : Program) (t : TypeId) : Bool :=
  match P.underlying t with
  | some (.array 2 e) => (match P.underlying e with | some (.pointer _) => true | _ => false) && (match P.info? e with | some i => Nat.beq i.size 1 | none => false)
  | _ => false
theorem index2 {P : Program} {t : TypeId} (ho : ixOk P t = true) (w : World) (p q : Option Addr) (n : Nat) (hn : n < 2) :
    (Instr.index t (.agg #[.pointer p, .pointer q]) (.int .i64 n)).run P w = .ok (.pointer (if n = 0 then p else q)) w := by
  unfold ixOk at ho
  split at ho
  · rename_i e hu
    rw [Bool.and_eq_true] at ho
    obtain ⟨h1, h2⟩ := ho
    split at h1
    · rename_i u hp
      split at h2
      · rename_i i hi
        exact index2p w hu hi (Nat.eq_of_beq_eq_true h2) (by simp [isAgg, run_underlying' hp]) p q n hn
      · cases h2
    · cases h1
  · cases ho
end Go.Proofs.YtgjdandnncjegaaGreatDoor.St

/- The walk of LedgerNone. -/
namespace Go.Proofs.YtgjdandnncjegaaGreatDoor
open Go Go.Proofs.YtgjdandnncjegaaGreatDoor.St

/-- No ledger that a call made. -/
def Zl (w : World) (p : Option Addr) : Prop := p = none ∨ ∃ z, p = some ⟨z, 0, none⟩ ∧ w.heap[z]? = some (.cells #[.pointer none, .int .i64 0, .int .i64 0, .slice none 0 0, .bool false] 47 (0, 0))
section
variable {w w' : World} {p : Option Addr}
theorem Zl.no (h : Zl w p) (hm : Mod no w w') : Zl w' p := h.imp id fun ⟨z, h1, h2⟩ => ⟨z, h1, hm.at' h2⟩
theorem may_z (h : Zl w p) (R : Value → World → Prop) (hR : R (.int .i64 1) w) : Ca Tryz.prog 38 #[.pointer p] w R := by
  refine ca38 p w R ?_
  rcases h with rfl | ⟨z, rfl, hc⟩
  · exact ifT rfl hR
  · exact ifF rfl ⟨_, by rw [cl1 hc]; rfl, ifT rfl hR⟩
theorem add_z (h : Zl w p) {ba : Option Addr} {bl bc : Nat} (R : Value → World → Prop) (hR : R (.int .i64 1) w) : Ca Tryz.prog 11 #[.pointer p, .slice ba bl bc] w R := by
  refine ca11 p ba bl bc w R ?_
  exact may_z h _ ⟨_, rfl, ifT rfl hR⟩
theorem flush_z (h : Zl w p) (R : Value → World → Prop) (hR : ∀ w', Mod no w w' → R (.int .i64 1) w') : Ca Tryz.prog 13 #[.pointer p] w R := by
  refine ca13 p w R ?_
  refine newG _ w _ fun w0 B0 m0 _ => ⟨_, by rw [cl B0]; rfl, ?_⟩
  exact may_z (h.no m0) _ ⟨_, rfl, ifT rfl (hR w0 m0)⟩
theorem mark_z (h : Zl w p) {ba : Option Addr} {bl bc : Nat} (R : Value → World → Prop) (hR : ∀ w', Mod no w w' → R (.int .i64 1) w') : Ca Tryz.prog 19 #[.pointer p, .slice ba bl bc] w R := by
  refine ca19 p ba bl bc w R ?_
  refine newG _ w _ fun w0 B0 m0 _ => ⟨_, by rw [cl B0]; rfl, ?_⟩
  exact may_z (h.no m0) _ ⟨_, rfl, ifT rfl (hR w0 m0)⟩
theorem pending_z (h : Zl w p) (R : Value → World → Prop) (hR : R (.int .i64 0) w) : Ca Tryz.prog 22 #[.pointer p] w R := by
  refine ca22 p w R ?_
  rcases h with rfl | ⟨z, rfl, hc⟩
  · exact ifT rfl hR
  · exact ifF rfl ⟨_, _, _, by rw [cl1 hc]; rfl, hR⟩
theorem parts_z (h : Zl w p) (R : Value → World → Prop) (hR : R (.slice none 0 0) w) : Ca Tryz.prog 20 #[.pointer p] w R := by
  refine ca20 p w R ?_
  refine may_z h _ ⟨_, rfl, ifT rfl ?_⟩
  rcases h with rfl | ⟨z, rfl, hc⟩
  · exact ifT rfl hR
  · exact ifF rfl ⟨_, by rw [cl1 hc]; rfl, ifT rfl hR⟩
theorem open_nil (part : Int) (R : Value → World → Prop) (hR : ∀ w', Mod no w w' → R (.tuple #[.pointer none, .slice none 0 0, .slice none 0 0, .int .i64 1]) w') : Ca Tryz.prog 9 #[.pointer none, .int .i64 part] w R := by
  refine ca9 none part w R ?_
  refine newG _ w _ fun w0 B0 m0 _ => ⟨_, by rw [cl B0]; rfl, ?_⟩
  refine ca15 none _ w0 _ ?_
  refine ca48 none _ w0 _ ?_
  refine ca62 none w0 _ ?_
  refine ifT rfl ⟨_, rfl, ifT rfl ⟨_, _, rfl, ifT rfl ⟨_, _, _, _, rfl, ifT rfl (hR w0 m0)⟩⟩⟩
end
theorem noneL_walk (ba : Option Addr) (bl bc : Nat) (n : Int) (w : World) (hV : Vars w) (h6 : 6 ≤ w.heap.size) (R : Value → World → Prop) (hR : ∀ w', Mod no w w' → R (.bool true) w') :
    Ca Tryz.prog 5 #[.slice ba bl bc, .int .i64 n] w R := by
  refine ca5 ba bl bc n w R ?_
  refine newG _ w _ fun w0 B0 m0 _ => ?_
  refine ⟨fun x w' => ∃ i : Nat, x = i ∧ i ≤ 2 ∧ Mod no w0 w', fun x _ => (2 - x).toNat, ⟨0, rfl, by omega, Mod.refl _ _⟩, ?_⟩
  rintro _ _ w5 ⟨i, rfl, hi, m5⟩
  refine ifK_dec (fun hlt => ?_) fun hge => ?_
  · refine ⟨_, w5, St.index2 (t := 48) (by kernel_rfl) w5 _ _ i (by omega), _, rfl, ?_⟩
    have hz : Zl w5 (if i = 0 then none else some ⟨w.heap.size, 0, none⟩) := by
      split
      · exact .inl rfl
      · exact .inr ⟨_, rfl, m5.at' B0⟩
    refine add_z hz _ ⟨_, rfl, ifF rfl ?_⟩
    refine flush_z hz _ fun w13 m13 => ⟨_, rfl, ifF rfl ?_⟩
    refine mark_z (hz.no m13) _ fun w16 m16 => ⟨_, rfl, ifF rfl ?_⟩
    have hz16 := (hz.no m13).no m16
    refine pending_z hz16 _ ⟨_, rfl, parts_z hz16 _ ⟨_, _, _, rfl, ifF (by rfl) ?_⟩⟩
    have e1 : IntKind.i64.wrap ((i : Int) + 1) = ((i + 1 : Nat) : Int) := by rw [wrap64 (by omega) (by omega)]; rfl
    rw [e1]
    exact ⟨⟨i + 1, rfl, by omega, (m5.trans m13).trans m16⟩, by simp only; omega⟩
  · refine open_nil n _ fun w27 m27 => ⟨_, _, _, _, _, _, _, _, rfl, ifT rfl (ifT rfl ?_)⟩
    have m := (m0.trans m5).trans m27
    exact lives_ok (hV.no m) (Nat.le_trans h6 m.size) _ fun w37 m37 => ⟨_, rfl, hR w37 (m.trans m37)⟩
end Go.Proofs.YtgjdandnncjegaaGreatDoor

/- The acts of the statements, as they lie; light; rows of arguments' bytes. -/
namespace Go.Proofs.YtgjdandnncjegaaGreatDoor
open Go Go.Proofs.YtgjdandnncjegaaGreatDoor.St

structure LAct where
  kind : Int
  d : Bs
def actV (x : LAct) (p : Option Addr) (n m : Nat) (s : ByteArray) (k1 k2 : Int) : List Value := [.int .i64 x.kind, .slice p n m, .string s, .int .i64 k1, .int .i64 k2]
/-- The row a[:l] holds these acts. -/
def Acts (w : World) (a : Option Addr) (l : Nat) (xs : List LAct) : Prop :=
  xs.length = l ∧ ∀ i x, xs[i]? = some x → ∃ ad p n m s k1 k2, a = some ad ∧ (∀ j v, (actV x p n m s k1 k2)[j]? = some v → w.cell? (Addr.add (Addr.add ad (i * 5)) j) = some v) ∧ Rd w p n m x.d
theorem Acts.no {w w' : World} {a : Option Addr} {l : Nat} {xs : List LAct} (h : Acts w a l xs) (hm : Mod no w w') : Acts w' a l xs :=
  ⟨h.1, fun i x hx => let ⟨ad, p, n, m, s, k1, k2, h1, h2, h3⟩ := h.2 i x hx; ⟨ad, p, n, m, s, k1, k2, h1, fun j v hj => cell_mod hm (h2 j v hj) id, h3.no hm⟩⟩
/-- A record of five words, copied. -/
theorem copy5 {t : TypeId} (z0 z1 z2 z3 z4 v0 v1 v2 v3 v4 : Value) (w5 : World) (K : World → Prop) (hK : ∀ w24, w24.heap[w5.heap.size]? = some (.cells #[v0, v1, v2, v3, v4] t (0, 0)) → Mod no w5 w24 → K w24) :
    atW (w5.alloc (.cells #[z0, z1, z2, z3, z4] t)) fun w14 => st1 (Addr.add ⟨w5.heap.size, 0, none⟩ 0) v0 w14 fun w16 => st1 (Addr.add ⟨w5.heap.size, 0, none⟩ 1) v1 w16 fun w18 => st1 (Addr.add ⟨w5.heap.size, 0, none⟩ 2) v2 w18 fun w20 =>
      st1 (Addr.add ⟨w5.heap.size, 0, none⟩ 3) v3 w20 fun w22 => st1 (Addr.add ⟨w5.heap.size, 0, none⟩ 4) v4 w22 fun w24 => K w24 := by
  refine newG _ w5 _ fun w14 B14 m14 _ => ?_
  have step : ∀ {w : World} {cs : Array Value}, w.heap[w5.heap.size]? = some (.cells cs t (0, 0)) → Mod no w5 w → ∀ (i : Nat) (v : Value) (K' : World → Prop), i < cs.size → (∀ w', w'.heap[w5.heap.size]? = some (.cells (cs.setIfInBounds i v) t (0, 0)) → Mod no w5 w' → K' w') →
      st1 (Addr.add ⟨w5.heap.size, 0, none⟩ i) v w K' := by
    intro w cs hb hm i v K' hi hK'
    refine ⟨⟨_, by rw [cl1 hb]; exact Array.getElem?_eq_getElem hi⟩, fz1 hb _, fun w' e => ?_⟩
    have m : Mod (on w5.heap.size) w w' := by subst e; exact Mod.set1 _ _ _ _
    have b : w'.heap[w5.heap.size]? = some (.cells (cs.setIfInBounds i v) t (0, 0)) := by subst e; rw [set1 hb]
    exact hK' w' b (hm.new m fun k hk => by cases hk; exact Nat.le_refl _)
  exact step B14 m14 0 v0 _ (by simp) fun w1 b1 m1 => step b1 m1 1 v1 _ (by simp) fun w2 b2 m2 => step b2 m2 2 v2 _ (by simp) fun w3 b3 m3 => step b3 m3 3 v3 _ (by simp) fun w4 b4 m4 => step b4 m4 4 v4 _ (by simp) fun w5' b5 m5 => hK w5' b5 m5

def lightB : Nat → List LAct → Bool
  | _, [] => true
  | n, x :: r => if 200 < n + (1 + x.d.length / 50) then false else lightB (n + (1 + x.d.length / 50)) r
/-- How heavy acts are. -/
def heavy (xs : List LAct) : Nat := (xs.map fun x => 1 + x.d.length / 50).sum
theorem lightB_heavy : ∀ (xs : List LAct) (n : Nat), n ≤ 200 → lightB n xs = true → n + heavy xs ≤ 200
  | [], n, hn, _ => by simp [heavy]; omega
  | x :: r, n, hn, h => by
    rw [lightB] at h
    split at h
    · cases h
    · have := lightB_heavy r _ (by omega) h
      simp only [heavy, List.map_cons, List.sum_cons] at this ⊢
      omega
theorem light_ok {w : World} {a : Option Addr} {l c : Nat} {xs : List LAct} (h : Acts w a l xs) (hl : l < 4611686018427387904) (hb : ∀ x ∈ xs, x.d.length < 4611686018427387904) (R : Value → World → Prop) (hR : ∀ w', Mod no w w' → R (.bool (lightB 0 xs)) w') :
    Ca Tryz.prog 23 #[.slice a l c] w R := by
  have hxl := h.1
  refine ca23 a l c w R ?_
  refine ⟨fun n x w' => ∃ (k i : Nat), n = k ∧ x = i ∧ i ≤ l ∧ k ≤ 200 ∧ Mod no w w' ∧ lightB k (xs.drop i) = lightB 0 xs, fun _ x _ => ((l : Int) - x).toNat, ⟨0, 0, rfl, rfl, by omega, by omega, Mod.refl _ _, by simp⟩, ?_⟩
  rintro _ _ _ w5 ⟨k, i, rfl, rfl, hi, hk, m5, hg⟩
  refine ifK_dec (fun hlt => ?_) fun hge => ?_
  · have hil : i < xs.length := by omega
    have hdrop : xs.drop i = xs[i] :: xs.drop (i + 1) := List.drop_eq_getElem_cons hil
    rw [hdrop, lightB] at hg
    obtain ⟨ad, p, n, m, s, k1, k2, had, hc, hr⟩ := (h.no m5).2 i xs[i] (by simp [hil])
    have hbi := hb _ (List.getElem_mem hil)
    have hn := hr.len
    have hci : ∀ j v, (actV xs[i] p n m s k1 k2)[j]? = some v → w5.cell? (Addr.add (Addr.add ad (Int.toNat (i : Int) * 5)) j) = some v := hc
    refine ⟨ad, had, by omega, by omega, _, hci 0 _ rfl, _, _, _, hci 1 _ rfl, _, hci 2 _ rfl, _, hci 3 _ rfl, _, hci 4 _ rfl, ?_⟩
    refine copy5 _ _ _ _ _ _ _ _ _ _ w5 _ fun w24 B24 m24 => ?_
    refine ⟨_, _, _, by rw [cl1 B24]; rfl, by decide, ?_⟩
    have e0 : Int.tdiv (n : Int) 50 = ((n / 50 : Nat) : Int) := rfl
    have hn50 : n / 50 ≤ n := Nat.div_le_self _ _
    have e1 : IntKind.i64.wrap ((k : Int) + IntKind.i64.wrap (1 + IntKind.i64.wrap (Int.tdiv (n : Int) 50))) = ((k + (1 + n / 50) : Nat) : Int) := by
      rw [e0, wrap64 (x := ((n / 50 : Nat) : Int)) (by omega) (by omega), wrap64 (x := 1 + ((n / 50 : Nat) : Int)) (by omega) (by omega), wrap64 (by omega) (by omega)]; omega
    have e2 : IntKind.i64.wrap ((i : Int) + 1) = ((i + 1 : Nat) : Int) := by rw [wrap64 (by omega) (by omega)]; rfl
    rw [e1, e2]
    rw [hn] at hg
    refine ifK_dec (fun hgt => ?_) fun hle => ?_
    · rw [if_pos (by omega)] at hg
      rw [hg]
      exact hR w24 (m5.trans m24)
    · rw [if_neg (by omega)] at hg
      exact ⟨⟨k + (1 + n / 50), i + 1, rfl, rfl, by omega, by omega, m5.trans m24, hg⟩, by simp only; omega⟩
  · rw [List.drop_of_length_le (by omega), lightB] at hg
    rw [hg]
    exact hR w5 m5

/-! ### Own rows of others' bytes -/
/-- The row a[:l:c], in blocks of X, holds rows of bytes that lie ahead of b0. -/
def AIn (X : Nat → Prop) (b0 : Nat) (w : World) (a : Option Addr) (l c : Nat) (xs : List Bs) : Prop :=
  ∃ ss : List Sl, Els slv 27 w a l c ss ∧ ss.length = xs.length ∧ (∀ k, rowB a k → X k ∧ b0 ≤ k) ∧ ∀ (i : Nat) (s : Sl) (b : Bs), ss[i]? = some s → xs[i]? = some b → Rd w s.1 s.2.1 s.2.2 b ∧ (0 < s.2.1 → ∀ k, rowB s.1 k → k < b0)
section
variable {X : Nat → Prop} {b0 : Nat} {w w' : World} {a : Option Addr} {l c : Nat} {xs : List Bs} {T : Nat → Prop}
theorem AIn.nil (X : Nat → Prop) (b0 : Nat) (w : World) : AIn X b0 w none 0 0 [] := ⟨[], Els.nil _ _, rfl, fun k hk => by simp [rowB] at hk, fun i s b hs _ => by cases hs⟩
theorem AIn.len (h : AIn X b0 w a l c xs) : xs.length = l := by
  obtain ⟨ss, h1, h2, _, _⟩ := h
  have := h1.len
  omega
theorem AIn.mod (h : AIn X b0 w a l c xs) (hm : Mod T w w') (hT : ∀ k, T k → b0 ≤ k) (hX : ∀ k, rowB a k → ¬ T k) : AIn X b0 w' a l c xs := by
  obtain ⟨ss, h1, h2, h3, h4⟩ := h
  exact ⟨ss, row_mod h1 hm hX, h2, h3, fun i s b hs' hb => ⟨(h4 i s b hs' hb).1.mod' hm fun h0 k hk ht => by have := (h4 i s b hs' hb).2 h0 k hk; have := hT k ht; omega, (h4 i s b hs' hb).2⟩⟩
theorem AIn.no (h : AIn X b0 w a l c xs) (hm : Mod no w w') : AIn X b0 w' a l c xs := h.mod hm (fun _ hk => hk.elim) fun _ _ => id
theorem AIn.mono {Y : Nat → Prop} (h : AIn X b0 w a l c xs) (hX : ∀ k, rowB a k → X k → Y k) : AIn Y b0 w a l c xs :=
  let ⟨ss, h1, h2, h3, h4⟩ := h
  ⟨ss, h1, h2, fun k hk => ⟨hX k hk (h3 k hk).1, (h3 k hk).2⟩, h4⟩
theorem AIn.row (h : AIn X b0 w a l c xs) : ∀ k, rowB a k → X k ∧ b0 ≤ k ∧ k < w.heap.size := by
  obtain ⟨ss, h1, h2, h3, h4⟩ := h
  intro k hk
  obtain ⟨cs, hc⟩ := slv_row h1 hk
  exact ⟨(h3 k hk).1, (h3 k hk).2, lt_of_heap hc⟩
theorem AIn.rr (h : AIn X b0 w a l c xs) : RR w a l xs := by
  obtain ⟨ss, h1, h2, h3, h4⟩ := h
  have hl := h1.len.1
  refine ⟨by omega, fun i b hb => ?_⟩
  obtain ⟨hi, rfl⟩ := List.getElem?_eq_some_iff.1 hb
  have hall := h1.all slone
  cases a with
  | none => have := hall.2 rfl; omega
  | some ad => exact ⟨ad, ss[i], rfl, hall.1 ad rfl _ _ (by rw [Nat.mul_one]; simp [show i < ss.length by omega]), (h4 i ss[i] xs[i] (by simp) (by simp)).1⟩
/-- append(rows, row). -/
theorem AIn.push (h : AIn X b0 w a l c xs) {s : Sl} {b : Bs} (hs : Rd w s.1 s.2.1 s.2.2 b) (hlo : 0 < s.2.1 → ∀ k, rowB s.1 k → k < b0) (hb0 : b0 ≤ w.heap.size) {k : Nat} {e' : TypeId} (hk : w.heap[k]? = some (.cells #[slv s] e' (0, 0))) (hn : l + 1 ≤ 1099511627776) :
    ∃ a' c' w', (Builtin.append_ #[22, 22] 22 #[.slice a l c, .slice (some ⟨k, 0, none⟩) 1 1]).run Tryz.prog w = .ok (.slice a' (l + 1) c') w' ∧ AIn (fun k => X k ∨ w.heap.size ≤ k) b0 w' a' (l + 1) c' (xs ++ [b]) ∧
      Mod (rowB a) w w' ∧ (∀ k, rowB a' k → rowB a k ∨ w.heap.size ≤ k) := by
  obtain ⟨ss, h1, h2, h3, h4⟩ := h
  obtain ⟨a', c', w', hrun, r, m, hb⟩ := h1.push1 (P := Tryz.prog) (t := 22) (ty := 22) slone rowsLaid hk hn
  refine ⟨a', c', w', hrun, ⟨_, r, by simp [h2], fun k hk => ?_, fun i t b' ht hb' => ?_⟩, m, hb⟩
  · rcases hb k hk with h | h
    · exact ⟨.inl (h3 k h).1, (h3 k h).2⟩
    · exact ⟨.inr h, by omega⟩
  · by_cases hi : i < ss.length
    · rw [List.getElem?_append_left hi] at ht
      rw [List.getElem?_append_left (by omega)] at hb'
      exact ⟨(h4 i t b' ht hb').1.mod' m fun h0 k hk ht' => by have := (h4 i t b' ht hb').2 h0 k hk; have := (h3 k ht').2; omega, (h4 i t b' ht hb').2⟩
    · rw [List.getElem?_append_right (by omega)] at ht
      rw [List.getElem?_append_right (by omega), ← h2] at hb'
      have : i - ss.length = 0 := by
        apply Classical.byContradiction
        intro hne
        rw [List.getElem?_eq_none (by simp; omega)] at ht
        cases ht
      rw [this] at ht hb'
      simp only [List.getElem?_cons_zero, Option.some.injEq] at ht hb'
      subst ht; subst hb'
      exact ⟨hs.mod' m fun h0 k hk ht' => by have := hlo h0 k hk; have := (h3 k ht').2; omega, hlo⟩
/-- append(rows, rows ..). -/
theorem AIn.cat (h : AIn X b0 w a l c xs) {Y : Nat → Prop} {p : Option Addr} {n m : Nat} {ys : List Bs} (h' : AIn Y b0 w p n m ys) (hb0 : b0 ≤ w.heap.size) (hn : l + n ≤ 1099511627776) :
    ∃ a' c' w', (Builtin.append_ #[22, 22] 22 #[.slice a l c, .slice p n m]).run Tryz.prog w = .ok (.slice a' (l + n) c') w' ∧ AIn (fun k => X k ∨ w.heap.size ≤ k) b0 w' a' (l + n) c' (xs ++ ys) ∧
      Mod (rowB a) w w' ∧ (∀ k, rowB a' k → rowB a k ∨ w.heap.size ≤ k) := by
  obtain ⟨ss, h1, h2, h3, h4⟩ := h
  obtain ⟨ts, g1, g2, g3, g4⟩ := h'
  obtain ⟨a', c', w', hrun, r, mm, hb⟩ := h1.push (P := Tryz.prog) (t := 22) (ty := 22) slone rowsLaid (ys := ts) g1.len.1 (g1.all slone).1 (g1.all slone).2 hn
  refine ⟨a', c', w', hrun, ⟨_, r, by simp [h2, g2], fun k hk => ?_, fun i t b' ht hb' => ?_⟩, mm, hb⟩
  · rcases hb k hk with h | h
    · exact ⟨.inl (h3 k h).1, (h3 k h).2⟩
    · exact ⟨.inr h, by omega⟩
  · by_cases hi : i < ss.length
    · rw [List.getElem?_append_left hi] at ht
      rw [List.getElem?_append_left (by omega)] at hb'
      exact ⟨(h4 i t b' ht hb').1.mod' mm fun h0 k hk ht' => by have := (h4 i t b' ht hb').2 h0 k hk; have := (h3 k ht').2; omega, (h4 i t b' ht hb').2⟩
    · rw [List.getElem?_append_right (by omega)] at ht
      rw [List.getElem?_append_right (by omega), ← h2] at hb'
      exact ⟨(g4 _ t b' ht hb').1.mod' mm fun h0 k hk ht' => by have := (g4 _ t b' ht hb').2 h0 k hk; have := (h3 k ht').2; omega, (g4 _ t b' ht hb').2⟩
end
end Go.Proofs.YtgjdandnncjegaaGreatDoor

/- The walk of LedgerTells. -/
namespace Go.Proofs.YtgjdandnncjegaaGreatDoor
open Go Go.Proofs.YtgjdandnncjegaaGreatDoor.St

theorem heavy_snoc {xs : List LAct} {i : Nat} (h : i < xs.length) : heavy (xs.take (i + 1)) = heavy (xs.take i) + (1 + xs[i].d.length / 50) := by
  rw [List.take_succ_eq_append_getElem h, heavy, List.map_append, List.sum_append]
  simp [heavy]
theorem heavy_take (xs : List LAct) (i : Nat) : heavy (xs.take i) ≤ heavy xs ∧ (xs.take i).length ≤ heavy (xs.take i) := by
  have h1 : ∀ ys : List LAct, ys.length ≤ heavy ys := by
    intro ys
    induction ys with
    | nil => exact Nat.le_refl _
    | cons y ys ih => simp only [heavy, List.map_cons, List.sum_cons, List.length_cons] at *; omega
  refine ⟨?_, h1 _⟩
  have : heavy xs = heavy (xs.take i) + heavy (xs.drop i) := by
    conv => lhs; rw [← List.take_append_drop i xs]
    rw [heavy, List.map_append, List.sum_append]; rfl
  omega

section
variable {w0 w w' : World} {s g : Nat} {F G F' G' : Nat → Prop} {a b : AS} {l m : AL} {p : Option Addr} {n c : Nat} {xs : List Bs}
theorem AIn.step (h : AIn (fun k => ¬ (F k ∨ G k)) w0.heap.size w p n c xs) (hF : ∀ k, F' k → F k ∨ w.heap.size ≤ k) (hG : ∀ k, G' k → G k ∨ w.heap.size ≤ k) (hm : Mod (fun k => F k ∨ G k) w w') (lo : ∀ k, F k ∨ G k → w0.heap.size ≤ k) :
    AIn (fun k => ¬ (F' k ∨ G' k)) w0.heap.size w' p n c xs := by
  have hr := h.row
  refine (h.mod hm lo fun k hk => (hr k hk).1).mono fun k hk _ hx => ?_
  have := hr k hk
  rcases hx with hx | hx
  · rcases hF k hx with h' | h'
    · exact this.1 (.inl h')
    · omega
  · rcases hG k hx with h' | h'
    · exact this.1 (.inr h')
    · omega
end
/-- What a law that keeps its own lists holds at rest. -/
structure Tell (w0 w : World) (s g : Nat) (F G : Nat → Prop) (a : AS) (l : AL) (chk : Bs) (sure waits : List Bs) (cp : Option Addr) (cn cc : Nat) (sp : Option Addr) (sn sc : Nat) (wp : Option Addr) (wn wc : Nat) : Prop where
  ls : LS w s g F G a l
  md : Mod no w0 w
  lo : ∀ k, F k ∨ G k → w0.heap.size ≤ k
  chk : Rd w cp cn cc chk
  chkO : 0 < cn → ∀ k, rowB cp k → k < w0.heap.size
  sure : AIn (fun k => ¬ (F k ∨ G k)) w0.heap.size w sp sn sc sure
  wait : AIn (fun k => ¬ (F k ∨ G k)) w0.heap.size w wp wn wc waits
  off : ∀ k, rowB sp k → ¬ rowB wp k
section
variable {w0 w w' : World} {s g : Nat} {F G F' G' : Nat → Prop} {a b : AS} {l m : AL} {chk chk' : Bs} {sure waits : List Bs} {cp : Option Addr} {cn cc : Nat} {sp : Option Addr} {sn sc : Nat} {wp : Option Addr} {wn wc : Nat}
theorem Tell.no (h : Tell w0 w s g F G a l chk sure waits cp cn cc sp sn sc wp wn wc) (hm : Mod St.no w w') : Tell w0 w' s g F G a l chk sure waits cp cn cc sp sn sc wp wn wc :=
  ⟨h.ls.no hm, h.md.trans hm, h.lo, h.chk.no hm, h.chkO, h.sure.no hm, h.wait.no hm, h.off⟩
/-- The ledger has moved: what the law keeps of its own stands. -/
theorem Tell.rows (h : Tell w0 w s g F G a l chk sure waits cp cn cc sp sn sc wp wn wc) (hp : LSP s g F G w b m w') : ∃ F' G', LS w' s g F' G' b m ∧ Mod St.no w0 w' ∧ (∀ k, F' k ∨ G' k → w0.heap.size ≤ k) ∧ Rd w' cp cn cc chk ∧
    AIn (fun k => ¬ (F' k ∨ G' k)) w0.heap.size w' sp sn sc sure ∧ AIn (fun k => ¬ (F' k ∨ G' k)) w0.heap.size w' wp wn wc waits ∧ Mod (fun k => F k ∨ G k) w w' := by
  obtain ⟨F', G', g1, g2, g3, g4⟩ := hp
  refine ⟨F', G', g1, h.md.new g4 h.lo, fun k hk => ?_, h.chk.mod' g4 fun h0 k hk hx => ?_, h.sure.step g2 g3 g4 h.lo, h.wait.step g2 g3 g4 h.lo, g4⟩
  · have := h.md.size
    rcases hk with hk | hk
    · rcases g2 k hk with h' | h'
      · exact h.lo k (.inl h')
      · omega
    · rcases g3 k hk with h' | h'
      · exact h.lo k (.inr h')
      · omega
  · have := h.chkO h0 k hk
    have := h.lo k hx
    omega
theorem Tell.push (h6 : 6 ≤ w0.heap.size) (h : Tell w0 w s g F G a l chk sure waits cp cn cc sp sn sc wp wn wc) {b : Bs} {q : Sl} (hs : Rd w q.1 q.2.1 q.2.2 b) (hlo : 0 < q.2.1 → ∀ k, rowB q.1 k → k < w0.heap.size) {z : Nat} {e' : TypeId} (hz : w.heap[z]? = some (.cells #[slv q] e' (0, 0))) (hn : wn + 1 ≤ 1099511627776) :
    ∃ a' c' w', (Builtin.append_ #[22, 22] 22 #[.slice wp wn wc, .slice (some ⟨z, 0, none⟩) 1 1]).run Tryz.prog w = .ok (.slice a' (wn + 1) c') w' ∧ Tell w0 w' s g F G a l chk sure (waits ++ [b]) cp cn cc sp sn sc a' (wn + 1) c' := by
  obtain ⟨a', c', w', hrun, hA, hm, hb⟩ := h.wait.push hs hlo h.md.size hz hn
  have hr := h.wait.row
  have hsr := h.sure.row
  have lo' : ∀ k, rowB wp k → w0.heap.size ≤ k := fun k hk => (hr k hk).2.1
  refine ⟨a', c', w', hrun, ⟨h.ls.mod hm (fun k hk hx => (hr k hx).1 hk) (fun k hk hx => by have := lo' k hx; omega), h.md.new hm lo', h.lo, h.chk.mod' hm (fun h0 k hk hx => by have := h.chkO h0 k hk; have := lo' k hx; omega), h.chkO, h.sure.mod hm lo' h.off, hA.mono fun k _ hx => ?_, fun k hk hx => ?_⟩⟩
  · rcases hx with hx | hx
    · exact hx
    · intro hy
      rcases hy with hy | hy
      · have := (h.ls.st.old k hy).2; omega
      · have := (h.ls.old k hy).2; omega
  · rcases hb k hx with hx | hx
    · exact h.off k hk hx
    · have := (hsr k hk).2.2; omega
theorem Tell.cat (h6 : 6 ≤ w0.heap.size) (h : Tell w0 w s g F G a l chk sure waits cp cn cc sp sn sc wp wn wc) (hn : sn + wn ≤ 1099511627776) :
    ∃ a' c' w', (Builtin.append_ #[22, 22] 22 #[.slice sp sn sc, .slice wp wn wc]).run Tryz.prog w = .ok (.slice a' (sn + wn) c') w' ∧ Tell w0 w' s g F G a l chk (sure ++ waits) [] cp cn cc a' (sn + wn) c' none 0 0 := by
  obtain ⟨a', c', w', hrun, hA, hm, hb⟩ := h.sure.cat h.wait h.md.size hn
  have hr := h.sure.row
  have lo' : ∀ k, rowB sp k → w0.heap.size ≤ k := fun k hk => (hr k hk).2.1
  refine ⟨a', c', w', hrun, ⟨h.ls.mod hm (fun k hk hx => (hr k hx).1 hk) (fun k hk hx => by have := lo' k hx; omega), h.md.new hm lo', h.lo, h.chk.mod' hm (fun h0 k hk hx => by have := h.chkO h0 k hk; have := lo' k hx; omega), h.chkO, hA.mono fun k _ hx => ?_, AIn.nil _ _ _, fun k _ hx => by simp [rowB] at hx⟩⟩
  rcases hx with hx | hx
  · exact hx
  · intro hy
    rcases hy with hy | hy
    · have := (h.ls.st.old k hy).2; omega
    · have := (h.ls.old k hy).2; omega
end
/-- Arguments that are acts: their bytes lie ahead of b0. -/
def ActsA (w : World) (a : Option Addr) (l : Nat) (xs : List LAct) : Prop := Acts w a l xs ∧ l < 4611686018427387904 ∧ ∀ x ∈ xs, x.d.length < 4611686018427387904
set_option maxHeartbeats 2000000 in
theorem tells_walk (aa : Option Addr) (al ac : Nat) (part : Int) (xs : List LAct) (w : World) (hV : Vars w) (h6 : 6 ≤ w.heap.size) (hx : ActsA w aa al xs) (hpt : 0 ≤ part ∧ part ≤ 18446744073709551615) (R : Value → World → Prop) (hR : ∀ w', Mod no w w' → R (.bool true) w') :
    Ca Tryz.prog 6 #[.slice aa al ac, .int .u64 part] w R := by
  obtain ⟨hx, hal, hxd⟩ := hx
  have hxl := hx.1
  refine ca6 aa al ac part w R ?_
  have lives : ∀ w1, Mod no w w1 → ∀ K : Value → World → Prop, (∀ w2, Mod no w w2 → K (.bool true) w2) → Ca Tryz.prog 10 #[] w1 K := fun w1 m1 K hK => lives_ok (hV.no m1) (Nat.le_trans h6 m1.size) K fun w2 m2 => hK w2 (m1.trans m2)
  refine light_ok hx hal hxd _ fun w1 m1 => ⟨_, rfl, ifK_not (fun _ => ?_) fun hl => ?_⟩
  · exact lives w1 m1 _ fun w4 m4 => ⟨_, rfl, hR w4 m4⟩
  have hheavy := lightB_heavy xs 0 (by omega) hl
  refine ⟨by decide, ?_⟩
  refine newL_ok (hV.no m1) (Nat.le_trans h6 m1.size) 1048576 (by omega) _ fun w7 s h7 => ⟨_, rfl, ?_⟩
  obtain ⟨pn, hpn, hpn1, hpn2⟩ : ∃ pn : Int, IntKind.i64.wrap (1 + IntKind.i64.wrap (Int.tmod part 500)) = pn ∧ 1 ≤ pn ∧ pn ≤ 1048576 := by
    have e : Int.tmod part 500 = part % 500 := Int.tmod_eq_emod_of_nonneg hpt.1
    refine ⟨1 + part % 500, ?_, by omega, by omega⟩
    rw [e, wrap64 (x := part % 500) (by omega) (by omega), wrap64 (by omega) (by omega)]
  rw [hpn]
  refine openN_ok h7 (by omega) ⟨hpn1, hpn2⟩ _ fun w10 g a l p12 n13 c14 p15 n16 c17 h10 f10 z10 pt10 => ⟨_, _, _, _, _, _, _, _, rfl, ifF rfl ?_⟩
  obtain ⟨F, G, q1, q2, q3⟩ := h10
  refine ⟨fun p22 n23 n24 p25 n26 n27 p28 n29 n30 x w' => ∃ (i : Nat) (F G : Nat → Prop) (a : AS) (l : AL) (chk : Bs) (sure waits : List Bs), x = i ∧ i ≤ al ∧ a.left = 0 ∧
      Fine 1048576 a l chk sure waits (16 + 200 * heavy (xs.take i)) (2 + 2 * i) ∧ sure.length + waits.length ≤ i ∧ Tell w w' s g F G a l chk sure waits p22 n23 n24 p25 n26 n27 p28 n29 n30, fun _ _ _ _ _ _ _ _ _ x _ => ((al : Int) - x).toNat,
    ⟨0, F, G, a, l, [], [], [], rfl, by omega, z10, f10, by simp, ⟨q1, m1.trans q2, fun k hk => Nat.le_trans m1.size (q3 k hk), Rd.nil0 _, fun h => by omega, AIn.nil _ _ _, AIn.nil _ _ _, fun k hk => by simp [rowB] at hk⟩⟩, ?_⟩
  rintro _ p22 n23 n24 p25 n26 n27 p28 n29 n30 _ w32 ⟨i, F, G, a, l, chk, sure, waits, rfl, hi, z32, f32, hcnt, T⟩
  refine ifK_dec (fun hlt => ?_) fun hge => ?_
  · have hil : i < xs.length := by omega
    have hs := heavy_snoc hil
    have ht1 := heavy_take xs (i + 1)
    have ht0 := heavy_take xs i
    rw [List.length_take] at ht1 ht0
    obtain ⟨ad, p, n, m, sx, k1, k2, had, hc, hr⟩ := (hx.no T.md).2 i xs[i] (by simp [hil])
    have hrl := hr.len
    have hci : ∀ j v, (actV xs[i] p n m sx k1 k2)[j]? = some v → w32.cell? (Addr.add (Addr.add ad (Int.toNat (i : Int) * 5)) j) = some v := hc
    have hrlt : 0 < n → ∀ k, rowB p k → k < w.heap.size := by
      obtain ⟨ad', p', n', m', s', k1', k2', g1, g2, g3⟩ := hx.2 i xs[i] (by simp [hil])
      rw [had] at g1
      injection g1 with g1
      subst g1
      have := cell_mod T.md (g2 1 _ rfl) id
      rw [hc 1 _ rfl] at this
      injection this with this
      injection this with e1 e2 e3
      subst e1; subst e2
      exact fun h0 k hk => g3.lt h0 k hk
    refine ⟨ad, had, by omega, by omega, _, hci 0 _ rfl, _, _, _, hci 1 _ rfl, _, hci 2 _ rfl, _, hci 3 _ rfl, _, hci 4 _ rfl, ?_⟩
    refine copy5 _ _ _ _ _ _ _ _ _ _ w32 _ fun w51 B51 m51 => ?_
    have T51 := T.no m51
    have hr51 := hr.no m51
    have hdl : xs[i].d.length ≤ 10000 := by omega
    generalize hd : xs[i].d = d at *
    have hself : ∀ {w' : World}, Mod (fun k => F k ∨ G k) w51 w' → w'.heap[w32.heap.size]? = some (.cells #[.int .i64 xs[i].kind, .slice p n m, .string sx, .int .i64 k1, .int .i64 k2] 54 (0, 0)) := fun hm => hm.at B51 fun hk => by
      rcases hk with hk | hk
      · have := (T.ls.st.old _ hk).2; omega
      · have := (T.ls.old _ hk).2; omega
    refine ⟨fun p92 n93 n94 p95 n96 n97 p98 n99 n100 w' => ∃ (F G : Nat → Prop) (a : AS) (l : AL) (chk : Bs) (sure waits : List Bs), a.left = 0 ∧
      Fine 1048576 a l chk sure waits (16 + 200 * heavy (xs.take (i + 1))) (2 + 2 * (i + 1)) ∧ sure.length + waits.length ≤ i + 1 ∧ Tell w w' s g F G a l chk sure waits p92 n93 n94 p95 n96 n97 p98 n99 n100, ?_, ?_⟩
    · refine ⟨_, by rw [cl1 B51]; rfl, ?_⟩
      refine ifK_eq (fun h0 => ?_) fun h0 => ifK_eq (fun h1 => ?_) fun h1 => ifK_eq (fun h2 => ?_) fun h2 => ?_
      · -- Add
        refine ⟨_, _, _, by rw [cl1 B51]; rfl, ?_⟩
        obtain ⟨e1, f1⟩ := f32.add (b := d) (by omega) (by omega)
        refine add_ok T51.ls hr51 _ fun w58 hp => ?_
        rw [e1] at hp ⊢
        refine ⟨_, rfl, ifF rfl ?_⟩
        obtain ⟨F', G', g1, g2, g3, g4, g5, g6, g7⟩ := T51.rows hp
        have B58 := hself g7
        refine ⟨_, _, _, by rw [cl1 B58]; rfl, ?_⟩
        refine newG _ w58 _ fun w63 B63 m63 _ => ?_
        have T63 := (Tell.mk g1 g2 g3 g4 T51.chkO g5 g6 T51.off).no m63
        obtain ⟨a', c', w65, hrun, T65⟩ := T63.push h6 (q := (p, n, m)) (b := d) ((hr51.mod' g7 fun h0 k hk hx => by have := hrlt h0 k hk; have := T51.lo k hx; omega).no m63) hrlt B63 (by rw [← T51.wait.len]; omega)
        exact ⟨_, w65, hrun, _, _, _, rfl, F', G', a, _, chk, sure, waits ++ [d], z32, f1.mono (by omega) (by omega), by simp; omega, T65⟩
      · -- Flush
        refine flush_ok T51.ls _ fun w70 hp => ?_
        rcases f32.flush (Q := fun _ _ => True) (by omega) (by omega) (fun _ _ => trivial) with ⟨_, _, _, hx, _⟩ | ⟨a2, l2, e2, f2, _, z2, _⟩
        · exact absurd z32 hx
        rw [e2] at hp ⊢
        refine ⟨_, rfl, ifF rfl ?_⟩
        obtain ⟨F', G', g1, g2, g3, g4, g5, g6, g7⟩ := T51.rows hp
        obtain ⟨a', c', w73, hrun, T73⟩ := (Tell.mk g1 g2 g3 g4 T51.chkO g5 g6 T51.off).cat h6 (by rw [← T51.wait.len, ← T51.sure.len]; omega)
        exact ⟨_, w73, hrun, _, _, _, rfl, F', G', a2, l2, chk, sure ++ waits, [], z2 z32, f2.mono (by omega) (by omega), by simp; omega, T73⟩
      · -- Mark
        refine ⟨_, _, _, by rw [cl1 B51]; rfl, ?_⟩
        refine mark_ok T51.ls hr51 (fun h0 k hk hx => by have := hrlt h0 k hk; have := T51.lo k hx; omega) _ fun w81 hp => ?_
        rcases f32.mark (c := d) (Q := fun _ _ => True) (by omega) (by omega) (by omega) (fun _ _ => trivial) trivial with ⟨_, _, _, hx, _⟩ | ⟨a2, l2, e2, f2, _, pl2, z2, _⟩
        · exact absurd z32 hx
        rw [e2] at hp ⊢
        refine ⟨_, rfl, ifF rfl ?_⟩
        obtain ⟨F', G', g1, g2, g3, g4, g5, g6, g7⟩ := T51.rows hp
        refine partsM_ok g1 _ fun w84 p85 n' c' hn' m84 => ⟨_, _, _, rfl, ?_⟩
        rw [pl2] at hn'
        subst hn'
        refine ifF rfl ⟨_, _, _, by rw [cl1 (m84.at' (hself g7))]; rfl, ?_⟩
        exact ⟨F', G', a2, l2, d, [], [], z2 z32, f2.mono (by omega) (by omega), by simp, (Tell.mk g1 g2 g3 ((hr51.mod' g7 fun h0 k hk hx => by have := hrlt h0 k hk; have := T51.lo k hx; omega)) hrlt (AIn.nil _ _ _) (AIn.nil _ _ _) fun k hk => by simp [rowB] at hk).no m84⟩
      · exact ⟨F, G, a, l, chk, sure, waits, z32, f32.mono (by omega) (by omega), by omega, T51⟩
    · rintro _ p92 n93 n94 p95 n96 n97 p98 n99 n100 w101 ⟨F, G, a, l, chk, sure, waits, z1, f1, hc1, T1⟩
      have hw1 := T1.wait.len
      have hs1 := T1.sure.len
      refine pending2_ok T1.ls _ ⟨_, rfl, ifF (by rw [f1.wt, hw1]; simp) ?_⟩
      refine openG_ok T1.ls f1 ⟨hpn1, hpn2⟩ _ fun w106 q p108 n109 c110 p111 c113 hp r106 b106 => ⟨_, _, _, _, _, _, _, _, rfl, ifF rfl ?_⟩
      obtain ⟨F', G', g1, g2, g3, g4, g5, g6, g7⟩ := T1.rows hp
      refine same_ok r106 g4 _ ⟨_, rfl, ifF (by rw [decide_eq_true rfl]; rfl) ?_⟩
      refine same_ok2 b106.rr g5.rr (by omega) _ fun w119 m119 => ⟨_, rfl, ifF (by rw [decide_eq_true rfl]; rfl) ?_⟩
      have e1 : IntKind.i64.wrap ((i : Int) + 1) = ((i + 1 : Nat) : Int) := by rw [wrap64 (by omega) (by omega)]; rfl
      rw [e1]
      exact ⟨⟨i + 1, F', G', a, l, chk, sure, waits, rfl, hil |> fun h => by omega, z1, f1, hc1, (Tell.mk g1 g2 g3 g4 T1.chkO g5 g6 T1.off).no m119⟩, by simp only; omega⟩
  · exact lives w32 T.md _ fun w122 m122 => ⟨_, rfl, hR w122 m122⟩
end Go.Proofs.YtgjdandnncjegaaGreatDoor

/- The walk of LedgerKeeps. -/
namespace Go.Proofs.YtgjdandnncjegaaGreatDoor
open Go Go.Proofs.YtgjdandnncjegaaGreatDoor.St

/-! ### Plain -/
section
variable {room : Int} {a b : AS} {l : AL} {chk : Bs} {recs waits : List Bs} {k n : Nat} {Q : Bs → List Bs → Prop}
theorem Nrm.core {first : Nat} {PS : List (List Bs)} (h : Nrm a first chk PS) (h1 : b.all = a.all) (h2 : b.dir = a.dir) (h3 : b.sure = a.sure) (h4 : b.dark = a.dark) (h5 : b.room = a.room) : Nrm b first chk PS :=
  ⟨h.ok.of_eq h5 h1 h2 h3, by rw [h4]; exact h.on, by rw [h2]; exact h.inj, by rw [h2, h3]; exact h.sure, by rw [h1, h2]; exact h.synced, by rw [h1, h2]; exact h.log, by rw [h2]; exact h.nocom, by rw [h2]; exact h.below⟩
theorem Fine.core (h : Fine room a l chk recs waits k n) (h1 : b.all = a.all) (h2 : b.dir = a.dir) (h3 : b.sure = a.sure) (h4 : b.dark = a.dark) (h5 : b.room = a.room) : Fine room b l chk recs waits k n :=
  ⟨let ⟨f, PS, r1, r2, r3, r4⟩ := h.ex; ⟨f, PS, r1.core h1 h2 h3 h4 h5, r2, r3, r4⟩, h.dead, h.wt, h.ln, by rw [h5]; exact h.rm, by rw [h1]; exact h.kb⟩
theorem Aft.core (h : Aft Q a) (h1 : b.all = a.all) (h2 : b.dir = a.dir) (h3 : b.sure = a.sure) (h5 : b.room = a.room) : Aft Q b :=
  ⟨h.ok.of_eq h5 h1 h2 h3, by rw [h2, h3]; exact h.sure, by rw [h1, h2]; exact h.synced, by rw [h2]; exact h.inj, by rw [h1, h2]; exact h.log⟩
theorem Aft.fail (h : Aft Q a) (keep : Int) : Aft Q (a.fail keep) := by
  cases hd : a.dark with
  | true => rw [AS.fail, if_pos hd]; exact h
  | false =>
    have h' : Aft Q { a with keep := keep } := h.core rfl rfl rfl rfl
    have h2 := h'.dur hd a.count a.left
    have e : (({ a with keep := keep, count := a.count, left := a.left } : AS).fail keep) = { (a.fail keep) with keep := keep } := by
      unfold AS.fail
      rw [hd]
      rfl
    have h7 : Aft Q { (a.fail keep) with keep := keep } := by rw [← e]; exact h2
    exact h7.core rfl rfl rfl rfl
theorem aft_open2 (h : Aft Q a) (ho : a.dark = false) {part : Int} (hp : 1 ≤ part ∧ part ≤ 1048576) : (∃ x, a.openL part = (x, 9, none) ∧ a.left ≠ 0 ∧ Aft Q x) ∨ ∃ a' l c rs, a.openL part = (a', 0, some (l, c, rs)) ∧ Aft Q a' ∧ Q c rs := by
  refine aft_open h ho h.inj hp (G := fun r => (∃ x, r = (x, 9, none) ∧ a.left ≠ 0 ∧ Aft Q x) ∨ ∃ a' l c rs, r = (a', 0, some (l, c, rs)) ∧ Aft Q a' ∧ Q c rs) ?_ ?_
  · exact fun x h1 h2 _ => .inl ⟨x, rfl, h1, h2⟩
  · exact fun a' l c rs _ h2 _ h3 => .inr ⟨a', l, c, rs, rfl, h2, h3⟩
end
theorem plan_eq {a : AS} (h : a.dark = false) {n : Int} (hn : 0 ≤ n) (keep : Int) : a.plan n keep = ({ a with left := n, keep := keep }, 0) := by
  rw [AS.plan, if_neg (by rw [h]; simp), if_neg (by omega)]
/-- What may be told behind a failure. -/
def QK (chk : Bs) (sure waits : List Bs) (mark : Bs) (b : Bool) : Bs → List Bs → Prop := fun d rs => (d = chk ∧ ∃ j, j ≤ waits.length ∧ rs = sure ++ waits.take j) ∨ (b = true ∧ d = mark ∧ rs = [])

/-! ### What the law keeps behind its loop -/
structure Rest (w0 w : World) (s : Nat) (F : Nat → Prop) (a : AS) (chk : Bs) (sure waits : List Bs) (mark : Bs) (cp : Option Addr) (cn cc : Nat) (sp : Option Addr) (sn sc : Nat) (wp : Option Addr) (wn wc : Nat) (mp : Option Addr) (mn mc : Nat) : Prop where
  st : St1 w s F a
  md : Mod no w0 w
  lo : ∀ k, F k → w0.heap.size ≤ k
  chk : Rd w cp cn cc chk
  chkO : 0 < cn → ∀ k, rowB cp k → k < w0.heap.size
  sure : AIn (fun k => ¬ (F k ∨ no k)) w0.heap.size w sp sn sc sure
  wait : AIn (fun k => ¬ (F k ∨ no k)) w0.heap.size w wp wn wc waits
  mrk : Rd w mp mn mc mark
  mrkO : 0 < mn → ∀ k, rowB mp k → k < w0.heap.size
section
variable {w0 w w' : World} {s g : Nat} {F G : Nat → Prop} {a b : AS} {l : AL} {chk mark : Bs} {sure waits : List Bs} {cp : Option Addr} {cn cc : Nat} {sp : Option Addr} {sn sc : Nat} {wp : Option Addr} {wn wc : Nat} {mp : Option Addr} {mn mc : Nat}
theorem Rest.no (h : Rest w0 w s F a chk sure waits mark cp cn cc sp sn sc wp wn wc mp mn mc) (hm : Mod St.no w w') : Rest w0 w' s F a chk sure waits mark cp cn cc sp sn sc wp wn wc mp mn mc :=
  ⟨h.st.no hm, h.md.trans hm, h.lo, h.chk.no hm, h.chkO, h.sure.no hm, h.wait.no hm, h.mrk.no hm, h.mrkO⟩
theorem Rest.step (h : Rest w0 w s F a chk sure waits mark cp cn cc sp sn sc wp wn wc mp mn mc) (hp : St1P s F w b w') : ∃ F', Rest w0 w' s F' b chk sure waits mark cp cn cc sp sn sc wp wn wc mp mn mc ∧ Mod F w w' := by
  obtain ⟨F', g1, g2, g3⟩ := hp
  have hz := h.md.size
  have g4 : Mod (fun k => F k ∨ St.no k) w w' := g3.mono fun k _ hk => .inl hk
  have lo' : ∀ k, F k ∨ St.no k → w0.heap.size ≤ k := fun k hk => hk.elim (h.lo k) fun hk => hk.elim
  refine ⟨F', ⟨g1, h.md.new g3 h.lo, fun k hk => (g2 k hk).elim (h.lo k) (Nat.le_trans hz), h.chk.mod' g3 (fun h0 k hk hx => ?_), h.chkO, h.sure.step g2 (fun k hk => hk.elim) g4 lo', h.wait.step g2 (fun k hk => hk.elim) g4 lo', h.mrk.mod' g3 (fun h0 k hk hx => ?_), h.mrkO⟩, g3⟩
  · have := h.chkO h0 k hk; have := h.lo k hx; omega
  · have := h.mrkO h0 k hk; have := h.lo k hx; omega
theorem Tell.rest (h : Tell w0 w s g F G a l chk sure waits cp cn cc sp sn sc wp wn wc) (hm : Rd w mp mn mc mark) (hmo : 0 < mn → ∀ k, rowB mp k → k < w0.heap.size) : Rest w0 w s F a chk sure waits mark cp cn cc sp sn sc wp wn wc mp mn mc :=
  ⟨h.ls.st, h.md, fun k hk => h.lo k (.inl hk), h.chk, h.chkO, h.sure.mono fun k _ hx hy => hx (hy.elim .inl fun hy => hy.elim), h.wait.mono fun k _ hx hy => hx (hy.elim .inl fun hy => hy.elim), hm, hmo⟩
end
end Go.Proofs.YtgjdandnncjegaaGreatDoor

/- The walk of LedgerKeeps: its loop, and what comes behind it. -/
namespace Go.Proofs.YtgjdandnncjegaaGreatDoor
open Go Go.Proofs.YtgjdandnncjegaaGreatDoor.St

set_option maxHeartbeats 4000000 in
theorem keeps_walk (aa : Option Addr) (al ac : Nat) (xs : List LAct) (c0 c1 d0 d1 : Int) (w : World) (hV : Vars w) (h6 : 6 ≤ w.heap.size) (hx : ActsA w aa al xs) (hc0 : 0 ≤ c0 ∧ c0 ≤ 18446744073709551615) (hd0 : 0 ≤ d0 ∧ d0 ≤ 18446744073709551615) (R : Value → World → Prop) (hR : ∀ w', Mod no w w' → R (.bool true) w') :
    Ca Tryz.prog 7 #[.slice aa al ac, .agg ⟨[.int .u64 c0, .int .i64 c1]⟩, .agg ⟨[.int .u64 d0, .int .i64 d1]⟩] w R := by
  obtain ⟨hx, hal, hxd⟩ := hx
  have hxl := hx.1
  refine ca7 aa al ac c0 c1 d0 d1 w R ?_
  have lives : ∀ w1, Mod no w w1 → ∀ K : Value → World → Prop, (∀ w2, Mod no w w2 → K (.bool true) w2) → Ca Tryz.prog 10 #[] w1 K := fun w1 m1 K hK => lives_ok (hV.no m1) (Nat.le_trans h6 m1.size) K fun w2 m2 => hK w2 (m1.trans m2)
  refine newG _ w _ fun w0 B0 m0 z0 => newG _ w0 _ fun w1 B1 m1 z1 => ?_
  refine light_ok (hx.no (m0.trans m1)) hal hxd _ fun w3 m3 => ⟨_, rfl, ifK_not (fun _ => ?_) fun hl => ?_⟩
  · exact lives w3 ((m0.trans m1).trans m3) _ fun w4 m4 => ⟨_, rfl, hR w4 m4⟩
  have hheavy := lightB_heavy xs 0 (by omega) hl
  have m03 := (m0.trans m1).trans m3
  have B0 := (m1.trans m3).at' B0
  have B1 := m3.at' B1
  have hz3 := m03.size
  refine newL_ok (hV.no m03) (Nat.le_trans h6 m03.size) 1048576 (by omega) _ fun w9 s h9 => ⟨_, rfl, ?_⟩
  refine openN_ok h9 (by omega) (by omega) _ fun w12 g a l p14 n15 c16 p17 n18 c19 h12 f12 z12 pt12 => ⟨_, _, _, _, _, _, _, _, rfl, ifF rfl ?_⟩
  obtain ⟨F, G, q1, q2, q3⟩ := h12
  refine ⟨_, by rw [cl1 (q2.at' B0)]; rfl, by decide, _, by rw [cl1 (q2.at' B0)]; rfl, ?_⟩
  obtain ⟨pn, hpn, hpn0⟩ : ∃ pn : Int, IntKind.i64.wrap (1 + IntKind.i64.wrap (Int.tmod c0 60)) = pn ∧ 0 ≤ pn := by
    have e : Int.tmod c0 60 = c0 % 60 := Int.tmod_eq_emod_of_nonneg hc0.1
    refine ⟨1 + c0 % 60, ?_, by omega⟩
    rw [e, wrap64 (x := c0 % 60) (by omega) (by omega), wrap64 (by omega) (by omega)]
  rw [hpn]
  have hon : a.dark = false := by obtain ⟨_, _, h, _⟩ := f12.nrm; exact h.on
  refine plan_ok q1.st.st pn c1 _ fun w24 hp => ?_
  have hnp := q1.st.named.plan pn c1
  rw [plan_eq hon hpn0] at hp hnp ⊢
  refine ⟨_, rfl, ifF rfl ?_⟩
  obtain ⟨F, G, q1, q2, q3⟩ := LB.next q2 q3 (q1.store (St1P.of q1.st hp hnp))
  have f24 : Fine 1048576 { a with left := pn, keep := c1 } l [] [] [] 16 2 := f12.core rfl rfl rfl rfl rfl
  -- what the loop leaves
  refine ⟨fun p118 n119 n120 p121 n122 n123 p124 n125 n126 p127 n128 n129 b w' => ∃ (F : Nat → Prop) (a : AS) (chk : Bs) (sure waits : List Bs) (mark : Bs), sure.length + waits.length ≤ 1000 ∧ (∀ keep, Aft (QK chk sure waits mark b) (a.fail keep)) ∧
    Rest w3 w' s F a chk sure waits mark p118 n119 n120 p121 n122 n123 p124 n125 n126 p127 n128 n129, ?_, ?_⟩
  · refine ⟨fun p30 n31 n32 p33 n34 n35 p36 n37 n38 p39 n40 n41 b x w' => ∃ (i : Nat) (F G : Nat → Prop) (a : AS) (l : AL) (chk : Bs) (sure waits : List Bs), x = i ∧ i ≤ al ∧ b = false ∧ Fine 1048576 a l chk sure waits (16 + 200 * heavy (xs.take i)) (2 + 2 * i) ∧ sure.length + waits.length ≤ i ∧
        Tell w3 w' s g F G a l chk sure waits p30 n31 n32 p33 n34 n35 p36 n37 n38 ∧ p39 = none ∧ n40 = 0 ∧ n41 = 0, fun _ _ _ _ _ _ _ _ _ _ _ _ _ x _ => ((al : Int) - x).toNat,
      ⟨0, F, G, _, l, [], [], [], rfl, by omega, rfl, f24, by simp, ⟨q1, q2, q3, Rd.nil0 _, fun h => by omega, AIn.nil _ _ _, AIn.nil _ _ _, fun k hk => by simp [rowB] at hk⟩, rfl, rfl, rfl⟩, ?_⟩
    rintro _ p30 n31 n32 p33 n34 n35 p36 n37 n38 _ _ _ _ _ w44 ⟨i, F, G, a, l, chk, sure, waits, rfl, hi, rfl, f32, hcnt, T, rfl, rfl, rfl⟩
    refine ifK_dec (fun hlt => ?_) fun hge => ?_
    · have hil : i < xs.length := by omega
      have hs := heavy_snoc hil
      have ht1 := heavy_take xs (i + 1)
      have ht0 := heavy_take xs i
      rw [List.length_take] at ht1 ht0
      have mT := m03.trans T.md
      obtain ⟨ad, p, n, m, sx, k1, k2, had, hc, hr⟩ := (hx.no mT).2 i xs[i] (by simp [hil])
      have hrl := hr.len
      have hci : ∀ j v, (actV xs[i] p n m sx k1 k2)[j]? = some v → w44.cell? (Addr.add (Addr.add ad (Int.toNat (i : Int) * 5)) j) = some v := hc
      have hrlt : 0 < n → ∀ k, rowB p k → k < w3.heap.size := by
        obtain ⟨ad', p', n', m', s', k1', k2', g1, g2, g3⟩ := hx.2 i xs[i] (by simp [hil])
        rw [had] at g1
        injection g1 with g1
        subst g1
        have := cell_mod mT (g2 1 _ rfl) id
        rw [hc 1 _ rfl] at this
        injection this with this
        injection this with e1 e2 e3
        subst e1; subst e2
        exact fun h0 k hk => Nat.lt_of_lt_of_le (g3.lt h0 k hk) hz3
      refine ⟨ad, had, by omega, by omega, _, hci 0 _ rfl, _, _, _, hci 1 _ rfl, _, hci 2 _ rfl, _, hci 3 _ rfl, _, hci 4 _ rfl, ?_⟩
      refine copy5 _ _ _ _ _ _ _ _ _ _ w44 _ fun w51 B51 m51 => ?_
      have T51 := T.no m51
      have hr51 := hr.no m51
      have hdl : xs[i].d.length ≤ 10000 := by omega
      generalize hd : xs[i].d = d at *
      have hh6 : 6 ≤ w3.heap.size := Nat.le_trans h6 hz3
      have hself : ∀ {w' : World}, Mod (fun k => F k ∨ G k) w51 w' → w'.heap[w44.heap.size]? = some (.cells #[.int .i64 xs[i].kind, .slice p n m, .string sx, .int .i64 k1, .int .i64 k2] 54 (0, 0)) := fun hm => hm.at B51 fun hk => by
        rcases hk with hk | hk
        · have := (T.ls.st.old _ hk).2; omega
        · have := (T.ls.old _ hk).2; omega
      have hrm : ∀ {w' : World}, Mod (fun k => F k ∨ G k) w51 w' → Rd w' p n m d := fun hm => hr51.mod' hm fun h0 k hk hx => by have := hrlt h0 k hk; have := T51.lo k hx; omega
      have e1 : IntKind.i64.wrap ((i : Int) + 1) = ((i + 1 : Nat) : Int) := by rw [wrap64 (by omega) (by omega)]; rfl
      rw [e1]
      refine ⟨fun p102 n103 n104 p105 n106 n107 p108 n109 n110 p111 n112 n113 b x w' => (x = 0 ∧ ∃ (F G : Nat → Prop) (a : AS) (l : AL) (chk : Bs) (sure waits : List Bs), b = false ∧ Fine 1048576 a l chk sure waits (16 + 200 * heavy (xs.take (i + 1))) (2 + 2 * (i + 1)) ∧ sure.length + waits.length ≤ i + 1 ∧
          Tell w3 w' s g F G a l chk sure waits p102 n103 n104 p105 n106 n107 p108 n109 n110 ∧ p111 = none ∧ n112 = 0 ∧ n113 = 0) ∨
        (x ≠ 0 ∧ ∃ (F : Nat → Prop) (a : AS) (chk : Bs) (sure waits : List Bs) (mark : Bs), sure.length + waits.length ≤ 1000 ∧ (∀ keep, Aft (QK chk sure waits mark b) (a.fail keep)) ∧
          Rest w3 w' s F a chk sure waits mark p102 n103 n104 p105 n106 n107 p108 n109 n110 p111 n112 n113), ?_, ?_⟩
      · refine ⟨_, by rw [cl1 B51]; rfl, ?_⟩
        refine ifK_eq (fun h0 => ?_) fun h0 => ifK_eq (fun h1 => ?_) fun h1 => ifK_eq (fun h2 => ?_) fun h2 => ?_
        · -- Add
          refine ⟨_, _, _, by rw [cl1 B51]; rfl, ?_⟩
          obtain ⟨e2, f1⟩ := f32.add (b := d) (by omega) (by omega)
          refine add_ok T51.ls hr51 _ fun w58 hp => ?_
          rw [e2] at hp ⊢
          refine ⟨_, rfl, ifT rfl ?_⟩
          obtain ⟨F', G', g1, g2, g3, g4, g5, g6, g7⟩ := T51.rows hp
          refine ⟨_, _, _, by rw [cl1 (hself g7)]; rfl, ?_⟩
          refine newG _ w58 _ fun w63 B63 m63 _ => ?_
          have T63 := (Tell.mk g1 g2 g3 g4 T51.chkO g5 g6 T51.off).no m63
          obtain ⟨a', c', w65, hrun, T65⟩ := T63.push hh6 (q := (p, n, m)) (b := d) ((hrm g7).no m63) hrlt B63 (by rw [← T51.wait.len]; omega)
          exact ⟨_, w65, hrun, _, _, _, rfl, .inl ⟨rfl, F', G', a, _, chk, sure, waits ++ [d], rfl, f1.mono (by omega) (by omega), by simp; omega, T65, rfl, rfl, rfl⟩⟩
        · -- Flush
          refine flush_ok T51.ls _ fun w70 hp => ?_
          rcases f32.flush (Q := QK chk sure waits [] false) (by omega) (by omega) (fun j hj => .inl ⟨rfl, j, hj, rfl⟩) with ⟨x, m', e2, _, hA⟩ | ⟨a2, l2, e2, f2, _, _, _⟩
          · rw [e2] at hp ⊢
            refine ⟨_, rfl, ifF rfl (.inr ⟨show (9 : Int) ≠ 0 by decide, ?_⟩)⟩
            obtain ⟨F', G', g1, g2, g3, g4, g5, g6, g7⟩ := T51.rows hp
            exact ⟨F', x, chk, sure, waits, [], by omega, hA.fail, (Tell.mk g1 g2 g3 g4 T51.chkO g5 g6 T51.off).rest (Rd.nil0 _) fun h => by omega⟩
          · rw [e2] at hp ⊢
            refine ⟨_, rfl, ifT rfl ?_⟩
            obtain ⟨F', G', g1, g2, g3, g4, g5, g6, g7⟩ := T51.rows hp
            obtain ⟨a', c', w73, hrun, T73⟩ := (Tell.mk g1 g2 g3 g4 T51.chkO g5 g6 T51.off).cat hh6 (by rw [← T51.wait.len, ← T51.sure.len]; omega)
            exact ⟨_, w73, hrun, _, _, _, rfl, .inl ⟨rfl, F', G', a2, l2, chk, sure ++ waits, [], rfl, f2.mono (by omega) (by omega), by simp; omega, T73, rfl, rfl, rfl⟩⟩
        · -- Mark
          refine ⟨_, _, _, by rw [cl1 B51]; rfl, ?_⟩
          refine mark_ok T51.ls hr51 (fun h0 k hk hx => by have := hrlt h0 k hk; have := T51.lo k hx; omega) _ fun w81 hp => ?_
          rcases f32.mark (c := d) (Q := QK chk sure waits d true) (by omega) (by omega) (by omega) (fun j hj => .inl ⟨rfl, j, hj, rfl⟩) (.inr ⟨rfl, rfl, rfl⟩) with ⟨x, m', e2, _, hA⟩ | ⟨a2, l2, e2, f2, _, _, _, _⟩
          · rw [e2] at hp ⊢
            refine ⟨_, rfl, ifF rfl ?_⟩
            obtain ⟨F', G', g1, g2, g3, g4, g5, g6, g7⟩ := T51.rows hp
            refine ⟨_, _, _, by rw [cl1 (hself g7)]; rfl, .inr ⟨show (9 : Int) ≠ 0 by decide, ?_⟩⟩
            exact ⟨F', x, chk, sure, waits, d, by omega, hA.fail, (Tell.mk g1 g2 g3 g4 T51.chkO g5 g6 T51.off).rest (hrm g7) hrlt⟩
          · rw [e2] at hp ⊢
            refine ⟨_, rfl, ifT rfl ?_⟩
            obtain ⟨F', G', g1, g2, g3, g4, g5, g6, g7⟩ := T51.rows hp
            refine ⟨_, _, _, by rw [cl1 (hself g7)]; rfl, .inl ⟨rfl, F', G', a2, l2, d, [], [], rfl, f2.mono (by omega) (by omega), by simp, Tell.mk g1 g2 g3 (hrm g7) hrlt (AIn.nil _ _ _) (AIn.nil _ _ _) fun k hk => by simp [rowB] at hk, rfl, rfl, rfl⟩⟩
        · exact .inl ⟨rfl, F, G, a, l, chk, sure, waits, rfl, f32.mono (by omega) (by omega), by omega, T51, rfl, rfl, rfl⟩
      · rintro _ p102 n103 n104 p105 n106 n107 p108 n109 n110 p111 n112 n113 b x w116 h116
        refine ifNe (fun hne => ?_) fun heq => ?_
        · rcases h116 with ⟨h, _⟩ | ⟨_, h⟩
          · exact absurd h hne
          · exact h
        · rcases h116 with ⟨_, F, G, a, l, chk, sure, waits, h1, h2, h3, h4, h5⟩ | ⟨h, _⟩
          · exact ⟨⟨i + 1, F, G, a, l, chk, sure, waits, rfl, by omega, h1, h2, h3, h4, h5⟩, by simp only; omega⟩
          · exact absurd heq h
    · have ht0 := heavy_take xs i
      rw [List.length_take] at ht0
      exact ⟨F, a, chk, sure, waits, [], by omega, f32.fail (.inl ⟨rfl, 0, by omega, by simp⟩), T.rest (Rd.nil0 _) fun h => by omega⟩
  · rintro _ p118 n119 n120 p121 n122 n123 p124 n125 n126 p127 n128 n129 b w131 ⟨F, a, chk, sure, waits, mark, hcnt, hA, T⟩
    refine ⟨fun w' => ∃ (F : Nat → Prop) (a : AS), Aft (QK chk sure waits mark b) a ∧ Rest w3 w' s F a chk sure waits mark p118 n119 n120 p121 n122 n123 p124 n125 n126 p127 n128 n129, ?_, ?_⟩
    · refine on2_ok T.st.st _ ⟨_, rfl, ifK_not (fun hd => ?_) fun hd => ?_⟩
      · refine ⟨_, by rw [cl1 (T.md.at' B0)]; rfl, ?_⟩
        refine fail2_ok T.st.st _ _ fun w138 hp => ⟨rfl, ?_⟩
        obtain ⟨F', T', _⟩ := T.step (St1P.of T.st hp (T.st.named.fail _))
        exact ⟨F', _, hA _, T'⟩
      · have := hA 0
        rw [AS.fail, if_pos hd] at this
        exact ⟨F, a, this, T⟩
    clear hA T
    rintro _ w140 ⟨F, a, hA, T⟩
    refine power3_ok T.st.st _ fun w142 hp => ⟨rfl, ?_⟩
    obtain ⟨F, T, _⟩ := T.step (St1P.of T.st hp T.st.named.power)
    replace hA : Aft (QK chk sure waits mark b) a.power := hA.core rfl rfl rfl rfl
    refine ⟨_, by rw [cl1 (T.md.at' B1)]; rfl, by decide, _, by rw [cl1 (T.md.at' B1)]; rfl, ?_⟩
    obtain ⟨pm, hpm, hpm0⟩ : ∃ pm : Int, IntKind.i64.wrap (Int.tmod d0 6) = pm ∧ 0 ≤ pm := by
      have e : Int.tmod d0 6 = d0 % 6 := Int.tmod_eq_emod_of_nonneg hd0.1
      refine ⟨d0 % 6, ?_, by omega⟩
      rw [e, wrap64 (by omega) (by omega)]
    rw [hpm]
    refine plan_ok T.st.st pm d1 _ fun w146 hp => ?_
    have hnp := T.st.named.plan pm d1
    rw [plan_eq rfl hpm0] at hp hnp ⊢
    obtain ⟨F, T, _⟩ := T.step (St1P.of T.st hp hnp)
    replace hA : Aft (QK chk sure waits mark b) { a.power with left := pm, keep := d1 } := hA.core rfl rfl rfl rfl
    refine ⟨_, rfl, ?_⟩
    refine ⟨fun w' => ∃ (F : Nat → Prop) (a : AS), Aft (QK chk sure waits mark b) a ∧ Rest w3 w' s F a chk sure waits mark p118 n119 n120 p121 n122 n123 p124 n125 n126 p127 n128 n129, ?_, ?_⟩
    · rcases aft_open2 hA rfl (part := 80) (by omega) with ⟨x, e, _, hx'⟩ | ⟨a', l', c', rs, e, hx', _⟩
      · refine open_l_ok T.st 80 _ (fun e' he w150 hp => ?_) fun l check rs he => by rw [e] at he; cases he
        rw [e] at he hp
        injection he with he _
        subst he
        obtain ⟨F', T', _⟩ := T.step hp
        exact ⟨_, _, _, _, _, _, _, _, rfl, ifT rfl (ifF rfl ⟨F', x, hx', T'⟩)⟩
      · refine open_l_ok T.st 80 _ (fun e' he => by rw [e] at he; cases he) fun l check rs he w150 g' cp cl cc rp rl rc ho => ?_
        rw [e] at ho
        obtain ⟨H', g1, g2, g3, _⟩ := ho.ex
        obtain ⟨F', T', _⟩ := T.step ⟨H', g1, g2, g3⟩
        exact ⟨_, _, _, _, _, _, _, _, rfl, ifF rfl ⟨F', _, hx', T'⟩⟩
    clear hA T
    rintro _ w160 ⟨F, a, hA, T⟩
    refine power3_ok T.st.st _ fun w162 hp => ⟨rfl, ?_⟩
    obtain ⟨F, T, _⟩ := T.step (St1P.of T.st hp T.st.named.power)
    replace hA : Aft (QK chk sure waits mark b) a.power := hA.core rfl rfl rfl rfl
    rcases aft_open2 hA rfl (part := 80) (by omega) with ⟨x, e, hx', _⟩ | ⟨a', l', d', rs, e, hA', hQ⟩
    · exact absurd rfl hx'
    refine open_l_ok T.st 80 _ (fun e' he => by rw [e] at he; cases he) fun l check rs' he w164 g' cp cl cc rp rl rc ho => ?_
    rw [e] at he ho
    injection he with _ he
    injection he with he
    injection he with _ he
    injection he with he1 he2
    subst he1; subst he2
    obtain ⟨H', g1, g2, g3, _, _, r164, _, b164⟩ := ho.ex
    obtain ⟨F', T', _⟩ := T.step ⟨H', g1, g2, g3⟩
    have hrl := b164.len.1
    refine ⟨_, _, _, _, _, _, _, _, rfl, ifF rfl ?_⟩
    refine ⟨fun w' => Mod no w164 w' ∧ ¬ (b = true ∧ d' = mark ∧ rs = []), ?_, ?_⟩
    · refine ifK_of (fun hb => ?_) fun hb => ⟨Mod.refl _ _, fun h => by rw [h.1] at hb; cases hb⟩
      refine same_ok r164 T'.mrk _ ⟨_, rfl, ifK_of (fun hm => ?_) fun hm => ⟨Mod.refl _ _, fun h => of_decide_eq_false hm h.2.1⟩⟩
      refine ifK_eq (fun hz => ?_) fun hz => ⟨Mod.refl _ _, fun h => hz (by rw [← hrl, h.2.2]; rfl)⟩
      exact lives w164 (m03.trans T'.md) _ fun w178 m178 => ⟨_, rfl, hR w178 m178⟩
    rintro _ w181 ⟨m181, hno⟩
    obtain ⟨hd', j, hj, hrs⟩ : d' = chk ∧ ∃ j, j ≤ waits.length ∧ rs = sure ++ waits.take j := by
      rcases hQ with h | h
      · exact h
      · exact absurd h hno
    have T1 := T'.no m181
    refine newG _ w181 _ fun w182 B182 m182 z182 => ?_
    have T2 := T1.no m182
    have A0 : AIn (fun k => k = w181.heap.size) w3.heap.size w182 (some ⟨w181.heap.size, 0, none⟩) 0 0 [] :=
      ⟨[], Els.lit slone B182 [] rfl (Nat.zero_le _), rfl, fun k hk => by simp [rowB] at hk; subst hk; exact ⟨rfl, T1.md.size⟩, fun i s b hs _ => by cases hs⟩
    have hsl := T2.sure.len
    have hwl := T2.wait.len
    obtain ⟨p185, c187, w184, hrun, A1, m184, o184⟩ := A0.cat T2.sure T2.md.size (by omega)
    have W184 := T2.wait.mod m184 (fun k hk => by simp [rowB] at hk; subst hk; exact T1.md.size) fun k hk hx => by
      simp [rowB] at hx; subst hx
      have := (T1.wait.row _ hk).2.2; omega
    obtain ⟨p190, c192, w189, hrun2, A2, m189, o189⟩ := A1.cat W184 (by have := m184.size; have := T2.md.size; omega) (by omega)
    refine ⟨_, w184, hrun, _, _, _, rfl, _, w189, hrun2, _, _, _, rfl, ?_⟩
    have m181_184 : Mod no w181 w184 := m182.new m184 fun k hk => by simp [rowB] at hk; subst hk; exact Nat.le_refl _
    have m181_189 : Mod no w181 w189 := m181_184.new m189 fun k hk => by
      rcases o184 k hk with h | h
      · simp [rowB] at h; subst h; exact Nat.le_refl _
      · omega
    have m164_189 := m181.trans m181_189
    refine same_ok (r164.no m164_189) (T'.chk.no m164_189) _ ⟨_, rfl, ifT (decide_eq_true hd') ?_⟩
    have hrn : rl = sure.length + j := by rw [← hrl, hrs, List.length_append, List.length_take, Nat.min_eq_left hj]
    refine ifT (decide_eq_true (by omega)) (ifT (decide_eq_true (by omega)) ⟨by omega, by omega, ?_, ?_⟩)
    · obtain ⟨ss, q, _⟩ := A2; have := q.len.2.1; omega
    rw [sub0]
    refine same_ok2 (b164.rr.no m164_189) (A2.rr.take (k := rl) (by omega)) (by omega) _ fun w197 m197 => ⟨_, rfl, ifT (decide_eq_true ?_) ?_⟩
    · rw [List.nil_append, hrs, hrn, List.take_append, List.take_of_length_le (show sure.length ≤ sure.length + j by omega)]
      simp
    · exact lives w197 (m03.trans (T'.md.trans (m164_189.trans m197))) _ fun w200 m200 => ⟨_, rfl, hR w200 m200⟩
end Go.Proofs.YtgjdandnncjegaaGreatDoor

/- The reference's seal: how long it is. -/
namespace Go.Proofs.YtgjdandnncjegaaGreatDoor
open Go Go.Proofs.YtgjdandnncjegaaGreatDoor.St

theorem u8_wrap (x : Int) : ∃ b : UInt8, Value.int .u8 (IntKind.u8.wrap x) = u8v b := by
  have h : IntKind.u8.wrap x = x % 256 := by rw [IntKind.wrap_u8]
  refine ⟨UInt8.ofNat (x % 256).toNat, ?_⟩
  rw [h, u8v, UInt8.toNat_ofNat']
  congr 1
  omega
theorem rgood4 (w : World) (R : Value → World → Prop) (hR : R (.bool true) w) : Ca Tryz.prog 77 #[.int .i64 4] w R := by
  refine ca77 4 w R ?_
  exact ifF rfl (ifF rfl (ifT rfl hR))
theorem rput_ok {w : World} {ba : Option Addr} {bl bc : Nat} {bs : Bs} (hr : Rd w ba bl bc bs) (hn : bl ≤ 1099511627000) (v : Int) (R : Value → World → Prop)
    (hR : ∀ w' a c ys, Els u8v 5 w' a (bl + 4) c ys → Mod no w w' → (∀ j, rowB a j → w.heap.size ≤ j) → R (.slice a (bl + 4) c) w') : Ca Tryz.prog 40 #[.slice ba bl bc, .int .i64 4, .int .u64 v] w R := by
  refine ca40 ba bl bc 4 v w R ?_
  refine newG _ w _ fun w0 B0 m0 z0 => ?_
  have r0 : Els u8v 5 w0 (some ⟨w.heap.size, 0, none⟩) 0 0 [] := Els.lit u8one B0 [] rfl (Nat.zero_le _)
  have hr0 := hr.no m0
  obtain ⟨a1, c1, w2, hrun, e2, m2, o2⟩ := r0.push (P := Tryz.prog) (t := 27) (ty := 27) u8one bytesLaid (ys := bs) hr0.len hr0.all hr0.nil (by omega)
  have m02 : Mod no w w2 := m0.new m2 fun k hk => by simp [rowB] at hk; subst hk; exact Nat.le_refl _
  refine ⟨_, w2, hrun, _, _, _, rfl, rgood4 w2 _ ⟨_, rfl, ifF rfl ?_⟩⟩
  refine ⟨fun a n c x w' => ∃ (i : Nat) (ys : Bs), i ≤ 4 ∧ x = 3 - (i : Int) ∧ n = bl + i ∧ Els u8v 5 w' a n c ys ∧ Mod no w w' ∧ ∀ j, rowB a j → w.heap.size ≤ j, fun _ _ _ x _ => (x + 1).toNat,
    ⟨0, _, by omega, by rw [wrap64 (by omega) (by omega)]; rfl, by omega, e2, m02, fun j hj => ?_⟩, ?_⟩
  · rcases o2 j hj with h | h
    · simp [rowB] at h; omega
    · exact Nat.le_trans m0.size h
  rintro _ a _ c _ w16 ⟨i, ys, hi, rfl, rfl, e16, m16, o16⟩
  refine ifK_dec (fun hge => ?_) fun hlt => ?_
  · refine ⟨by rw [wrap64 (x := 8 * (3 - (i : Int))) (by omega) (by omega), IntKind.wrap_u64]; omega, ?_⟩
    refine newG _ w16 _ fun w17 B17 m17 _ => ?_
    obtain ⟨b, hb⟩ := u8_wrap (Int.fdiv v (2 ^ min (Int.toNat (IntKind.u64.wrap (IntKind.i64.wrap (8 * (3 - (i : Int)))))) 64))
    rw [hb] at B17
    obtain ⟨a', c', w19, hrun, e19, m19, o19⟩ := (els_mod e16 m17 fun _ _ => id).push1 (P := Tryz.prog) (t := 27) (ty := 27) u8one bytesLaid B17 (by omega)
    refine ⟨_, w19, hrun, _, _, _, rfl, ⟨i + 1, _, by omega, by rw [wrap64 (by omega) (by omega)]; omega, by omega, e19, (m16.trans m17).new m19 o16, fun j hj => ?_⟩, ?_⟩
    · rcases o19 j hj with h | h
      · exact o16 j h
      · exact Nat.le_trans (m16.trans m17).size h
    · rw [wrap64 (by omega) (by omega)]; simp only; omega
  · obtain rfl : i = 4 := by omega
    exact hR w16 a c ys e16 m16 o16
theorem rsum_ok {w : World} {ba : Option Addr} {bl bc : Nat} {bs : Bs} (hr : Rd w ba bl bc bs) (hn : bl ≤ 1099511627000) (R : Value → World → Prop) (hR : ∀ w' x, Mod no w w' → R (.int .u32 x) w') : Ca Tryz.prog 41 #[.slice ba bl bc] w R := by
  have hl := hr.len
  refine ca41 ba bl bc w R ?_
  refine ⟨fun _ x w' => ∃ i : Nat, x = i ∧ i ≤ bl ∧ Mod no w w', fun _ x _ => ((bl : Int) - x).toNat, ⟨0, rfl, by omega, Mod.refl _ _⟩, ?_⟩
  rintro _ r _ w5 ⟨i, rfl, hi, m5⟩
  refine ifK_dec (fun hlt => ?_) fun hge => hR w5 r m5
  obtain ⟨ad, had, hc⟩ := (hr.no m5).get (i := i) (by omega)
  refine ⟨ad, had, by omega, by omega, _, by rw [Int.toNat_natCast]; exact hc, ?_⟩
  refine ⟨fun _ x w' => ∃ j : Nat, j ≤ 8 ∧ x = 7 - (j : Int) ∧ Mod no w w', fun _ x _ => (x + 1).toNat, ⟨0, by omega, rfl, m5⟩, ?_⟩
  rintro _ q _ w13 ⟨j, hj, rfl, m13⟩
  refine ifK_dec (fun hge => ?_) fun hlt2 => ?_
  · refine ⟨by decide, by rw [IntKind.wrap_u64]; omega, by decide, ?_⟩
    have e1 : IntKind.i64.wrap (7 - (j : Int) - 1) = 7 - ((j + 1 : Nat) : Int) := by rw [wrap64 (by omega) (by omega)]; omega
    rw [e1]
    exact ifK_of (fun _ => ⟨⟨j + 1, by omega, rfl, m13⟩, by simp only; omega⟩) fun _ => ⟨⟨j + 1, by omega, rfl, m13⟩, by simp only; omega⟩
  · have e1 : IntKind.i64.wrap ((i : Int) + 1) = ((i + 1 : Nat) : Int) := by rw [wrap64 (by omega) (by omega)]; rfl
    rw [e1]
    exact ⟨⟨i + 1, rfl, by omega, m13⟩, by simp only; omega⟩
theorem rseal_ok {w : World} {ba : Option Addr} {bl bc : Nat} {bs : Bs} (hr : Rd w ba bl bc bs) (hn : bl ≤ 1048576) (R : Value → World → Prop) (hR : ∀ w' a c, Mod no w w' → R (.slice a (bl + 8) c) w') : Ca Tryz.prog 12 #[.slice ba bl bc] w R := by
  refine ca12 ba bl bc w R ?_
  refine ifK_dec (fun h => by omega) fun _ => ?_
  refine rput_ok (Rd.nil0 w) (by omega) _ _ fun w1 a1 c1 ys e1 m1 o1 => ⟨_, _, _, rfl, ?_⟩
  have hr1 := hr.no m1
  obtain ⟨a2, c2, w6, hrun, e6, m6, o6⟩ := e1.push (P := Tryz.prog) (t := 27) (ty := 27) u8one bytesLaid (ys := bs) hr1.len hr1.all hr1.nil (by omega)
  refine ⟨_, w6, hrun, _, _, _, rfl, ?_⟩
  have m06 : Mod no w w6 := m1.new m6 o1
  refine rsum_ok (Rd.of_els e6) (by omega) _ fun w11 x m11 => ⟨_, rfl, ?_⟩
  refine rput_ok (Rd.of_els (els_mod e6 m11 fun _ _ => id)) (by omega) _ _ fun w14 a3 c3 ys' e14 m14 o14 => ⟨_, _, _, rfl, ?_⟩
  have e : 0 + 4 + bl + 4 = bl + 8 := by omega
  rw [e]
  exact hR w14 a3 c3 ((m06.trans m11).trans m14)
end Go.Proofs.YtgjdandnncjegaaGreatDoor

/- A log whose last part was cut, in plain Lean. -/
namespace Go.Proofs.YtgjdandnncjegaaGreatDoor
open Go Go.Proofs.YtgjdandnncjegaaGreatDoor.St

theorem seals_cut (l : List Bs) (hl : ∀ b ∈ l, b.length ≤ 1048512) (n k : Nat) (hk : k ≤ l.length) (h1 : sizeB sumB (l.take k) ≤ n) (h2 : k < l.length → n < sizeB sumB (l.take (k + 1))) :
    ∃ tail, (sealsB sumB l).take n = sealsB sumB (l.take k) ++ tail ∧ wholeB sumB tail = ([], 0) := by
  have h4 := whole_cut sumB sumB_lt l (fun b hb => Nat.le_trans (hl b hb) (by omega)) n k hk h1 h2
  have hs : sealsB sumB l = sealsB sumB (l.take k) ++ sealsB sumB (l.drop k) := by rw [← sealsB_append, List.take_append_drop]
  have ht : (sealsB sumB l).take n = sealsB sumB (l.take k) ++ (sealsB sumB (l.drop k)).take (n - (sealsB sumB (l.take k)).length) := by
    rw [hs, List.take_append, List.take_of_length_le (show (sealsB sumB (l.take k)).length ≤ n from h1)]
  refine ⟨_, ht, ?_⟩
  rw [ht, whole_seals sumB sumB_lt (l.take k) (fun b hb => Nat.le_trans (hl b (List.mem_of_mem_take hb)) (by omega))] at h4
  injection h4 with h5 h6
  exact Prod.ext (List.append_right_eq_self.1 h5) (by simp only; omega)
def nLog1 : ByteArray := ⟨#[108, 111, 103, 46, 49]⟩
theorem nLog1_eq : nLog1 = nameL 1 := by decide +kernel
/-- A store that holds one part of a log, torn or not. -/
structure Torn (a : AS) (P : List Bs) (tail : Bs) : Prop where
  ok : a.Ok
  on : a.dark = false
  left : a.left = 0
  inj : Inj a.dir
  log : LogAt a.dir (fun i => (fileL a.all i).1) 1 [] [P] tail
theorem any_dur (a : AS) : Dur a fun _ => True := fun _ _ => trivial
section
variable {a : AS} {P W : List Bs} {tail : Bs} {part : Int}
theorem Torn.read (h : Torn a P tail) : (a.read nLog1).1 = sealsB sumB P ++ tail := by
  obtain ⟨i, hg, hc⟩ := h.log.part 0 (by simp)
  rw [nLog1_eq, read_at h.on (good_name (by omega)) hg]
  have : (fileL a.all i).1 = sealsB sumB P ++ tail := by simpa using hc
  exact this
theorem torn_open (h : Torn a P tail) (hp : 1 ≤ part ∧ part ≤ 1048576) : ∃ a' m, a.openL part = (a', 0, some (m, [], P)) ∧ Torn a' P [] := by
  rw [open_log h.on hp h.log]
  by_cases ht : tail = []
  · rw [if_pos ht]
    subst ht
    exact ⟨a, _, by simp; rfl, h⟩
  · rw [if_neg ht]
    obtain ⟨i, hg, hc⟩ := h.log.part 0 (by simp)
    have e1 : 1 + ([P] : List (List Bs)).length - 1 = 1 := rfl
    have e2 : ([P] : List (List Bs)).getD (([P] : List (List Bs)).length - 1) [] = P := rfl
    rw [e1, e2]
    have hia := h.ok.dirI _ (dget_some hg)
    have hgd := good_name (n := 1) (by omega)
    have hc' : (fileL a.all i).1 = sealsB sumB P ++ tail := by simpa using hc
    have hG : ∀ x : AS × Int, (∃ a', x = (a', 0) ∧ Torn a' P []) → ∃ a' m, (if x.2 = 0 then (x.1, (0 : Int), some ((⟨part, ((1 : Nat) : Int), [], false⟩ : AL), ([] : Bs), ([P] : List (List Bs)).flatten)) else (x.1, x.2, none)) = (a', 0, some (m, [], P)) ∧ Torn a' P [] := by
      rintro x ⟨a', rfl, h'⟩
      exact ⟨a', _, by simp; rfl, h'⟩
    refine hG _ ?_
    refine (nx_cut (any_dur a) h.on hgd hg (k := (sizeB sumB P : Int)) (by omega) (by show _ ≤ (((fileL a.all i).1.length : Nat) : Int); rw [hc', List.length_append, sealsB_size]; omega)).thn (G := fun x => ∃ a', x = (a', 0) ∧ Torn a' P []) (fun x _ h2 _ => absurd h.left h2) fun c1 l1 hl1 => ?_
    have ok1 := ok_cut (c := c1) (l := l1) h.ok i (sizeB sumB P)
    refine (nx_sync (a := ⟨a.room, a.all.modify i fun x => (x.1.take (sizeB sumB P : Int).toNat, x.2), a.dir, a.sure, false, c1, l1, a.keep⟩) (any_dur _) rfl hgd hg).fin (G := fun x => ∃ a', x = (a', 0) ∧ Torn a' P []) (fun x _ h2 _ => absurd (hl1 h.left) h2) fun c2 l2 hl2 => ?_
    have ok2 := ok_sync (c := c2) (l := l2) ok1 i
    dsimp only at ok2 ⊢
    refine ⟨_, rfl, ok2, rfl, hl2 (hl1 h.left), h.inj, ?_⟩
    have hfi : (fileL ((a.all.modify i fun x => (x.1.take (sizeB sumB P), x.2)).modify i fun x => (x.1, x.1)) i).1 = sealsB sumB P := by
      rw [fileL_at (by simpa using hia), fileL_at hia, hc']
      exact List.take_left
    refine (LogAt.last (PS0 := []) (P := P) h.log h.inj hg (P' := P) (by simp only; rw [Int.toNat_natCast, hfi]; simp) (fun j hj => ?_) (h.log.recs P (by simp)) (wholeB_stop sumB (by simp [openB])))
    simp only
    rw [fileL_mod fun e => hj e.symm, fileL_mod fun e => hj e.symm]
/-- All records flushed at once, into the first part. -/
theorem flush_once (h : Nrm a 1 [] [[]]) {l : AL} (hl : l.last = 1) (hd : l.dead = false) (hp : l.part = 1048576) (hz : a.left = 0) (hW : ∀ b ∈ l.waits, b.length ≤ 1048512) (hs : sizeB sumB l.waits ≤ 1048576) (hr : (phi a.all : Int) + sizeB sumB l.waits ≤ a.room) :
    ∃ a', l.flush a = (a', { l with waits := [] }, 0) ∧ a'.left = 0 ∧ Nrm a' 1 [] [l.waits] := by
  have hm : l.may a = 0 := by rw [AL.may, hd, h.on]; rfl
  by_cases hw : l.waits = []
  · refine ⟨a, ?_, hz, by rw [hw]; exact h⟩
    rw [AL.flush, if_pos (.inr hw), hm]
    cases l; simp only at hw; subst hw; rfl
  · rw [AL.flush, if_neg (by rw [hm]; simp [hw])]
    refine put_law (PS0 := []) (P := []) (W := l.waits) (Q := fun _ _ => True) h hl rfl hW hr (fun _ _ => trivial) (G := fun r => ∃ a', (if r.2 ≠ 0 then (r.1, l.told r.2, r.2) else if ((r.1.read (nameI l.last)).1.length : Int) ≤ l.part ∨ 999999999 ≤ l.last then (r.1, { l with waits := [] }, 0) else AL.turn { l with waits := [] } r.1) = (a', { l with waits := [] }, 0) ∧ a'.left = 0 ∧ Nrm a' 1 [] [l.waits]) ?_ ?_
    · exact fun x _ h2 _ => absurd hz h2
    · intro all c k h1 _ h3
      have h3' : Nrm ⟨a.room, all, a.dir, a.sure, false, c, k, a.keep⟩ 1 [] [l.waits] := by simpa using h3
      obtain ⟨i, hg, hc⟩ := h3'.log.part 0 (by simp)
      have hn : nameI l.last = nameL 1 := by rw [hl]; exact nameI_nat (n := 1) (by omega) (by omega)
      have hrd := read_at h3'.on (good_name (n := 1) (by omega)) hg
      have hlen : ((AS.read ⟨a.room, all, a.dir, a.sure, false, c, k, a.keep⟩ (nameI l.last)).1.length : Int) ≤ l.part := by
        rw [hn, hrd]
        have hc' : (AS.file ⟨a.room, all, a.dir, a.sure, false, c, k, a.keep⟩ i).1 = sealsB sumB l.waits := by have := hc; simp at this; exact this
        rw [hc', sealsB_size, hp]; omega
      simp only [ne_eq, not_true_eq_false, if_false]
      rw [if_pos (.inl hlen)]
      exact ⟨_, rfl, h1 hz, h3'⟩
theorem torn_cut (h : Nrm a 1 [] [W]) (hz : a.left = 0) {n : Nat} (hn : n ≤ sizeB sumB W) : ∃ a', a.cut nLog1 n = (a', 0) ∧ ∀ k, k ≤ W.length → sizeB sumB (W.take k) ≤ n → (k < W.length → n < sizeB sumB (W.take (k + 1))) → ∃ tail, Torn a' (W.take k) tail := by
  obtain ⟨i, hg, hc⟩ := h.log.part 0 (by simp)
  have hc' : (fileL a.all i).1 = sealsB sumB W := by simpa using hc
  have hia := h.ok.dirI _ (dget_some hg)
  rw [nLog1_eq]
  refine (nx_cut (any_dur a) h.on (good_name (n := 1) (by omega)) hg (k := (n : Int)) (by omega) (by show _ ≤ (((fileL a.all i).1.length : Nat) : Int); rw [hc', sealsB_size]; omega)).fin (G := fun x => ∃ a', x = (a', 0) ∧ ∀ k, k ≤ W.length → sizeB sumB (W.take k) ≤ n → (k < W.length → n < sizeB sumB (W.take (k + 1))) → ∃ tail, Torn a' (W.take k) tail) (fun x _ h2 _ => absurd hz h2) fun c l hl => ⟨_, rfl, fun k hk h1 h2 => ?_⟩
  have hrec : ∀ b ∈ W, b.length ≤ 1048512 := h.log.recs W (by simp)
  obtain ⟨tail, ht1, ht2⟩ := seals_cut W hrec n k hk h1 h2
  have ok1 := ok_cut (c := c) (l := l) h.ok i n
  refine ⟨tail, ok1, rfl, hl hz, h.inj, ?_⟩
  refine LogAt.last (PS0 := []) (P := W) h.log h.inj hg (by simp only; rw [Int.toNat_natCast, fileL_at hia, hc']; exact ht1) (fun j hj => ?_) (fun b hb => hrec b (List.mem_of_mem_take hb)) ht2
  simp only
  rw [fileL_mod fun e => hj e.symm]
end
end Go.Proofs.YtgjdandnncjegaaGreatDoor

/- The walk of LedgerTears. -/
namespace Go.Proofs.YtgjdandnncjegaaGreatDoor
open Go Go.Proofs.YtgjdandnncjegaaGreatDoor.St

def endsL (xs : List Bs) (i : Nat) : List Int := (List.range (i + 1)).map fun j => (sizeB sumB (xs.take j) : Int)
theorem endsL_len (xs : List Bs) (i : Nat) : (endsL xs i).length = i + 1 := by simp [endsL]
theorem endsL_snoc (xs : List Bs) (i : Nat) : endsL xs (i + 1) = endsL xs i ++ [(sizeB sumB (xs.take (i + 1)) : Int)] := by rw [endsL, List.range_succ, List.map_append]; rfl
theorem endsL_get (xs : List Bs) {i j : Nat} (h : j ≤ i) : (endsL xs i)[j]? = some (sizeB sumB (xs.take j) : Int) := by
  rw [endsL, List.getElem?_map, List.getElem?_range (by omega)]; rfl
theorem ends_cell {w : World} {p : Option Addr} {c : Nat} {xs : List Bs} {i : Nat} (h : Els (Value.int .i64) 3 w p (i + 1) c (endsL xs i)) {j : Nat} (hj : j ≤ i) : ∃ ad, p = some ad ∧ w.cell? (Addr.add ad (j * 1)) = some (.int .i64 (sizeB sumB (xs.take j))) := by
  have hall := h.all intone
  cases p with
  | none => have := (hall.2 rfl).1; omega
  | some ad => exact ⟨ad, rfl, by rw [Nat.mul_one]; exact hall.1 ad rfl j _ (by rw [List.getElem?_map, endsL_get xs hj]; rfl)⟩
/-- Arguments that are rows of bytes. -/
def RowsA (w : World) (a : Option Addr) (l c : Nat) (xs : List Bs) : Prop := RR w a l xs ∧ l ≤ c ∧ c < 4611686018427387904

set_option maxHeartbeats 2000000 in
theorem tears_walk (la : Option Addr) (ll lc : Nat) (xs : List Bs) (cut : Int) (w : World) (hV : Vars w) (h6 : 6 ≤ w.heap.size) (hx : RowsA w la ll lc xs) (hcut : 0 ≤ cut ∧ cut ≤ 18446744073709551615) (R : Value → World → Prop) (hR : ∀ w', Mod no w w' → R (.bool true) w') :
    Ca Tryz.prog 3 #[.slice la ll lc, .int .u64 cut] w R := by
  obtain ⟨hx, hlc, hlb⟩ := hx
  have hxl := hx.1
  refine ca3 la ll lc cut w R ?_
  have lives : ∀ w1, Mod no w w1 → ∀ K : Value → World → Prop, (∀ w2, Mod no w w2 → K (.bool true) w2) → Ca Tryz.prog 10 #[] w1 K := fun w1 m1 K hK => lives_ok (hV.no m1) (Nat.le_trans h6 m1.size) K fun w2 m2 => hK w2 (m1.trans m2)
  refine newL_ok hV h6 1048576 (by omega) _ fun w1 s h1 => ⟨_, rfl, ?_⟩
  refine openN_ok h1 (by omega) (by omega) _ fun w4 g a l p6 n7 c8 p9 n10 c11 h4 f4 z4 pt4 => ⟨_, _, _, _, _, _, _, _, rfl, ifF rfl ?_⟩
  obtain ⟨F, G, q1, q2, q3⟩ := h4
  have hN : Nrm a 1 [] [[]] ∧ l.last = 1 := by
    obtain ⟨first, PS, r1, r2, r3, r4⟩ := f4.ex
    have hp : 0 < PS.length := List.length_pos_iff.2 r1.log.ne
    have h1 := r1.log.first1
    obtain rfl : first = 1 := by omega
    obtain ⟨P, rfl⟩ := List.length_eq_one_iff.1 (show PS.length = 1 by omega)
    simp only [List.flatten_cons, List.flatten_nil, List.append_nil] at r3
    subst r3
    exact ⟨r1, by rw [r2]; rfl⟩
  refine newG _ w4 _ fun w13 B13 m13 z13 => ?_
  have hF4 : ∀ k, F k ∨ G k → k < w4.heap.size := fun k hk => hk.elim (fun hk => (q1.st.old k hk).2) fun hk => (q1.old k hk).2
  refine ⟨fun p17 n18 n19 x w' => ∃ (i : Nat) (F G : Nat → Prop) (l : AL), x = i ∧ i ≤ ll ∧ LS w' s g F G a l ∧ Mod no w w' ∧ (∀ k, F k ∨ G k → w.heap.size ≤ k) ∧ Fine 1048576 a l [] [] (xs.take i) (16 + sizeB sumB (xs.take i)) 2 ∧ l.part = 1048576 ∧ l.last = 1 ∧ n18 = i + 1 ∧
      Els (Value.int .i64) 3 w' p17 (i + 1) n19 (endsL xs i) ∧ (∀ k, rowB p17 k → ¬ (F k ∨ G k) ∧ w.heap.size ≤ k ∧ k < w'.heap.size) ∧ (∀ b ∈ xs.take i, b.length ≤ 500) ∧ (0 < i → ll ≤ 50), fun _ _ _ x _ => ((ll : Int) - x).toNat,
    ⟨0, F, G, l, rfl, by omega, q1.no m13, q2.trans m13, q3, by simpa [sizeB, sealsB] using f4, pt4, hN.2, rfl, Els.lit intone B13 (endsL xs 0) (by simp [endsL, sizeB, sealsB]) (by show 1 ≤ maxLen; decide), fun k hk => ?_, by simp, fun h => by omega⟩, ?_⟩
  · simp [rowB] at hk
    subst hk
    exact ⟨fun hx => by have := hF4 _ hx; omega, q2.size, z13⟩
  rintro _ p17 _ n19 _ w21 ⟨i, F, G, l, rfl, hi, q1, q2, q3, f, hpt, hlast, rfl, he, hrow, h500, h50⟩
  refine ifK_dec (fun hlt => ?_) fun hge => ?_
  · have hil : i < xs.length := by omega
    obtain ⟨ad, sl, had, hcell, hr⟩ := (hx.no q2).2 i xs[i] (by simp [hil])
    have hrl := hr.len
    refine ⟨ad, had, by omega, by omega, sl.1, sl.2.1, sl.2.2, by rw [Int.toNat_natCast]; exact hcell, ?_⟩
    refine ifK_dec (fun _ => lives w21 q2 _ fun w27 m27 => ⟨_, rfl, hR w27 m27⟩) fun h5 => ifK_dec (fun _ => lives w21 q2 _ fun w30 m30 => ⟨_, rfl, hR w30 m30⟩) fun h50' => ?_
    have htk : xs.take (i + 1) = xs.take i ++ [xs[i]] := List.take_succ_eq_append_getElem hil
    have hsz : sizeB sumB (xs.take (i + 1)) = sizeB sumB (xs.take i) + (sl.2.1 + 8) := by rw [htk, sizeB_snoc, hrl]
    have htl : (xs.take i).length ≤ i := by rw [List.length_take]; omega
    have hszb : ∀ j, j ≤ i → sizeB sumB (xs.take j) ≤ 508 * 51 := fun j hj => by
      have : ∀ ys : List Bs, (∀ b ∈ ys, b.length ≤ 500) → sizeB sumB ys ≤ 508 * ys.length := by
        intro ys
        induction ys with
        | nil => intro _; simp [sizeB, sealsB]
        | cons y ys ih =>
          intro hy
          have h1 := ih fun z hz => hy z (List.mem_cons_of_mem _ hz)
          have h2 := hy y (by simp)
          simp only [sizeB, sealsB, List.length_append, sealB_len, List.length_cons] at h1 ⊢
          omega
      have h1 := this (xs.take j) fun b hb => h500 b (by
        have : xs.take j = (xs.take i).take j := by rw [List.take_take, Nat.min_eq_left hj]
        rw [this] at hb
        exact List.mem_of_mem_take hb)
      have h2 : (xs.take j).length ≤ j := by rw [List.length_take]; omega
      omega
    obtain ⟨e1, f1⟩ := f.add (b := xs[i]) (by omega) (by omega)
    refine add_ok q1 hr _ fun w33 hp => ?_
    rw [e1] at hp ⊢
    obtain ⟨F', G', g1, g2, g3, g4⟩ := hp
    refine ⟨_, rfl, ifF rfl ?_⟩
    refine drewG w33 _ fun w35 m35 => ?_
    have he35 := row_mod (row_mod he g4 fun k hk => (hrow k hk).1) m35 fun _ _ => id
    obtain ⟨ad2, had2, hc2⟩ := ends_cell (i := i) he35 (Nat.le_refl i)
    have e0 : IntKind.i64.wrap (((i + 1 : Nat) : Int) - 1) = (i : Int) := by rw [wrap64 (by omega) (by omega)]; omega
    rw [e0]
    have q2' : Mod no w w33 := q2.new g4 q3
    have hr35 : Rd w35 sl.1 sl.2.1 sl.2.2 xs[i] := (hr.mod' g4 fun h0 k hk hxx => by
      obtain ⟨ad', sl', g1', g2', g3'⟩ := hx.2 i xs[i] (by simp [hil])
      rw [had] at g1'
      injection g1' with g1'
      subst g1'
      have := cell_mod q2 g2' id
      rw [hcell] at this
      injection this with this
      injection this with u1 u2 u3
      rw [← u1, ← u2] at g3'
      have := g3'.lt h0 k hk
      have := q3 k hxx
      omega).no m35
    refine ⟨ad2, had2, by omega, by omega, _, by rw [Int.toNat_natCast]; exact hc2, ?_⟩
    refine rseal_ok hr35 (by omega) _ fun w39 p40 c42 m39 => ⟨_, _, _, rfl, ?_⟩
    have he39 := row_mod he35 m39 fun _ _ => id
    obtain ⟨ad3, had3, hc3⟩ := ends_cell (i := i) he39 (Nat.le_refl i)
    rw [had2] at had3
    injection had3 with had3
    subst had3
    refine ⟨?_, ?_⟩
    · rw [Int.toNat_natCast]
      have : Addr.add (Addr.add ad2 (i * 1)) 0 = Addr.add ad2 (i * 1) := by unfold Addr.add; split <;> simp_all
      rw [this]; exact hc3
    have hb := hszb i (Nat.le_refl _)
    have e2 : IntKind.i64.wrap ((sizeB sumB (xs.take i) : Int) + ((sl.2.1 + 8 : Nat) : Int)) = (sizeB sumB (xs.take (i + 1)) : Int) := by rw [wrap64 (by omega) (by omega), hsz]; omega
    rw [e2]
    refine newG _ w39 _ fun w43 B43 m43 z43 => ?_
    have he43 := row_mod he39 m43 fun _ _ => id
    obtain ⟨a', c', w45, hrun, he45, m45, o45⟩ := Els.push1 (P := Tryz.prog) (t := 31) (ty := 31) intone intsLaid he43 B43 (by omega)
    refine ⟨_, w45, hrun, _, _, _, rfl, ?_⟩
    have e3 : IntKind.i64.wrap ((i : Int) + 1) = ((i + 1 : Nat) : Int) := by rw [wrap64 (by omega) (by omega)]; rfl
    rw [e3]
    have m33_43 := (m35.trans m39).trans m43
    have g1' := g1.no m33_43
    have hrow' : ∀ k, rowB p17 k → ¬ (F' k ∨ G' k) := fun k hk hx => by
      have := hrow k hk
      rcases hx with hx | hx
      · rcases g2 k hx with h | h
        · exact this.1 (.inl h)
        · omega
      · rcases g3 k hx with h | h
        · exact this.1 (.inr h)
        · omega
    have zz := q2.size
    have zz2 := q2'.size
    have zz3 := m33_43.size
    have hFG' : ∀ k, F' k ∨ G' k → k < w33.heap.size := fun k hk => hk.elim (fun hk => (g1.st.old k hk).2) fun hk => (g1.old k hk).2
    refine ⟨⟨i + 1, F', G', _, rfl, by omega, g1'.mod m45 (fun k hk hx => hrow' k hx hk) (fun k hk hx => by have := (hrow k hx).2.1; omega), (q2'.trans m33_43).new m45 fun k hk => (hrow k hk).2.1, fun k hk => ?_, ?_, hpt, hlast, rfl, ?_, fun k hk => ⟨fun hx => ?_, ?_, ?_⟩, fun b hb => ?_, fun _ => by omega⟩, by simp only; omega⟩
    · rcases hk with hk | hk
      · rcases g2 k hk with h | h
        · exact q3 k (.inl h)
        · omega
      · rcases g3 k hk with h | h
        · exact q3 k (.inr h)
        · omega
    · rw [hsz, htk]
      exact f1.mono (by omega) (Nat.le_refl _)
    · rw [endsL_snoc]; exact he45
    · rcases o45 k hk with h | h
      · exact hrow' k h hx
      · have := hFG' k hx; omega
    · rcases o45 k hk with h | h
      · exact (hrow k h).2.1
      · omega
    · rcases he45.2 with ⟨hv, _⟩ | ⟨b, cap, cur, hv, _, hbb, _⟩
      · injection hv with hv; subst hv; simp [rowB] at hk
      · injection hv with hv; subst hv; simp [rowB] at hk; subst hk; exact lt_of_heap hbb
    · rw [htk] at hb
      rcases List.mem_append.1 hb with hb | hb
      · exact h500 b hb
      · rw [List.mem_singleton] at hb; subst hb; omega
  · obtain rfl : i = ll := by omega
    rw [List.take_of_length_le (by omega)] at f h500
    have hszx : sizeB sumB xs ≤ 508 * 50 := by
      have : ∀ ys : List Bs, (∀ b ∈ ys, b.length ≤ 500) → sizeB sumB ys ≤ 508 * ys.length := by
        intro ys
        induction ys with
        | nil => intro _; simp [sizeB, sealsB]
        | cons y ys ih =>
          intro hy
          have h1 := ih fun z hz => hy z (List.mem_cons_of_mem _ hz)
          have h2 := hy y (by simp)
          simp only [sizeB, sealsB, List.length_append, sealB_len, List.length_cons] at h1 ⊢
          omega
      have h1 := this xs h500
      by_cases h0 : 0 < i
      · have := h50 h0; omega
      · omega
    refine flush_ok q1 _ fun w50 hp => ?_
    obtain ⟨a2, e2, z2, n2⟩ := flush_once hN.1 hlast f.dead hpt z4 (by rw [f.wt]; exact f.ln) (by rw [f.wt]; omega) (by
      have h1 := f.kb
      have h2 := f.rm
      rw [f.wt]
      have h3 : a.room = 1048576 := h2
      have h4 := f4.kb
      omega)
    rw [e2] at hp ⊢
    rw [f.wt] at n2
    obtain ⟨F', G', g1, g2, g3, g4⟩ := hp
    refine ⟨_, rfl, ifF rfl ?_⟩
    have he50 := row_mod he g4 fun k hk => (hrow k hk).1
    obtain ⟨ad2, had2, hc2⟩ := ends_cell (i := i) he50 (Nat.le_refl i)
    rw [List.take_of_length_le (by omega)] at hc2
    refine ⟨ad2, had2, by omega, by omega, _, by rw [Int.toNat_natCast]; exact hc2, ?_⟩
    have e3 : IntKind.u64.wrap (IntKind.i64.wrap ((sizeB sumB xs : Int) + 1)) = ((sizeB sumB xs + 1 : Nat) : Int) := by rw [wrap64 (by omega) (by omega), IntKind.wrap_u64]; omega
    rw [e3]
    refine ⟨by omega, ?_⟩
    obtain ⟨n, hn, hns⟩ : ∃ n : Nat, IntKind.i64.wrap (Int.tmod cut ((sizeB sumB xs + 1 : Nat) : Int)) = (n : Int) ∧ n ≤ sizeB sumB xs := by
      have e : Int.tmod cut ((sizeB sumB xs + 1 : Nat) : Int) = cut % ((sizeB sumB xs + 1 : Nat) : Int) := Int.tmod_eq_emod_of_nonneg hcut.1
      have h1 := Int.emod_nonneg cut (show ((sizeB sumB xs + 1 : Nat) : Int) ≠ 0 by omega)
      have h2 := Int.emod_lt_of_pos cut (show (0 : Int) < ((sizeB sumB xs + 1 : Nat) : Int) by omega)
      refine ⟨(cut % ((sizeB sumB xs + 1 : Nat) : Int)).toNat, ?_, by omega⟩
      rw [e, wrap64 (by omega) (by omega)]; omega
    rw [hn]
    refine cut_ok g1.st.st nLog1 (by decide) _ _ fun w55 hp => ?_
    obtain ⟨a3, e4, ht⟩ := torn_cut n2 z2 hns
    have hnm := g1.st.named.cut (n := nLog1) (n : Int)
    rw [e4] at hp hnm ⊢
    obtain ⟨F3, G3, k1, k2, k3, k4⟩ := LSP.join g2 g3 g4 (g1.store (St1P.of g1.st hp hnm))
    refine ⟨_, rfl, ifF rfl ?_⟩
    have he55 := row_mod he k4 fun k hk => (hrow k hk).1
    have q55 : Mod no w w55 := q2.new k4 q3
    have zz := q2.size
    have hrow3 : ∀ k, rowB p17 k → ¬ (F3 k ∨ G3 k) := fun k hk hx => by
      have := hrow k hk
      rcases hx with hx | hx
      · rcases k2 k hx with h | h
        · exact this.1 (.inl h)
        · omega
      · rcases k3 k hx with h | h
        · exact this.1 (.inr h)
        · omega
    have lo3 : ∀ k, F3 k ∨ G3 k → w.heap.size ≤ k := fun k hk => by
      rcases hk with hk | hk
      · rcases k2 k hk with h | h
        · exact q3 k (.inl h)
        · omega
      · rcases k3 k hk with h | h
        · exact q3 k (.inr h)
        · omega
    refine ⟨fun x w' => ∃ k : Nat, x = k ∧ k ≤ i ∧ Mod no w55 w' ∧ sizeB sumB (xs.take k) ≤ n ∧ (k < i → n < sizeB sumB (xs.take (k + 1))), ?_, ?_⟩
    · refine ⟨fun x w' => ∃ k : Nat, x = k ∧ k ≤ i ∧ Mod no w55 w' ∧ sizeB sumB (xs.take k) ≤ n, fun x _ => ((i : Int) - x).toNat, ⟨0, rfl, by omega, Mod.refl _ _, by simp [sizeB, sealsB]⟩, ?_⟩
      rintro _ _ w62 ⟨k, rfl, hk, m62, hkn⟩
      have hkb : (k : Int) < 4611686018427387904 := by omega
      have e5 : IntKind.i64.wrap ((k : Int) + 1) = ((k + 1 : Nat) : Int) := by rw [wrap64 (by omega) (by omega)]; rfl
      rw [e5]
      refine ifK_dec (fun hlt2 => ?_) fun hge2 => ⟨k, rfl, hk, m62, hkn, fun h => by omega⟩
      obtain ⟨ad4, had4, hc4⟩ := ends_cell (i := i) (row_mod he55 m62 fun _ _ => id) (j := k + 1) (by omega)
      refine ⟨ad4, had4, by omega, by omega, _, by rw [Int.toNat_natCast]; exact hc4, ?_⟩
      refine ifK_dec (fun hle2 => ⟨⟨k + 1, rfl, by omega, m62, by omega⟩, by simp only; omega⟩) fun hgt2 => ⟨k, rfl, hk, m62, hkn, fun _ => by omega⟩
    rintro _ _ w67 ⟨k, rfl, hk, m67, hkn, hkm⟩
    obtain ⟨tail, hT⟩ := ht k (by omega) hkn (fun h => hkm (by omega))
    refine ⟨fun x w' => ∃ (j : Nat) (F G : Nat → Prop) (a : AS) (l : AL) (tail : Bs), x = j ∧ j ≤ 2 ∧ LS w' s g F G a l ∧ Mod no w w' ∧ (∀ k, F k ∨ G k → w.heap.size ≤ k) ∧ Torn a (xs.take k) tail ∧ Els (Value.int .i64) 3 w' p17 (i + 1) n19 (endsL xs i) ∧ (∀ k, rowB p17 k → ¬ (F k ∨ G k) ∧ k < w'.heap.size), fun x _ => (2 - x).toNat,
      ⟨0, F3, G3, a3, _, tail, rfl, by omega, k1.no m67, q55.trans m67, lo3, hT, row_mod he55 m67 fun _ _ => id, fun k hk => ⟨hrow3 k hk, by have := (hrow k hk).2.2; have := k4.size; have := m67.size; omega⟩⟩, ?_⟩
    clear hT k1 k2 k3 k4 g1 g2 g3 g4 n2 e2 hp e4 ht
    rintro _ _ w72 ⟨j, F, G, a, l, tail, rfl, hj, q1, q2, q3, hT, he, hrow⟩
    refine ifK_dec (fun hlt3 => ?_) fun hge3 => lives w72 q2 _ fun w95 m95 => ⟨_, rfl, hR w95 m95⟩
    obtain ⟨a4, m4, e6, hT4⟩ := torn_open hT (part := 1048576) (by omega)
    refine open_l_ok q1.st 1048576 _ (fun e' he' => by rw [e6] at he'; cases he') fun l' check rs he' w74 g' cp cl cc rp rl rc ho => ?_
    rw [e6] at he' ho
    injection he' with _ he'
    injection he' with he'
    injection he' with _ he'
    injection he' with he1 he2
    subst he1; subst he2
    obtain ⟨H', v1, v2, v3, _, _, _, _, b74⟩ := ho.ex
    obtain ⟨F5, G5, u1, u2, u3, u4⟩ := q1.store ⟨H', v1, v2, v3⟩
    have hrl := b74.len.1
    refine ⟨_, _, _, _, _, _, _, _, rfl, ?_⟩
    refine read_ok u1.st.st nLog1 (by decide) _ fun w84 p85 n86 c87 e84 m84 _ => ⟨_, _, _, _, rfl, ifF rfl ⟨by omega, by omega, by omega, ?_⟩⟩
    rw [sub0, Int.toNat_natCast, Nat.sub_zero, Nat.sub_zero]
    have q74 : Mod no w w74 := q2.new u4 q3
    have he74 := row_mod he u4 fun k hk => (hrow k hk).1
    refine same_ok2 (b74.rr.no m84) ((hx.no (q74.trans m84)).take hk) (by rw [← hrl, List.length_take]; omega) _ fun w90 m90 => ⟨_, rfl, ifF (by rw [decide_eq_true rfl]; rfl) ?_⟩
    have m7490 := m84.trans m90
    have he90 := row_mod he74 m7490 fun _ _ => id
    obtain ⟨ad5, had5, hc5⟩ := ends_cell (i := i) he90 hk
    have hrd : n86 = sizeB sumB (xs.take k) := by
      have := e84.len.1
      rw [hT4.read, List.append_nil, sealsB_size] at this
      exact this.symm
    refine ⟨ad5, had5, by omega, by omega, _, hc5, ifF (by rw [hrd]; simp) ?_⟩
    have e7 : IntKind.i64.wrap ((j : Int) + 1) = ((j + 1 : Nat) : Int) := by rw [wrap64 (by omega) (by omega)]; rfl
    rw [e7]
    have zz3 := q2.size
    refine ⟨⟨j + 1, F5, G5, a4, l, [], rfl, by omega, u1.no m7490, q74.trans m7490, fun k hk => ?_, hT4, he90, fun k hk => ⟨fun hx => ?_, ?_⟩⟩, by simp only; omega⟩
    · rcases hk with hk | hk
      · rcases u2 k hk with h | h
        · exact q3 k (.inl h)
        · omega
      · rcases u3 k hk with h | h
        · exact q3 k (.inr h)
        · omega
    · have := hrow k hk
      rcases hx with hx | hx
      · rcases u2 k hx with h | h
        · exact this.1 (.inl h)
        · omega
      · rcases u3 k hx with h | h
        · exact this.1 (.inr h)
        · omega
    · have := (hrow k hk).2
      have := u4.size
      have := m7490.size
      omega
end Go.Proofs.YtgjdandnncjegaaGreatDoor

/- Arguments that are bytes; the reference's Texts. -/
namespace Go.Proofs.YtgjdandnncjegaaGreatDoor
open Go Go.ChangeShapes Go.WideShapes Go.Deep Go.Proofs.YtgjdandnncjegaaGreatDoor.St

/-- An argument's bytes, as many as a machine can hold. -/
def RdA (w : World) (a : Option Addr) (l c : Nat) (x : Bs) : Prop := Rd w a l c x ∧ c ≤ 140737488355328

theorem bytesU8 : Tryz.prog.bytesOf 5 = 1 := by kernel_rfl
theorem cellsU8 : Tryz.prog.cellsOf 5 = 1 := by kernel_rfl
set_option maxRecDepth 100000 in
theorem bytes_of_trod {H : Type} {enc : TypeId × Value → H} {w : World} {base fuel : Nat} {cs : List Value} {x : DataW H × List MemPlace} (hf : DataW.trod enc Tryz.prog w base (fun _ => true) true fuel 27 cs = some x)
    (hz : ∀ n ∈ x.1.weights Tryz.prog 27, n ≤ reachBytes) : ∃ a l c bs, cs = [.slice a l c] ∧ RdA w a l c bs := by
  rcases open_slice1 Tryz.underlying27 cellsU8 hf with ⟨hcs, _⟩ | ⟨ad, l, c, m, n, V, D, Pl, hcs, _, hl, hm, hmm, hx, hi⟩
  · exact ⟨none, 0, 0, [], hcs, ⟨rfl, Nat.le_refl _, by decide, fun ad h => (by cases h), fun _ => ⟨rfl, rfl⟩⟩, Nat.zero_le _⟩
  · have hmc : m = c := by rw [hmm]; rfl
    have hone : ∀ i, ∃ b : UInt8, i < l → V i = u8v b := by
      intro i
      by_cases hil : i < l
      · obtain ⟨_, ht⟩ := hi i (by omega)
        obtain ⟨k, hk, _, hwf⟩ := DataW.trod_int Tryz.underlying5 ht
        simp only [List.cons.injEq, and_true] at hk
        have hwf : (0 : Int) ≤ k ∧ k ≤ 255 := by
          have hwf : (decide ((0 : Int) ≤ k) && decide (k ≤ 255)) = true := hwf
          rw [Bool.and_eq_true, decide_eq_true_iff, decide_eq_true_iff] at hwf
          exact hwf
        refine ⟨UInt8.ofNat k.toNat, fun _ => ?_⟩
        rw [hk, u8v]
        congr 1
        rw [UInt8.toNat_ofNat']
        omega
      · exact ⟨0, fun h => absurd h hil⟩
    obtain ⟨f, hf⟩ := Classical.axiomOfChoice hone
    have hcz : c ≤ 140737488355328 := by
      subst hx
      have := hz ((l + (c - l)) * 1) (by simp [DataW.weights, Tryz.underlying27, bytesU8, hmc])
      have h2 : reachBytes ≤ 140737488355328 := by decide
      omega
    refine ⟨some ad, l, c, (List.range l).map f, hcs, ⟨by simp, hl, by simpa [maxLen] using hm, fun ad' had j v hj => ?_, fun h => by cases h⟩, hcz⟩
    cases had
    rw [List.map_map, List.getElem?_map] at hj
    by_cases hjl : j < l
    · rw [List.getElem?_range hjl] at hj
      simp only [Option.map_some, Option.some.injEq] at hj
      rw [(hi j (by omega)).1, hf j hjl, ← hj]
      rfl
    · rw [List.getElem?_eq_none (by simpa using hjl)] at hj
      cases hj
set_option maxRecDepth 100000 in
theorem args_bytes {H : Type} {enc : TypeId × Value → H} {w : World} {v : Value} {d : DataW H} {p : List MemPlace} {base : Nat} {r : Reach} {b0 : Nat} (hv : Value.okWide Tryz.prog w r b0 27 v) (h : DataW.Trod enc Tryz.prog w base (fun _ => true) true 27 v d p)
    (hz : ∀ n ∈ d.weights Tryz.prog 27, n ≤ reachBytes) : ∃ a l c x, v = .slice a l c ∧ RdA w a l c x := by
  obtain ⟨a, l, c, rfl⟩ := okWide_slice Tryz.underlying27 hv
  obtain ⟨fuel, hf⟩ := h
  obtain ⟨a', l', c', bs, hcs, hr⟩ := bytes_of_trod hf hz
  simp only [Value.cells, List.cons.injEq, and_true] at hcs
  injection hcs with h1 h2 h3
  subst h1; subst h2; subst h3
  exact ⟨a, l, c, bs, rfl, hr⟩

end Go.Proofs.YtgjdandnncjegaaGreatDoor

/- Arguments that are structs, opened field by field. It names no program. -/
namespace Go.Proofs.YtgjdandnncjegaaGreatDoor.St
open Go Go.ChangeShapes Go.WideShapes Go.Deep

section
variable {H : Type} {enc : TypeId × Value → H} {P : Program} {w : World} {base : Nat} {spare : Nat → Bool} {held : Bool}
theorem open_agg {r : Reach} {b0 : Nat} {t : TypeId} {fs : Array Field} {v : Value} {d : DataW H} {p : List MemPlace} (hs : P.underlying t = some (.struct fs)) (hone : oneCellFields P fs = true) (hC : P.cellsOf t = fs.size)
    (hv : Value.okWide P w r b0 t v) (h : DataW.Trod enc P w base spare held t v d p) :
    ∃ (cs : Array Value) (ys : List (DataW H × List MemPlace)) (n : Nat), v = .agg cs ∧ cs.size = fs.size ∧ d = .agg (ys.map (·.1)) ∧ ys.length = fs.size ∧
      ∀ (j : Nat) (f : Field), fs[j]? = some f → ∃ c y, cs[j]? = some c ∧ ys[j]? = some y ∧ DataW.trod enc P w base spare held n f.type [c] = some y := by
  obtain ⟨cs, rfl, hsz⟩ := okWide_struct hs hv
  obtain ⟨fuel, hf⟩ := h
  obtain ⟨ys, n, _, hy, _, hlen, hg⟩ := DataW.trod_struct hs hf
  simp only [Prod.mk.injEq] at hy
  refine ⟨cs, ys, n, rfl, hsz.trans hC, hy.1, hlen, fun j f hj => ?_⟩
  obtain ⟨ho, hk⟩ := hone_of hone j f hj
  have hjl : j < fs.size := (Array.getElem?_eq_some_iff.1 hj).1
  have hjc : j < cs.size := by rw [hsz, hC]; exact hjl
  have hg := hg j f hj
  rw [ho, hk] at hg
  have hone' : ((Value.agg cs).cells.toList.drop j).take 1 = [cs[j]] := by
    show (cs.toList.drop j).take 1 = _
    rw [List.drop_eq_getElem_cons (by simpa using hjc)]
    simp
  rw [hone'] at hg
  have hys : ys[j]? = some (ys[j]'(by omega)) := List.getElem?_eq_getElem (by omega)
  exact ⟨cs[j], _, Array.getElem?_eq_getElem hjc, hys, hg.trans hys⟩
theorem agg_weights {t : TypeId} {fs : Array Field} {ys : List (DataW H × List MemPlace)} (hs : P.underlying t = some (.struct fs)) {j : Nat} {f : Field} (hj : fs[j]? = some f) {y : DataW H × List MemPlace} (hy : ys[j]? = some y)
    {B : Nat} (h : ∀ n ∈ (DataW.agg (ys.map (·.1))).weights P t, n ≤ B) : ∀ n ∈ y.1.weights P f.type, n ≤ B := by
  intro n hn
  refine h n ?_
  rw [DataW.weights, hs]
  refine DataW.weights_mem_each (j := j) (t := f.type) (d := y.1) ?_ ?_ n hn
  · rw [List.getElem?_map, Array.getElem?_toList, hj]; rfl
  · rw [List.getElem?_map, hy]; rfl
theorem slice_weights {t e : TypeId} {elems spare' : List (DataW H)} (hs : P.underlying t = some (.slice e)) {x : DataW H} (hx : x ∈ elems ++ spare') {B : Nat} (h : ∀ n ∈ (DataW.slice elems spare').weights P t, n ≤ B) : ∀ n ∈ x.weights P e, n ≤ B := by
  have all : ∀ (l : List (DataW H)), x ∈ l → ∀ n ∈ x.weights P e, n ∈ DataW.weightsAll P e l := by
    intro l
    induction l with
    | nil => intro h; cases h
    | cons y r ih =>
      intro h n hn
      rw [DataW.weightsAll, List.mem_append]
      rcases List.mem_cons.1 h with rfl | h
      · exact .inl hn
      · exact .inr (ih h n hn)
  intro n hn
  refine h n ?_
  rw [DataW.weights, hs]
  rcases List.mem_append.1 hx with hx | hx
  · exact List.mem_cons_of_mem _ (List.mem_append_left _ (all _ hx n hn))
  · exact List.mem_cons_of_mem _ (List.mem_append_right _ (all _ hx n hn))
theorem slice_size {t e : TypeId} {elems spare' : List (DataW H)} (hs : P.underlying t = some (.slice e)) {B : Nat} (h : ∀ n ∈ (DataW.slice elems spare').weights P t, n ≤ B) : (elems.length + spare'.length) * P.bytesOf e ≤ B := by
  refine h _ ?_
  rw [DataW.weights, hs]
  exact List.mem_cons_self
end
end Go.Proofs.YtgjdandnncjegaaGreatDoor.St

/- Arguments that are rows of structs: they are read, never written. It names no program. -/
namespace Go.Proofs.YtgjdandnncjegaaGreatDoor.St
open Go Go.ChangeShapes Go.WideShapes Go.Deep

/-- An argument's row. -/
structure ArgRow {α : Type} (L : Lay α) (w : World) (a : Option Addr) (l c : Nat) (xs : List α) : Prop where
  len : xs.length = l
  lc : l ≤ c
  cm : c ≤ 9223372036854775807
  blk : ∀ ad, a = some ad → 0 < l → ad.block < w.heap.size
  get : ∀ (i : Nat) (h : i < xs.length), ∃ ad, a = some ad ∧ ∀ j v, (L.cs xs[i])[j]? = some v → w.cell? (Addr.add (Addr.add ad (i * L.s)) j) = some v
theorem cell_no {w w' : World} (h : Mod no w w') {ad : Addr} (hb : ad.block < w.heap.size) : w'.cell? ad = w.cell? ad := by
  have := h.keep ad.block hb id
  unfold World.cell?
  rw [this]
theorem add_block (ad : Addr) (n : Nat) : (Addr.add ad n).block = ad.block := by unfold Addr.add; split <;> rfl
theorem ArgRow.no {α : Type} {L : Lay α} {w w' : World} {a : Option Addr} {l c : Nat} {xs : List α} (h : ArgRow L w a l c xs) (hm : Mod no w w') : ArgRow L w' a l c xs := by
  refine ⟨h.len, h.lc, h.cm, fun ad had hl => Nat.lt_of_lt_of_le (h.blk ad had hl) hm.size, fun i hi => ?_⟩
  obtain ⟨ad, had, hg⟩ := h.get i hi
  refine ⟨ad, had, fun j v hj => ?_⟩
  rw [cell_no hm (by rw [add_block, add_block]; exact h.blk ad had (by have := h.len; omega))]
  exact hg j v hj
theorem cell_lt {w : World} {ad : Addr} {v : Value} (h : w.cell? ad = some v) : ad.block < w.heap.size := by
  unfold World.cell? at h
  cases hh : w.heap[ad.block]? with
  | none => rw [hh] at h; cases h
  | some o => exact lt_of_heap hh

section
variable {H : Type} {enc : TypeId × Value → H} {P : Program} {w : World} {base : Nat} {spare : Nat → Bool} {held : Bool}
theorem open_slice_fields {t e : TypeId} {fs : Array Field} {fuel : Nat} {cs : List Value} {x : DataW H × List MemPlace} (ht : P.underlying t = some (.slice e)) (he : P.underlying e = some (.struct fs))
    (hone : oneCellFields P fs = true) (hC : P.cellsOf e = fs.size) (h : DataW.trod enc P w base spare held fuel t cs = some x) :
    (cs = [.slice none 0 0] ∧ x = (.nil, [])) ∨
    ∃ (a : Addr) (len cap m : Nat) (D : Nat → DataW H) (Pl : Nat → List MemPlace), cs = [.slice (some a) len cap] ∧ base ≤ a.block ∧ len ≤ cap ∧ cap ≤ maxLen ∧ m = (if spare a.block then cap else len) ∧
      x = (.slice ((List.range len).map D) ((List.range (m - len)).map fun j => D (len + j)), MemPlace.row a (m * fs.size) ++ (List.range m).flatMap Pl) ∧
      ∀ i, i < m → ∃ (ys : List (DataW H × List MemPlace)) (n : Nat), D i = .agg (ys.map (·.1)) ∧ Pl i = ys.flatMap (·.2) ∧ ys.length = fs.size ∧
        ∀ (j : Nat) (f : Field), fs[j]? = some f → ∃ (v : Value) (y : DataW H × List MemPlace), w.cell? (a.add (i * fs.size + j)) = some v ∧ ys[j]? = some y ∧ DataW.trod enc P w base spare held n f.type [v] = some y := by
  rcases open_slice ht h with h0 | ⟨a, len, cap, m, n, D, Pl, hcs, hb, hl, hm, hmm, hx, hi⟩
  · exact .inl h0
  · refine .inr ⟨a, len, cap, m, D, Pl, hcs, hb, hl, hm, hmm, by rw [hC] at hx; exact hx, fun i him => ?_⟩
    obtain ⟨cs', hc, ht'⟩ := hi i him
    rw [hC] at hc
    obtain ⟨ys, n', hn', hy, hlen, hyl, hf⟩ := DataW.trod_struct he ht'
    obtain ⟨_, hcl, hat⟩ := World.cells?_some hc
    simp only [Prod.mk.injEq] at hy
    refine ⟨ys, n', hy.1, hy.2, hyl, fun j f hj => ?_⟩
    obtain ⟨ho, hk⟩ := hone_of hone j f hj
    have hjl : j < fs.size := (Array.getElem?_eq_some_iff.1 hj).1
    have hcell := hat j hjl
    have hv : cs'[j]? = some (cs'[j]'(by omega)) := List.getElem?_eq_getElem (by omega)
    have h1 := hf j f hj
    rw [ho, hk] at h1
    have hone' : (cs'.drop j).take 1 = [cs'[j]'(by omega)] := by
      rw [List.drop_eq_getElem_cons (by omega)]
      rfl
    rw [hone'] at h1
    have hys : ys[j]? = some (ys[j]'(by omega)) := List.getElem?_eq_getElem (by omega)
    refine ⟨_, _, ?_, hys, h1.trans hys⟩
    rw [← Go.Deep.add_add, hcell, hv]
end

/-- An argument of a slice type whose elements are such structs: each is read as Q says. -/
theorem args_row {H : Type} {enc : TypeId × Value → H} {P : Program} {w : World} {v : Value} {d : DataW H} {p : List MemPlace} {base : Nat} {r : Reach} {b0 : Nat} {t e : TypeId} {fs : Array Field} {α : Type} [Inhabited α] {L : Lay α} (Q : α → Prop) {B : Nat}
    (ht : P.underlying t = some (.slice e)) (he : P.underlying e = some (.struct fs)) (hone : oneCellFields P fs = true) (hC : P.cellsOf e = fs.size) (hs : L.s = fs.size)
    (hv : Value.okWide P w r b0 t v) (h : DataW.Trod enc P w base (fun _ => true) true t v d p) (hz : ∀ n ∈ d.weights P t, n ≤ B)
    (hx : ∀ (ys : List (DataW H × List MemPlace)) (n : Nat) (V : Nat → Value), (∀ (j : Nat) (f : Field), fs[j]? = some f → ∃ y, ys[j]? = some y ∧ DataW.trod enc P w base (fun _ => true) true n f.type [V j] = some y ∧ ∀ m ∈ y.1.weights P f.type, m ≤ B) →
      ∃ x : α, (∀ j u, (L.cs x)[j]? = some u → V j = u) ∧ Q x) :
    ∃ a l c xs, v = .slice a l c ∧ ArgRow L w a l c xs ∧ (∀ x ∈ xs, Q x) ∧ c * P.bytesOf e ≤ B := by
  obtain ⟨a, l, c, rfl⟩ := okWide_slice ht hv
  obtain ⟨fuel, hf⟩ := h
  rcases open_slice_fields ht he hone hC hf with ⟨hcs, _⟩ | ⟨ad, len, cap, m, D, Pl, hcs, _, hl, hm, hmm, hxx, hi⟩
  · simp only [Value.cells, List.cons.injEq, and_true] at hcs
    injection hcs with h1 h2 h3
    subst h1; subst h2; subst h3
    exact ⟨none, 0, 0, [], rfl, ⟨rfl, Nat.le_refl _, by decide, fun ad h => (by cases h), fun i h => (by simp at h)⟩, fun x h => (by cases h), by rw [Nat.zero_mul]; exact Nat.zero_le _⟩
  · simp only [Value.cells, List.cons.injEq, and_true] at hcs
    injection hcs with h1 h2 h3
    subst h1; subst h2; subst h3
    have hmc : m = c := by rw [hmm]; rfl
    have hd : d = .slice ((List.range l).map D) ((List.range (m - l)).map fun j => D (l + j)) := congrArg Prod.fst hxx
    have hone : ∀ i, i < l → ∃ x : α, (∀ j u, (L.cs x)[j]? = some u → w.cell? (Addr.add ad (i * L.s + j)) = some u) ∧ Q x := by
      intro i hil
      obtain ⟨ys, n, hD, _, _, hg⟩ := hi i (by omega)
      have hDz : ∀ n ∈ (D i).weights P e, n ≤ B := by
        rw [hd] at hz
        exact slice_weights ht (List.mem_append_left _ (List.mem_map.2 ⟨i, List.mem_range.2 hil, rfl⟩)) hz
      have hch : ∀ j, ∃ v : Value, ∀ f, fs[j]? = some f → w.cell? (ad.add (i * fs.size + j)) = some v ∧ ∃ y, ys[j]? = some y ∧ DataW.trod enc P w base (fun _ => true) true n f.type [v] = some y := by
        intro j
        cases hj : fs[j]? with
        | none => exact ⟨.tuple #[], fun f hf => by cases hf⟩
        | some f =>
          obtain ⟨v, y, q1, q2, q3⟩ := hg j f hj
          exact ⟨v, fun f' hf' => by cases hf'; exact ⟨q1, y, q2, q3⟩⟩
      obtain ⟨V, hV⟩ := Classical.axiomOfChoice hch
      obtain ⟨x, hx1, hx2⟩ := hx ys n V fun j f hj => by
        obtain ⟨_, y, q2, q3⟩ := hV j f hj
        rw [hD] at hDz
        exact ⟨y, q2, q3, agg_weights he hj q2 hDz⟩
      refine ⟨x, fun j u hj => ?_, hx2⟩
      have hjs : j < fs.size := by
        have := (List.getElem?_eq_some_iff.1 hj).1
        rw [L.len] at this
        omega
      have := (hV j _ (Array.getElem?_eq_getElem hjs)).1
      rw [hs, this, hx1 j u hj]
    have hall : ∀ i, ∃ x : α, i < l → (∀ j u, (L.cs x)[j]? = some u → w.cell? (Addr.add ad (i * L.s + j)) = some u) ∧ Q x := by
      intro i
      by_cases h : i < l
      · obtain ⟨x, hx⟩ := hone i h
        exact ⟨x, fun _ => hx⟩
      · exact ⟨default, fun h' => absurd h' h⟩
    obtain ⟨f, hf⟩ := Classical.axiomOfChoice hall
    refine ⟨some ad, l, c, (List.range l).map f, rfl, ⟨by simp, hl, by simpa [maxLen] using hm, fun ad' had hl0 => ?_, fun i h => ?_⟩, fun x hx => ?_, ?_⟩
    · cases had
      have hp := (hf 0 hl0).1 0 ((L.cs (f 0))[0]'(by rw [L.len]; exact L.pos)) (List.getElem?_eq_getElem _)
      have := cell_lt hp
      rwa [add_block] at this
    · refine ⟨ad, rfl, fun j v hj => ?_⟩
      rw [List.getElem_map, List.getElem_range] at hj
      have := (hf i (by simpa using h)).1 j v hj
      rwa [← Go.Deep.add_add] at this
    · obtain ⟨i, hi, rfl⟩ := List.mem_map.1 hx
      exact (hf i (List.mem_range.1 hi)).2
    · rw [hd] at hz
      have := slice_size ht hz
      rw [List.length_map, List.length_map, List.length_range, List.length_range, show l + (m - l) = c by omega] at this
      exact this
end Go.Proofs.YtgjdandnncjegaaGreatDoor.St

/- Arguments, whatever they are made of, told by their leaves. It names no program. -/
namespace Go.Proofs.YtgjdandnncjegaaGreatDoor.St
open Go Go.ChangeShapes Go.WideShapes Go.Deep

/-- These cells are a value of type t, as far as n steps go. -/
def Leaf (P : Program) (w : World) (B : Nat) : Nat → TypeId → List Value → Prop
  | 0, _, _ => True
  | n + 1, t, cs => match P.underlying t with
    | some (.struct fs) => cs.length = P.cellsOf t ∧ ∀ (i : Nat) (f : Field), fs[i]? = some f → Leaf P w B n f.type ((cs.drop f.offset).take (P.cellsOf f.type))
    | some (.int k) => ∃ x, cs = [.int k x] ∧ (Lit.int k x).wf = true
    | some .string => ∃ s : ByteArray, cs = [.string s] ∧ s.size ≤ B
    | some .bool => ∃ b, cs = [.bool b]
    | some (.slice e) => ∃ (a : Option Addr) (l c : Nat), cs = [.slice a l c] ∧ l ≤ c ∧ c ≤ 9223372036854775807 ∧ c * P.bytesOf e ≤ B ∧ (a = none → c = 0) ∧
        ∀ i, i < l → ∃ ad, a = some ad ∧ ∃ cs', cs'.length = P.cellsOf e ∧ (∀ j v, cs'[j]? = some v → w.cell? (Addr.add (Addr.add ad (i * P.cellsOf e)) j) = some v) ∧ Leaf P w B n e cs'
    | _ => True
section
variable {H : Type} {enc : TypeId × Value → H} {P : Program} {w : World} {base : Nat} {B : Nat}
theorem leaf_of : ∀ (m : Nat) {t : TypeId} {cs : List Value} {x : DataW H × List MemPlace} {fuel : Nat}, DataW.trod enc P w base (fun _ => true) true fuel t cs = some x → (∀ n ∈ x.1.weights P t, n ≤ B) → Leaf P w B m t cs
  | 0, _, _, _, _, _, _ => trivial
  | m + 1, t, cs, x, fuel, h, hz => by
    unfold Leaf
    split
    · rename_i fs ht
      obtain ⟨ys, n, _, rfl, hl, hlen, hf⟩ := DataW.trod_struct ht h
      refine ⟨hl, fun i f hi => ?_⟩
      have h1 := hf i f hi
      have hil : i < fs.size := (Array.getElem?_eq_some_iff.1 hi).1
      have hys : ys[i]? = some (ys[i]'(by omega)) := List.getElem?_eq_getElem (by omega)
      rw [hys] at h1
      exact leaf_of m h1 (agg_weights ht hi hys hz)
    · rename_i k ht
      obtain ⟨n, h1, _, h2⟩ := DataW.trod_int ht h
      exact ⟨n, h1, h2⟩
    · rename_i ht
      obtain ⟨s, h1, rfl, _⟩ := DataW.trod_string ht h
      exact ⟨s, h1, hz _ (by simp [DataW.weights])⟩
    · rename_i ht
      obtain ⟨b, h1, _⟩ := DataW.trod_bool ht h
      exact ⟨b, h1⟩
    · rename_i e ht
      rcases DataW.trod_slice ht h with ⟨h1, _⟩ | ⟨a, len, cap, elems, rest, n, _, h1, rfl, _, hl, hm, hel, hget, hsp, _⟩
      · exact ⟨none, 0, 0, h1, Nat.le_refl _, by decide, by rw [Nat.zero_mul]; exact Nat.zero_le _, fun _ => rfl, fun i hi => by omega⟩
      · refine ⟨some a, len, cap, h1, hl, by simpa [maxLen] using hm, ?_, (fun h => by cases h), fun i hi => ⟨a, rfl, ?_⟩⟩
        · have := slice_size ht hz
          rw [List.length_map, List.length_map, hel, (hsp rfl).1, show len + (cap - len) = cap by omega] at this
          exact this
        · have h2 := hget i hi
          have hys : elems[i]? = some (elems[i]'(by omega)) := List.getElem?_eq_getElem (by omega)
          rw [hys] at h2
          obtain ⟨cs', h3, h4⟩ := Option.bind_eq_some_iff.1 h2
          obtain ⟨_, hcl, hat⟩ := World.cells?_some h3
          refine ⟨cs', hcl, fun j v hj => ?_, leaf_of m h4 ?_⟩
          · have hjl : j < P.cellsOf e := by have := (List.getElem?_eq_some_iff.1 hj).1; omega
            rw [hat j hjl, hj]
          · exact slice_weights ht (List.mem_append_left _ (List.mem_map.2 ⟨_, List.getElem_mem (by omega), rfl⟩)) hz
    · trivial
/-- A row whose elements are told by their leaves. -/
theorem leaf_row {α : Type} [Inhabited α] {L : Lay α} (Q : α → Prop) {e : TypeId} {a : Option Addr} {l c n : Nat} (hs : L.s = P.cellsOf e) (hx : ∀ cs, cs.length = L.s → Leaf P w B n e cs → ∃ x, L.cs x = cs ∧ Q x) (hl : l ≤ c) (hc : c ≤ 9223372036854775807)
    (h : ∀ i, i < l → ∃ ad, a = some ad ∧ ∃ cs', cs'.length = P.cellsOf e ∧ (∀ j v, cs'[j]? = some v → w.cell? (Addr.add (Addr.add ad (i * P.cellsOf e)) j) = some v) ∧ Leaf P w B n e cs') : ∃ xs, ArgRow L w a l c xs ∧ ∀ x ∈ xs, Q x := by
  have hall : ∀ i, ∃ x : α, i < l → (∃ ad, a = some ad ∧ ∀ j u, (L.cs x)[j]? = some u → w.cell? (Addr.add (Addr.add ad (i * L.s)) j) = some u) ∧ Q x := by
    intro i
    by_cases hi : i < l
    · obtain ⟨ad, had, cs', h1, h2, h3⟩ := h i hi
      obtain ⟨x, rfl, hq⟩ := hx cs' (by rw [h1, hs]) h3
      exact ⟨x, fun _ => ⟨⟨ad, had, fun j u hj => by rw [hs]; exact h2 j u hj⟩, hq⟩⟩
    · exact ⟨default, fun h' => absurd h' hi⟩
  obtain ⟨f, hf⟩ := Classical.axiomOfChoice hall
  refine ⟨(List.range l).map f, ⟨by simp, hl, hc, fun ad had hl0 => ?_, fun i hi => ?_⟩, fun x hx => ?_⟩
  · obtain ⟨⟨ad', had', hg⟩, _⟩ := hf 0 hl0
    rw [had] at had'
    cases had'
    have := cell_lt (hg 0 ((L.cs (f 0))[0]'(by rw [L.len]; exact L.pos)) (List.getElem?_eq_getElem _))
    rwa [add_block, add_block] at this
  · rw [List.length_map, List.length_range] at hi
    obtain ⟨⟨ad, had, hg⟩, _⟩ := hf i hi
    refine ⟨ad, had, fun j v hj => ?_⟩
    rw [List.getElem_map, List.getElem_range] at hj
    exact hg j v hj
  · obtain ⟨i, hi, rfl⟩ := List.mem_map.1 hx
    exact (hf i (List.mem_range.1 hi)).2
end

/-! ### Rows of a program's own, read as an argument's; and an argument's, appended -/
theorem Row.arg {α : Type} {L : Lay α} {e : TypeId} {w : World} {a : Option Addr} {l c : Nat} {xs : List α} (h : Row L e w a l c xs) : ArgRow L w a l c xs := by
  have hl := h.len
  refine ⟨hl.1, hl.2.1, hl.2.2, fun ad had _ => ?_, fun i hi => ?_⟩
  · rcases h.block with ⟨h0, _⟩ | ⟨g, cur, hg, hh, _⟩
    · rw [h0] at had; cases had
    · rw [hg] at had; cases had; exact lt_of_heap hh
  · obtain ⟨g, had, hg⟩ := h.get hi
    exact ⟨_, had, hg⟩
theorem Lay.div {α : Type} (L : Lay α) : ∀ {xs : List α} {k : Nat} {v : Value}, (xs.flatMap L.cs)[k]? = some v → ∃ (i : Nat) (hi : i < xs.length) (j : Nat), k = i * L.s + j ∧ (L.cs (xs[i]'hi))[j]? = some v
  | [], k, v, h => by simp at h
  | x :: r, k, v, h => by
    rw [List.flatMap_cons] at h
    by_cases hk : k < L.s
    · rw [List.getElem?_append_left (by rw [L.len]; exact hk)] at h
      exact ⟨0, by simp, k, by simp, h⟩
    · rw [List.getElem?_append_right (by rw [L.len]; omega), L.len] at h
      obtain ⟨i, hi, j, he, hj⟩ := L.div h
      exact ⟨i + 1, by simpa using hi, j, by rw [Nat.add_mul]; omega, by simpa using hj⟩
theorem ArgRow.all {α : Type} {L : Lay α} {w : World} {a : Option Addr} {l c : Nat} {xs : List α} (h : ArgRow L w a l c xs) : (∀ ad, a = some ad → ∀ j v, (xs.flatMap L.cs)[j]? = some v → w.cell? (ad.add j) = some v) := by
  intro ad had k v hk
  obtain ⟨i, hi, j, rfl, hj⟩ := L.div hk
  obtain ⟨ad', had', hg⟩ := h.get i hi
  rw [had] at had'
  cases had'
  rw [← Go.Deep.add_add]
  exact hg j v hj
end Go.Proofs.YtgjdandnncjegaaGreatDoor.St

/- Leaves, opened. It names no program. -/
namespace Go.Proofs.YtgjdandnncjegaaGreatDoor.St
open Go Go.ChangeShapes Go.WideShapes Go.Deep
section
variable {P : Program} {w : World} {B n : Nat} {t : TypeId} {cs : List Value}
theorem leaf_struct {fs : Array Field} (ht : P.underlying t = some (.struct fs)) (h : Leaf P w B (n + 1) t cs) : cs.length = P.cellsOf t ∧ ∀ (i : Nat) (f : Field), fs[i]? = some f → Leaf P w B n f.type ((cs.drop f.offset).take (P.cellsOf f.type)) := by
  unfold Leaf at h; rw [ht] at h; exact h
theorem leaf_int {k : IntKind} (ht : P.underlying t = some (.int k)) (h : Leaf P w B (n + 1) t cs) : ∃ x, cs = [.int k x] ∧ (Lit.int k x).wf = true := by
  unfold Leaf at h; rw [ht] at h; exact h
theorem leaf_string (ht : P.underlying t = some .string) (h : Leaf P w B (n + 1) t cs) : ∃ s : ByteArray, cs = [.string s] ∧ s.size ≤ B := by
  unfold Leaf at h; rw [ht] at h; exact h
theorem leaf_bool (ht : P.underlying t = some .bool) (h : Leaf P w B (n + 1) t cs) : ∃ b, cs = [.bool b] := by
  unfold Leaf at h; rw [ht] at h; exact h
theorem leaf_slice {e : TypeId} (ht : P.underlying t = some (.slice e)) (h : Leaf P w B (n + 1) t cs) : ∃ (a : Option Addr) (l c : Nat), cs = [.slice a l c] ∧ l ≤ c ∧ c ≤ 9223372036854775807 ∧ c * P.bytesOf e ≤ B ∧ (a = none → c = 0) ∧
        ∀ i, i < l → ∃ ad, a = some ad ∧ ∃ cs', cs'.length = P.cellsOf e ∧ (∀ j v, cs'[j]? = some v → w.cell? (Addr.add (Addr.add ad (i * P.cellsOf e)) j) = some v) ∧ Leaf P w B n e cs' := by
  unfold Leaf at h; rw [ht] at h; exact h
/-- A field of one cell. -/
theorem field1 {fs : Array Field} {f : Field} (h : ∀ (i : Nat) (f : Field), fs[i]? = some f → Leaf P w B n f.type ((cs.drop f.offset).take (P.cellsOf f.type))) (i : Nat) (hf : fs[i]? = some f) {o : Nat} (ho : f.offset = o) {u : TypeId} (hu : f.type = u) {k : Nat} (hk : P.cellsOf u = k) : Leaf P w B n u ((cs.drop o).take k) := by
  subst ho; subst hu; subst hk; exact h i f hf
end
theorem row_arg {H : Type} {enc : TypeId × Value → H} {P : Program} {w : World} {v : Value} {d : DataW H} {p : List MemPlace} {base : Nat} {r : Reach} {b0 : Nat} {t e : TypeId} {α : Type} [Inhabited α] {L : Lay α} (Q : α → Prop) {B : Nat} (n : Nat) (ht : P.underlying t = some (.slice e))
    (hs : L.s = P.cellsOf e) (hv : Value.okWide P w r b0 t v) (h : DataW.Trod enc P w base (fun _ => true) true t v d p) (hz : ∀ n ∈ d.weights P t, n ≤ B) (hx : ∀ cs, cs.length = L.s → Leaf P w B n e cs → ∃ x, L.cs x = cs ∧ Q x) :
    ∃ a l c xs, v = .slice a l c ∧ ArgRow L w a l c xs ∧ (∀ x ∈ xs, Q x) ∧ c * P.bytesOf e ≤ B ∧ (a = none → c = 0) := by
  obtain ⟨a, l, c, rfl⟩ := okWide_slice ht hv
  obtain ⟨fuel, hf⟩ := h
  obtain ⟨a', l', c', hcs, h1, h2, h3, h3', h4⟩ := leaf_slice ht (leaf_of (n + 1) hf hz)
  simp only [Value.cells, List.cons.injEq, and_true] at hcs
  injection hcs with e1 e2 e3
  subst e1; subst e2; subst e3
  obtain ⟨xs, h5, h6⟩ := leaf_row Q hs hx h1 h2 h4
  exact ⟨a, l, c, xs, rfl, h5, h6, h3, h3'⟩
theorem struct_arg {H : Type} {enc : TypeId × Value → H} {P : Program} {w : World} {v : Value} {d : DataW H} {p : List MemPlace} {base : Nat} {r : Reach} {b0 : Nat} {t : TypeId} {fs : Array Field} {B : Nat} (n : Nat) (ht : P.underlying t = some (.struct fs))
    (hv : Value.okWide P w r b0 t v) (h : DataW.Trod enc P w base (fun _ => true) true t v d p) (hz : ∀ n ∈ d.weights P t, n ≤ B) : ∃ cs : List Value, v = .agg ⟨cs⟩ ∧ Leaf P w B n t cs := by
  obtain ⟨cs, rfl, _⟩ := okWide_struct ht hv
  obtain ⟨fuel, hf⟩ := h
  exact ⟨cs.toList, rfl, leaf_of n hf hz⟩
theorem args_int {H : Type} {enc : TypeId × Value → H} {P : Program} {w : World} {v : Value} {d : DataW H} {p : List MemPlace} {base : Nat} {r : Reach} {b0 : Nat} {t : TypeId} {k : IntKind} (ht : P.underlying t = some (.int k))
    (hv : Value.okWide P w r b0 t v) (h : DataW.Trod enc P w base (fun _ => true) true t v d p) : ∃ a : Int, v = .int k a ∧ (Lit.int k a).wf = true := by
  obtain ⟨a, rfl⟩ := okWide_int ht hv
  obtain ⟨fuel, hf⟩ := h
  obtain ⟨n, h1, _, h2⟩ := DataW.trod_int ht hf
  simp only [Value.cells, List.cons.injEq, and_true] at h1
  injection h1 with _ h1
  subst h1
  exact ⟨_, rfl, h2⟩
theorem args_string {H : Type} {enc : TypeId × Value → H} {P : Program} {w : World} {v : Value} {d : DataW H} {p : List MemPlace} {base : Nat} {r : Reach} {b0 : Nat} {t : TypeId} (ht : P.underlying t = some .string)
    (hv : Value.okWide P w r b0 t v) (h : DataW.Trod enc P w base (fun _ => true) true t v d p) (hz : ∀ n ∈ d.weights P t, n ≤ reachBytes) : ∃ a : ByteArray, v = .string a ∧ a.size ≤ 140737488355328 := by
  obtain ⟨a, rfl⟩ := okWide_string ht hv
  obtain ⟨fuel, hf⟩ := h
  obtain ⟨s, h1, h2⟩ := leaf_string ht (leaf_of 1 hf hz)
  simp only [Value.cells, List.cons.injEq, and_true] at h1
  injection h1 with h1
  subst h1
  exact ⟨_, rfl, Nat.le_trans h2 (by decide)⟩
end Go.Proofs.YtgjdandnncjegaaGreatDoor.St
