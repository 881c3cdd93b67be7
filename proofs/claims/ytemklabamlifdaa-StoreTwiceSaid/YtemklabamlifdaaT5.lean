/- Parts of the proof of StoreTwice. -/
import Derived.Test.YtemklabamlifdaaT4
/- The walk of StoreRoom. -/
namespace Go.Proofs.Ytemklabamlifdaa
open Go Go.Proofs.Ytemklabamlifdaa.St

/-! ### The plain law -/
/-- A store that no failure was planned for; its files are apart, and fit. -/
structure Rm (n : Int) (a : AS) : Prop where
  room : a.room = n
  dark : a.dark = false
  left : a.left = 0
  apart : (a.dir.map (·.2)).Nodup
  need : (a.need : Int) ≤ n

theorem cnt0 {a : AS} (h : a.left = 0) (f : AS → AS) : a.counted f = (f a.tick, 0) := by rw [AS.counted, if_neg (by omega)]
theorem sum_perm {f : ByteArray × Nat → Nat} {D D' : List (ByteArray × Nat)} (h : D.Perm D') : (D.map f).sum = (D'.map f).sum := (h.map f).sum_nat
theorem sum_ddel (f : ByteArray × Nat → Nat) (k : ByteArray) (D : List (ByteArray × Nat)) : ((ddel k D).map f).sum ≤ (D.map f).sum := by
  induction D with
  | nil => exact Nat.le_refl _
  | cons p r ih =>
    rw [ddel] at ih ⊢
    by_cases h : p.1 = k
    · rw [List.filter_cons_of_neg (by simp [h]), List.map_cons, List.sum_cons]; omega
    · rw [List.filter_cons_of_pos (by simp [h]), List.map_cons, List.map_cons, List.sum_cons, List.sum_cons]; omega
theorem sum_ddel_get {f : ByteArray × Nat → Nat} {k : ByteArray} {D : List (ByteArray × Nat)} {i : Nat} (h : (k, i) ∈ D) : ((ddel k D).map f).sum + f (k, i) ≤ (D.map f).sum := by
  induction D with
  | nil => cases h
  | cons p r ih =>
    rw [ddel] at ih ⊢
    rcases List.mem_cons.1 h with rfl | h
    · rw [List.filter_cons_of_neg (by simp), List.map_cons, List.sum_cons]
      have := sum_ddel f k r
      rw [ddel] at this
      omega
    · have ih := ih h
      by_cases hp : p.1 = k
      · rw [List.filter_cons_of_neg (by simp [hp]), List.map_cons, List.sum_cons]; omega
      · rw [List.filter_cons_of_pos (by simp [hp]), List.map_cons, List.map_cons, List.sum_cons, List.sum_cons]; omega
theorem apart_ddel {k : ByteArray} {D : List (ByteArray × Nat)} (h : (D.map (·.2)).Nodup) : ((ddel k D).map (·.2)).Nodup := h.sublist (List.Sublist.map _ List.filter_sublist)
theorem apart_inj {D : List (ByteArray × Nat)} (h : (D.map (·.2)).Nodup) {k k' : ByteArray} {i : Nat} (h1 : (k, i) ∈ D) (h2 : (k', i) ∈ D) : k = k' := by
  induction D with
  | nil => cases h1
  | cons p r ih =>
    rw [List.map_cons, List.nodup_cons] at h
    rcases List.mem_cons.1 h1 with e1 | h1 <;> rcases List.mem_cons.1 h2 with e2 | h2
    · rw [← e1] at e2; injection e2 with e2; exact e2.symm
    · exact absurd (List.mem_map.2 ⟨_, h2, by rw [← e1]⟩) h.1
    · exact absurd (List.mem_map.2 ⟨_, h1, by rw [← e2]⟩) h.1
    · exact ih h.2 h1 h2
theorem sum_upd {g g' : Nat → Nat} {D : List (ByteArray × Nat)} (h : (D.map (·.2)).Nodup) {k : ByteArray} {i : Nat} (hi : (k, i) ∈ D) (hg : ∀ j, j ≠ i → g' j = g j) : (D.map fun p => 16 + g' p.2).sum + g i = (D.map fun p => 16 + g p.2).sum + g' i := by
  induction D with
  | nil => cases hi
  | cons p r ih =>
    rw [List.map_cons, List.nodup_cons] at h
    simp only [List.map_cons, List.sum_cons]
    rcases List.mem_cons.1 hi with rfl | hi
    · have : (r.map fun p => 16 + g' p.2) = r.map fun p => 16 + g p.2 := List.map_congr_left fun q hq => by
        rw [hg q.2 fun e => h.1 (by simp only; rw [← e]; exact List.mem_map_of_mem hq)]
      rw [this]
      simp only
      omega
    · have hne : p.2 ≠ i := fun e => h.1 (by rw [e]; exact List.mem_map.2 ⟨_, hi, rfl⟩)
      have := ih h.2 hi
      rw [hg p.2 hne]
      omega
theorem need_of {a b : AS} (hd : b.dir = a.dir) (hf : ∀ p ∈ a.dir, b.len p.2 = a.len p.2) : b.need = a.need := by
  rw [AS.need, AS.need, hd]
  congr 1
  exact List.map_congr_left fun p hp => by rw [hf p hp]

section
variable {n : Int} {a : AS}
/-- What one counted call makes of it. -/
def Step1 (n : Int) (a : AS) (r : AS × Int) : Prop := Rm n r.1 ∧ (r.2 ≠ 0 → r.1 = a) ∧ (r.2 = 0 → r.1.count = IntKind.i64.wrap (a.count + 1))
theorem Step1.same (h : Rm n a) {e : Int} (he : e ≠ 0) : Step1 n a (a, e) := ⟨h, fun _ => rfl, fun h => absurd h he⟩
theorem Step1.cnt (h : Rm n a) {f : AS → AS} (hr : Rm n (f a.tick)) (hc : (f a.tick).count = a.tick.count) : Step1 n a (a.counted f) := by
  rw [cnt0 h.left]
  exact ⟨hr, fun h => absurd rfl h, fun _ => hc⟩
theorem Rm.file_lt (hok : a.Ok) {k : ByteArray} {i : Nat} (h : dget a.dir k = some i) : i < a.all.length := hok.dirI _ (dget_some h)
theorem rm_make (h : Rm n a) (hok : a.Ok) (k : ByteArray) : Step1 n a (a.make k) := by
  rw [AS.make]
  split
  · exact Step1.same h (by decide)
  · split
    · rename_i hk
      have hdn : dget a.dir k = none := by
        unfold AS.known at hk
        split at hk
        · cases hk
        · split at hk
          · cases hk
          · split at hk
            · assumption
            · cases hk
      split
      · exact Step1.same h (by decide)
      · rename_i hr
        refine Step1.cnt h ⟨h.room, h.dark, h.left, ?_, ?_⟩ rfl
        · have hp : ((dset k a.all.length a.dir).map (·.2)).Perm (a.all.length :: (ddel k a.dir).map (·.2)) := (dset_perm k a.all.length a.dir).map (·.2)
          refine hp.nodup_iff.2 (List.nodup_cons.2 ⟨fun hm => ?_, apart_ddel h.apart⟩)
          obtain ⟨p, hp, e⟩ := List.mem_map.1 hm
          have := hok.dirI p (mem_ddel.1 hp).1
          omega
        · have hlen : ∀ i, i ≤ a.all.length → ((({ a.tick with all := a.tick.all ++ [([], [])], dir := dset k a.tick.all.length a.tick.dir } : AS)).len i) = if i = a.all.length then 0 else a.len i := by
            intro i hi
            show (((a.all ++ [([], [])])[i]?).getD ([], [])).1.length = _
            split
            · rename_i e; subst e; simp
            · rw [List.getElem?_append_left (by omega)]; rfl
          show ((((dset k a.all.length a.dir).map fun p => 16 + (({ a.tick with all := a.tick.all ++ [([], [])], dir := dset k a.tick.all.length a.tick.dir } : AS)).len p.2).sum : Nat) : Int) ≤ n
          rw [sum_perm (dset_perm k a.all.length a.dir), List.map_cons, List.sum_cons, hlen _ (Nat.le_refl _), if_pos rfl]
          have he : ((ddel k a.dir).map fun p => 16 + (({ a.tick with all := a.tick.all ++ [([], [])], dir := dset k a.tick.all.length a.tick.dir } : AS)).len p.2) = (ddel k a.dir).map fun p => 16 + a.len p.2 := List.map_congr_left fun p hp => by
            have := hok.dirI p (mem_ddel.1 hp).1
            rw [hlen p.2 (by omega), if_neg (by omega)]
          rw [he]
          have h1 := sum_ddel (fun p => 16 + a.len p.2) k a.dir
          have h2 := h.need
          have h3 := h.room
          rw [AS.need] at h2 hr
          omega
    · rename_i hk _
      exact Step1.same h hk
theorem rm_write (h : Rm n a) (hok : a.Ok) (k : ByteArray) (b : Bs) : Step1 n a (a.write k b) := by
  rw [AS.write]
  split
  · rename_i hk
    obtain ⟨_, _, i, hi, hidx⟩ := AS.known0 hk
    split
    · exact Step1.same h (by decide)
    · rename_i hr
      refine Step1.cnt h ⟨h.room, h.dark, h.left, h.apart, ?_⟩ rfl
      have e0 : a.tick.idx k = i := hidx
      have hlt : i < a.all.length := Rm.file_lt hok hi
      have hl : ∀ j, ((a.tick.upd (a.tick.idx k) fun x => (x.1 ++ b, x.2)).len j) = if i = j then a.len j + b.length else a.len j := by
        intro j
        rw [e0]
        show ((a.tick.upd i fun x => (x.1 ++ b, x.2)).file j).1.length = _
        rw [AS.file_upd (a := a.tick) hlt]
        split
        · rw [List.length_append]; rfl
        · rfl
      have := sum_upd h.apart (dget_some hi) (g := a.len) (g' := fun j => (a.tick.upd (a.tick.idx k) fun x => (x.1 ++ b, x.2)).len j) (fun j hj => by rw [hl, if_neg fun e => hj e.symm])
      simp only [hl i, if_true] at this
      have h2 := h.need
      have h3 := h.room
      rw [AS.need] at h2 hr
      show (((a.dir.map fun p => 16 + (a.tick.upd (a.tick.idx k) fun x => (x.1 ++ b, x.2)).len p.2).sum : Nat) : Int) ≤ n
      omega
  · rename_i hk
    exact Step1.same h hk
theorem rm_cut (h : Rm n a) (hok : a.Ok) (k : ByteArray) (m : Int) : Step1 n a (a.cut k m) := by
  rw [AS.cut]
  split
  · rename_i hk
    obtain ⟨_, _, i, hi, hidx⟩ := AS.known0 hk
    split
    · exact Step1.same h (by decide)
    · refine Step1.cnt h ⟨h.room, h.dark, h.left, h.apart, ?_⟩ rfl
      have e0 : a.tick.idx k = i := hidx
      have hlt : i < a.all.length := Rm.file_lt hok hi
      have hl : ∀ j, ((a.tick.upd (a.tick.idx k) fun x => (x.1.take m.toNat, x.2)).len j) = if i = j then min m.toNat (a.len j) else a.len j := by
        intro j
        rw [e0]
        show ((a.tick.upd i fun x => (x.1.take m.toNat, x.2)).file j).1.length = _
        rw [AS.file_upd (a := a.tick) hlt]
        split
        · rw [List.length_take]; rfl
        · rfl
      have := sum_upd h.apart (dget_some hi) (g := a.len) (g' := fun j => (a.tick.upd (a.tick.idx k) fun x => (x.1.take m.toNat, x.2)).len j) (fun j hj => by rw [hl, if_neg fun e => hj e.symm])
      simp only [hl i, if_true] at this
      have h2 := h.need
      rw [AS.need] at h2
      show (((a.dir.map fun p => 16 + (a.tick.upd (a.tick.idx k) fun x => (x.1.take m.toNat, x.2)).len p.2).sum : Nat) : Int) ≤ n
      omega
  · rename_i hk
    exact Step1.same h hk
theorem rm_sync (h : Rm n a) (hok : a.Ok) (k : ByteArray) : Step1 n a (a.sync k) := by
  rw [AS.sync]
  split
  · rename_i hk
    obtain ⟨_, _, i, hi, hidx⟩ := AS.known0 hk
    refine Step1.cnt h ⟨h.room, h.dark, h.left, h.apart, ?_⟩ rfl
    have e0 : a.tick.idx k = i := hidx
    have hlt : i < a.all.length := Rm.file_lt hok hi
    rw [need_of (a := a) (b := a.tick.upd (a.tick.idx k) fun x => (x.1, x.1)) rfl fun p _ => ?_]
    · exact h.need
    · rw [e0]
      show ((a.tick.upd i fun x => (x.1, x.1)).file p.2).1.length = _
      rw [AS.file_upd (a := a.tick) hlt]
      split <;> rfl
  · rename_i hk
    exact Step1.same h hk
theorem rm_drop (h : Rm n a) (k : ByteArray) : Step1 n a (a.drop k) := by
  rw [AS.drop]
  split
  · refine Step1.cnt h ⟨h.room, h.dark, h.left, apart_ddel h.apart, ?_⟩ rfl
    have h1 := sum_ddel (fun p => 16 + a.len p.2) k a.dir
    have h2 := h.need
    rw [AS.need] at h2
    show (((ddel k a.dir).map fun p => 16 + a.len p.2).sum : Int) ≤ n
    omega
  · rename_i hk
    exact Step1.same h hk
theorem rm_move (h : Rm n a) (k to : ByteArray) : Step1 n a (a.move k to) := by
  rw [AS.move]
  split
  · exact Step1.same h (by decide)
  · split
    · exact Step1.same h (by decide)
    · split
      · exact Step1.same h (by decide)
      · rename_i hk
        obtain ⟨i, hi⟩ : ∃ i, dget a.dir k = some i := by
          cases hg : dget a.dir k with
          | none => exact absurd hg hk
          | some i => exact ⟨i, rfl⟩
        have hm := dget_some hi
        refine Step1.cnt h ⟨h.room, h.dark, h.left, ?_, ?_⟩ rfl
        · show ((dset to (a.idx k) (ddel k a.dir)).map (·.2)).Nodup
          rw [AS.idx, hi]
          have hp : ((dset to i (ddel k a.dir)).map (·.2)).Perm (i :: (ddel to (ddel k a.dir)).map (·.2)) := (dset_perm to i (ddel k a.dir)).map (·.2)
          refine hp.nodup_iff.2 (List.nodup_cons.2 ⟨fun hx => ?_, apart_ddel (apart_ddel h.apart)⟩)
          obtain ⟨p, hp, e⟩ := List.mem_map.1 hx
          have hp1 := (mem_ddel.1 (mem_ddel.1 hp).1)
          have : (p.1, i) ∈ a.dir := by rw [← e]; exact hp1.1
          exact hp1.2 (apart_inj h.apart this hm)
        · show (((dset to (a.idx k) (ddel k a.dir)).map fun p => 16 + a.len p.2).sum : Int) ≤ n
          rw [AS.idx, hi, sum_perm (dset_perm to _ (ddel k a.dir)), List.map_cons, List.sum_cons]
          have h1 := sum_ddel (fun p => 16 + a.len p.2) to (ddel k a.dir)
          have h2 := sum_ddel_get (f := fun p => 16 + a.len p.2) hm
          have h3 := h.need
          rw [AS.need] at h3
          simp only [Option.getD_some] at h2 ⊢
          omega
theorem rm_commit (h : Rm n a) : Step1 n a a.commit := by
  rw [AS.commit]
  split
  · exact Step1.same h (by decide)
  · exact Step1.cnt h ⟨h.room, h.dark, h.left, h.apart, h.need⟩ rfl

theorem drop_first (h : Rm n a) (hok : a.Ok) {p : ByteArray × Nat} {r : List (ByteArray × Nat)} (hd : a.dir = p :: r) : a.drop p.1 = ({ a.tick with dir := r }, 0) := by
  have hr := hok.dirS
  rw [hd, Rises, List.map_cons, List.pairwise_cons] at hr
  have hg : goodB p.1 = true := hok.dirG p (by rw [hd]; simp)
  have hk : a.known p.1 = 0 := by
    have : dget a.dir p.1 = some p.2 := by rw [hd]; simp [dget]
    exact (AS.known_of h.dark hg this).1
  rw [AS.drop, if_pos hk, cnt0 h.left]
  have : ddel p.1 a.dir = r := by
    rw [hd, ddel, List.filter_cons_of_neg (by simp), List.filter_eq_self]
    intro q hq
    have := hr.1 q.1 (List.mem_map_of_mem hq)
    simp only [Bool.not_eq_true', beq_eq_false_iff_ne]
    intro e
    rw [e] at this
    exact str_irr _ this
  show ({ a.tick with dir := ddel p.1 a.dir }, (0 : Int)) = _
  rw [this]
end

/-! ### The walk -/
theorem els_lt {α : Type} {val : α → Value} {e : TypeId} {w : World} {a : Option Addr} {l c : Nat} {xs : List α} (h : Els val e w a l c xs) {k : Nat} (hk : rowB a k) : k < w.heap.size := by
  rcases h.2 with ⟨hv, _⟩ | ⟨g, cap, cur, hv, _, hg, _⟩
  · injection hv with h1; subst h1; simp [rowB] at hk
  · injection hv with h1; subst h1; simp [rowB] at hk; subst hk; exact lt_of_heap hg

theorem room_walk (room : Int) (aa : Option Addr) (al ac : Nat) (xs : List ActS) (w : World) (hr0 : 0 ≤ room) (hx : Acts w aa al ac xs) (R : Value → World → Prop) (hR : ∀ w', Mod no w w' → R (.bool true) w') :
    Ca Try.prog 6 #[.int .u64 room, .slice aa al ac] w R := by
  refine ca6 room aa al ac w R ?_
  have hxl := hx.row.len
  have hxm := hx.row.cm
  have hxc := hx.row.lc
  obtain ⟨n, hn, hrn⟩ : ∃ n : Int, (0 ≤ n ∧ n < 200) ∧ IntKind.i64.wrap (Int.tmod room 200) = n := by
    refine ⟨room % 200, by omega, ?_⟩
    rw [Int.tmod_eq_emod_of_nonneg hr0]
    exact wrap64 (by omega) (by omega)
  unfold W6
  rw [hrn]
  refine ⟨by decide, ?_⟩
  refine new_ok n w _ (fun h => by omega) fun _ _ w1 s h1 m1 => ⟨_, rfl, (ifK_of (fun h => by cases h) (fun _ => ?_) : ifK false _ _)⟩
  obtain ⟨F, h1⟩ := SB.new h1 m1
  have r1 : Rm n (AS.new n) := ⟨rfl, rfl, rfl, List.Pairwise.nil, by show (0 : Int) ≤ n; omega⟩
  refine light_ok aa al ac xs w1 (hx.no m1) _ fun w7 b m7 hb => ⟨b, rfl, ?_⟩
  have h7 := h1.no m7
  cases b with
  | false =>
    refine (ifK_of (fun _ => ?_) (fun h => by cases h) : ifK true _ _)
    refine (ifK_of (fun _ => ?_) (fun h => by cases h) : ifK true _ _)
    exact lives_ok w7 _ fun w10 m10 => ⟨_, rfl, hR w10 (h7.mod.trans m10)⟩
  | true =>
  have hb := (hb rfl).1
  refine (ifK_of (fun h => by cases h) (fun _ => ?_) : ifK false _ _)
  refine ⟨fun x w' => ∃ (i : Nat) (F : Nat → Prop) (a : AS), x = i ∧ i ≤ al ∧ SB w w' s F a ∧ Rm n a, fun x _ => ((al : Int) - x).toNat, ⟨0, F, _, rfl, Nat.zero_le _, h7, r1⟩, ?_⟩
  rintro _ _ w16 ⟨i, F, a, rfl, hi, h16, r16⟩
  have e1 : i < al → IntKind.i64.wrap ((i : Int) + 1) = ((i + 1 : Nat) : Int) := fun h => by rw [wrap64 (by omega) (by omega)]; rfl
  refine ifK_dec (fun hlt => ?_) (fun hge => ?_)
  · have hil : i < xs.length := by omega
    rw [e1 (by omega)]
    clear e1
    have next : ∀ {w' : World} {F : Nat → Prop} {a : AS}, SB w w' s F a → Rm n a → (∃ (i' : Nat) (F : Nat → Prop) (a : AS), ((i + 1 : Nat) : Int) = i' ∧ i' ≤ al ∧ SB w w' s F a ∧ Rm n a) ∧ ((al : Int) - ((i + 1 : Nat) : Int)).toNat < ((al : Int) - (i : Int)).toNat :=
      fun h r => ⟨⟨i + 1, _, _, rfl, by omega, h, r⟩, by omega⟩
    have hok := hx.ok xs[i] (List.getElem_mem hil)
    refine copyAct (hx.no h16.mod) i rfl hil fun w38 b38 m38 => ?_
    have h38 := h16.no m38
    generalize xs[i] = x at hok b38
    have hb38 : w38.heap[w16.heap.size]? = some (.cells #[.int .i64 x.kind, .string x.a, .string x.b, .slice x.da x.dl x.dc, .int .i64 x.n, .int .i64 x.m] 48 (0, 0)) := b38
    clear b38
    refine ⟨x.kind, by rw [cl1 hb38]; rfl, ifK_dec (fun _ => next h38 r16) (fun hk0 => ⟨x.kind, by rw [cl1 hb38]; rfl, ifK_dec (fun _ => next h38 r16) (fun hk6 => ?_)⟩)⟩
    refine used_ok h38.st _ fun w42 m42 => ⟨_, rfl, ?_⟩
    have h42 := h38.no m42
    refine count_ok h42.st _ ⟨_, rfl, ?_⟩
    refine names_ok h42.st _ fun w48 p49 n50 n51 hp m48 hpn => ⟨p49, n50, n51, rfl, ?_⟩
    have h48 := h42.no m48
    have b48 := m48.at' (m42.at' hb38)
    have hpF : ∀ k, rowB p49 k → ¬ F k := fun k hk hf => by
      have := h42.hi k hf
      have := hpn k hk
      omega
    have na : x.a.size < 4611686018427387904 := by have := hok.na; omega
    have nb : x.b.size < 4611686018427387904 := by have := hok.nb; omega
    refine ⟨fun e w' => ∃ (F' : Nat → Prop) (a' : AS), SB w w' s F' a' ∧ Step1 n a (a', e) ∧ Strs w' p49 n50 n51 a.names, ?_, ?_⟩
    · have fin : ∀ {r : AS × Int} {w' : World}, StP s F w48 r.1 w' → Step1 n a r → ∃ (F' : Nat → Prop) (a' : AS), SB w w' s F' a' ∧ Step1 n a (a', r.2) ∧ Strs w' p49 n50 n51 a.names := by
        intro r w' hp' hs
        obtain ⟨F', q1, _, q3⟩ := h48.step hp'
        exact ⟨F', r.1, q1, hs, row_mod hp q3 hpF⟩
      refine ⟨x.kind, by rw [cl1 b48]; rfl, ?_⟩
      refine ifK_eq (fun _ => ?_) (fun k0 => ?_)
      · exact ⟨_, by rw [cl1 b48]; rfl, make_ok h48.st _ na _ fun w' hp' => ⟨_, rfl, fin hp' (rm_make r16 h48.st.ok _)⟩⟩
      refine ifK_eq (fun _ => ?_) (fun k1 => ?_)
      · refine ⟨_, by rw [cl1 b48]; rfl, _, _, _, by rw [cl1 b48]; rfl, write_ok h48.st _ na (hok.rd.no h48.mod) (fun h0 k hk hf => ?_) _ fun w' hp' => ⟨_, rfl, fin hp' (rm_write r16 h48.st.ok _ _)⟩⟩
        have := h48.lo k hf
        have := hok.rd.lt h0 k hk
        omega
      refine ifK_eq (fun _ => ?_) (fun k2 => ?_)
      · exact ⟨_, by rw [cl1 b48]; rfl, _, by rw [cl1 b48]; rfl, cut_ok h48.st _ na _ _ fun w' hp' => ⟨_, rfl, fin hp' (rm_cut r16 h48.st.ok _ _)⟩⟩
      refine ifK_eq (fun _ => ?_) (fun k3 => ?_)
      · exact ⟨_, by rw [cl1 b48]; rfl, sync_ok h48.st _ na _ fun w' hp' => ⟨_, rfl, fin hp' (rm_sync r16 h48.st.ok _)⟩⟩
      refine ifK_eq (fun _ => ?_) (fun k4 => ?_)
      · exact ⟨_, by rw [cl1 b48]; rfl, _, by rw [cl1 b48]; rfl, move_ok h48.st _ _ na nb _ fun w' hp' => ⟨_, rfl, fin hp' (rm_move r16 _ _)⟩⟩
      refine ifK_eq (fun _ => ?_) (fun k5 => ?_)
      · exact ⟨_, by rw [cl1 b48]; rfl, drop_ok h48.st _ na _ fun w' hp' => ⟨_, rfl, fin hp' (rm_drop r16 _)⟩⟩
      refine ifK_eq (fun _ => ?_) (fun k6 => ?_)
      · exact commit_ok h48.st _ fun w' hp' => ⟨_, rfl, fin hp' (rm_commit r16)⟩
      · exfalso
        omega
    · rintro _ e w88 ⟨F', a', h88, ⟨ra, hne, heq⟩, hs88⟩
      simp only at ra hne heq
      have hnl := hs88.len.1
      have hnl2 : n50 < 4611686018427387904 := by
        have h1 : a.names.length ≤ a.dir.length := by
          rw [AS.names, r16.dark]
          simp
        have h2 := h16.st.ok.dirN
        omega
      refine used_ok h88.st _ fun w90 m90 => ⟨_, rfl, ?_⟩
      have h90 := h88.no m90
      have hs90 := hs88.no m90
      have hu : a'.used = a'.need := by rw [AS.used, ra.dark]; rfl
      refine ifK_dec (fun hbig => ?_) (fun _ => ?_)
      · exfalso
        have := ra.need
        omega
      have fin : e = 0 → ∀ w', SB w w' s F' a' → Ca Try.prog 29 #[.pointer (some ⟨s, 0, none⟩)] w' fun v w' => ∃ z, v = .int .i64 z ∧ ifK (z != IntKind.i64.wrap (a.count + 1)) (R (.bool false) w') ((∃ (i' : Nat) (F : Nat → Prop) (a : AS), ((i + 1 : Nat) : Int) = i' ∧ i' ≤ al ∧ SB w w' s F a ∧ Rm n a) ∧ ((al : Int) - ((i + 1 : Nat) : Int)).toNat < ((al : Int) - (i : Int)).toNat) := by
        intro he w' hw'
        refine count_ok hw'.st _ ⟨_, rfl, ?_⟩
        rw [heq he]
        refine ifNe (fun h => absurd rfl h) (fun _ => next hw' ra)
      refine ifNe (fun hen => ?_) (fun he => ?_)
      · have ea := hne hen
        subst ea
        refine used_ok h90.st _ fun w93 m93 => ⟨_, rfl, ifNe (fun h => absurd rfl h) (fun _ => ?_)⟩
        have h93 := h90.no m93
        refine count_ok h93.st _ ⟨_, rfl, ifNe (fun h => absurd rfl h) (fun _ => ?_)⟩
        refine names_ok h93.st _ fun w99 p l c hq m99 _ => ⟨p, l, c, rfl, ?_⟩
        have hs99 := (hs90.no m93).no m99
        have hql := hq.len.1
        refine texts_ok hq hs99 (by omega) _ fun w100 m100 => ⟨_, rfl, ?_⟩
        rw [decide_eq_true rfl]
        refine (ifK_of (fun h => by cases h) (fun _ => ?_) : ifK false _ _)
        refine ifK_eq (fun h => absurd h hen) (fun _ => ?_)
        exact next ((h93.no m99).no m100) ra
      · subst he
        refine (ifK_of (fun _ => ?_) (fun h => by cases h) : ifK true _ _)
        exact fin rfl w90 h90
  · refine names_ok h16.st _ fun w253 p l c hq m253 hqn => ⟨p, l, c, rfl, ?_⟩
    have h253 := h16.no m253
    have hnm : a.names = a.dir.map (·.1) := by rw [AS.names, r16.dark]; rfl
    rw [hnm] at hq
    have hql := hq.len.1
    rw [List.length_map] at hql
    have hdn := h16.st.ok.dirN
    have hqF : ∀ k, rowB p k → ¬ F k := fun k hk hf => by
      have := h16.hi k hf
      have := hqn k hk
      omega
    refine ⟨fun x w' => ∃ (i : Nat) (F' : Nat → Prop) (b : AS), x = i ∧ i ≤ l ∧ SB w w' s F' b ∧ Rm n b ∧ b.dir = a.dir.drop i ∧ Strs w' p l c (a.dir.map (·.1)) ∧ ∀ k, rowB p k → ¬ F' k, fun x _ => ((l : Int) - x).toNat, ⟨0, F, a, rfl, Nat.zero_le _, h253, r16, rfl, hq, hqF⟩, ?_⟩
    rintro _ _ w261 ⟨j, F', b, rfl, hj, h261, r261, hd, hq', hqF'⟩
    have e1 : j < l → IntKind.i64.wrap ((j : Int) + 1) = ((j + 1 : Nat) : Int) := fun h => by rw [wrap64 (by omega) (by omega)]; rfl
    refine ifK_dec (fun hlt => ?_) (fun hge => ?_)
    · have hjl : j < a.dir.length := by omega
      rw [e1 (by omega)]
      clear e1
      obtain ⟨q1, q2⟩ := hq'.all (fun _ => rfl)
      cases p with
      | none => have := q2 rfl; omega
      | some ad =>
        refine ⟨ad, rfl, by omega, hlt, (a.dir[j]).1, by rw [Int.toNat_natCast]; exact q1 ad rfl _ _ (by rw [Nat.mul_one]; simp [hjl]), ?_⟩
        have hg : goodB (a.dir[j]).1 = true := h16.st.ok.dirG _ (List.getElem_mem hjl)
        have hsz : (a.dir[j]).1.size < 4611686018427387904 := by
          rw [goodB, Bool.and_eq_true, Bool.and_eq_true] at hg
          have := of_decide_eq_true hg.2.2
          omega
        have hd' : b.dir = a.dir[j] :: a.dir.drop (j + 1) := by rw [hd, List.drop_eq_getElem_cons hjl]
        have hdr := drop_first r261 h261.st.ok hd'
        have hst := rm_drop r261 (a.dir[j]).1
        refine drop_ok h261.st _ hsz _ fun w265 hp => ?_
        rw [hdr] at hp hst ⊢
        obtain ⟨F2, h265, hF2, m265⟩ := h261.step hp
        refine ⟨0, rfl, (ifK_of (fun h => by cases h) (fun _ => ?_) : ifK false _ _)⟩
        refine ⟨⟨j + 1, F2, _, rfl, by omega, h265, hst.1, rfl, row_mod hq' m265 hqF', fun k hk hf => ?_⟩, by simp only; omega⟩
        rcases hF2 k hf with h | h
        · exact hqF' k hk h
        · have := els_lt hq' hk
          omega
    · have hjl : j = a.dir.length := by omega
      have hd0 : b.dir = [] := by rw [hd, hjl, List.drop_length]
      have hu : b.used = 0 := by
        have : b.need = 0 := by rw [AS.need, hd0]; rfl
        rw [AS.used, r261.dark, this]; rfl
      refine used_ok h261.st _ fun w268 m268 => ⟨_, rfl, ?_⟩
      rw [hu]
      refine (ifK_of (fun _ => ?_) (fun h => by cases h) : ifK true _ _)
      exact lives_ok w268 _ fun w271 m271 => ⟨_, rfl, hR w271 ((h261.mod.trans m268).trans m271)⟩
end Go.Proofs.Ytemklabamlifdaa

/- The walks of StoreActs and StoreTwice. -/
namespace Go.Proofs.Ytemklabamlifdaa
open Go Go.Proofs.Ytemklabamlifdaa.St

theorem TB.new {w w1 w4 : World} {s r : Nat} {F : Nat → Prop} {b : AS} (h : SB w w1 s F b) (hr : Rt w4 r (fun k => w1.heap.size ≤ k ∧ k < w4.heap.size) b) (hm : Mod St.no w1 w4) : TB w w4 s r F (fun k => w1.heap.size ≤ k ∧ k < w4.heap.size) b b :=
  ⟨h.no hm, hr, fun k hk => Nat.le_trans h.mod.size hk.1, fun k hk => hk.2, fun k hf hk => by have := h.hi k hf; omega⟩

set_option maxRecDepth 100000 in
theorem acts_walk (room : Int) (aa : Option Addr) (al ac : Nat) (xs : List ActS) (w : World) (hx : Acts w aa al ac xs) (R : Value → World → Prop) (hR : ∀ w', Mod no w w' → R (.bool true) w') : Ca Try.prog 8 #[.int .i64 room, .slice aa al ac] w R := by
  refine ca8 room aa al ac w R ?_
  have hxl := hx.row.len
  have hxc := hx.row.lc
  have hxm := hx.row.cm
  have lives : ∀ w', Mod no w w' → Ca Try.prog 12 #[] w' fun v w'' => ∃ b, v = .bool b ∧ R (.bool b) w'' := fun w' m => lives_ok w' _ fun w'' m' => ⟨_, rfl, hR w'' (m.trans m')⟩
  refine new_ok room w _ (fun hbad => ?_) fun h0 h1 w1 s hs m1 => ?_
  · refine ⟨_, rfl, newR_ok room w _ (fun _ => ⟨_, rfl, ?_⟩) fun h0 h1 => by omega⟩
    refine (ifK_of (fun h => by cases h) (fun _ => ?_) : ifK false _ _)
    refine (ifK_of (fun _ => ?_) (fun h => by cases h) : ifK true _ _)
    exact lives w (Mod.refl _ _)
  obtain ⟨F, hs⟩ := SB.new hs m1
  refine ⟨_, rfl, newR_ok room w1 _ (fun hbad => by omega) fun _ _ w4 r hr m4 => ⟨_, rfl, ?_⟩⟩
  have t4 := TB.new hs hr m4
  refine (ifK_of (fun h => by cases h) (fun _ => ?_) : ifK false _ _)
  refine (ifK_of (fun h => by cases h) (fun _ => ?_) : ifK false _ _)
  refine light_ok aa al ac xs w4 (hx.no t4.sb.mod) _ fun w10 b m10 hb => ⟨b, rfl, ?_⟩
  have t10 := t4.no m10
  cases b with
  | false =>
    refine (ifK_of (fun _ => ?_) (fun h => by cases h) : ifK true _ _)
    exact lives w10 t10.sb.mod
  | true =>
  obtain ⟨hl, hdl⟩ := hb rfl
  refine (ifK_of (fun h => by cases h) (fun _ => ?_) : ifK false _ _)
  refine ⟨fun y w' => ∃ (i : Nat) (F G : Nat → Prop) (a : AS), y = i ∧ i ≤ al ∧ TB w w' s r F G a a ∧ Lim i a, fun y _ => ((al : Int) - y).toNat, ⟨0, F, _, _, rfl, Nat.zero_le _, t10, ⟨Nat.le_refl _, by show (0 : Int) ≤ 9223372036854775807; decide⟩⟩, ?_⟩
  rintro _ _ w19 ⟨i, F, G, a, rfl, hi, t19, lim⟩
  refine ifK_dec (fun hlt => ?_) (fun hge => lives w19 t19.sb.mod)
  have hil : i < xs.length := by omega
  have hok := hx.ok xs[i] (List.getElem_mem hil)
  have hdl := hdl xs[i] (List.getElem_mem hil)
  have e1 : IntKind.i64.wrap ((i : Int) + 1) = ((i + 1 : Nat) : Int) := by rw [wrap64 (by omega) (by omega)]; rfl
  rw [e1]
  clear e1
  refine copyAct (hx.no t19.sb.mod) i rfl hil fun w41 b41 m41 => ?_
  intro w42 e42
  have m42 : Mod no w19 w42 := by subst e42; exact m41.trans (Mod.drew _)
  have b42 : w42.heap[w19.heap.size]? = some (.cells (actL.cs xs[i]).toArray 48 (0, 0)) := by subst e42; exact b41
  clear e42 b41 m41
  generalize xs[i] = x at hok hdl b42
  have b : w42.heap[w19.heap.size]? = some (.cells #[.int .i64 x.kind, .string x.a, .string x.b, .slice x.da x.dl x.dc, .int .i64 x.n, .int .i64 x.m] 48 (0, 0)) := b42
  clear b42
  refine ⟨_, by rw [cl1 b]; rfl, _, by rw [cl1 b]; rfl, _, by rw [cl1 b]; rfl, _, _, _, by rw [cl1 b]; rfl, _, by rw [cl1 b]; rfl, _, by rw [cl1 b]; rfl, ?_⟩
  refine act_ok (t19.no m42) lim (by omega) hok hdl _ fun w52 F G a t52 lim' => ⟨_, rfl, (ifK_of (fun h => by cases h) (fun _ => ?_) : ifK false _ _)⟩
  have hdn := t52.sb.st.ok.dirN
  have hnl : a.names.length ≤ 67108864 := by
    rw [AS.names]
    split
    · simp
    · rw [List.length_map]; exact hdn
  refine names_ok t52.sb.st _ fun w55 p l c hp m55 _ => ⟨p, l, c, rfl, ?_⟩
  have t55 := t52.no m55
  obtain ⟨x', hx'⟩ := t55.rt
  refine namesR_ok hx' t52.sb.st.ok _ fun w60 q l2 c2 hq m60 _ => ⟨q, l2, c2, rfl, ?_⟩
  have hpl := hp.len.1
  refine texts_ok (hp.no m60) hq (by omega) _ fun w65 m65 => ⟨_, rfl, ?_⟩
  rw [decide_eq_true rfl]
  refine (ifK_of (fun h => by cases h) (fun _ => ?_) : ifK false _ _)
  have t65 := (t55.no m60).no m65
  refine used_ok t65.sb.st _ fun w68 m68 => ⟨_, rfl, ?_⟩
  have t68 := t65.no m68
  have hx68 := ((hx'.no m60).no m65).no m68
  refine usedR_ok hx68 t52.sb.st.ok _ fun w71 m71 => ⟨_, rfl, ifNe (fun h => absurd rfl h) (fun _ => ?_)⟩
  have t71 := t68.no m71
  have hx71 := hx68.no m71
  refine ⟨a.count, by rw [cl1 hx71.cell]; rfl, ?_⟩
  refine count_ok t71.sb.st _ ⟨_, rfl, by rw [cl2 hx71.cell]; rfl, ifNe (fun h => absurd rfl h) (fun _ => ?_)⟩
  refine ⟨a.dark, by rw [cl1 hx71.cell]; rfl, ?_⟩
  refine on2_ok t71.sb.st _ ⟨_, rfl, by rw [cl2 hx71.cell]; rfl, ?_⟩
  have hne : ((!a.dark) == a.dark) = false := by cases a.dark <;> rfl
  rw [hne]
  refine (ifK_of (fun h => by cases h) (fun _ => ?_) : ifK false _ _)
  exact ⟨⟨i + 1, F, G, a, rfl, by omega, t71, lim'⟩, by simp only; omega⟩

/-! ### StoreTwice -/
theorem twice (a : AS) (k k' : Int) (h : a.dark = false) : (((a.fail k).power).fail k').power = (a.fail k).power := by
  have h1 : (a.fail k) = { a with dark := true, dir := a.sure, all := a.all.map (failF k) } := by rw [AS.fail, if_neg (by rw [h]; simp)]
  rw [h1]
  show (({ a with dark := false, dir := a.sure, all := a.all.map (failF k), left := 0 } : AS).fail k').power = _
  rw [AS.fail, if_neg (by simp)]
  have h2 : (a.all.map (failF k)).map (failF k') = a.all.map (failF k) := by
    rw [List.map_map]
    apply List.map_congr_left
    intro f _
    have : ∀ g : Bs × Bs, failF k' (failF k g) = failF k g := fun g => by
      have hs : ∃ z, failF k g = (z, z) := by
        unfold failF
        split
        · exact ⟨_, rfl⟩
        · exact ⟨_, rfl⟩
      obtain ⟨z, hz⟩ := hs
      rw [hz, failF, if_pos ⟨Nat.le_refl _, by simp⟩]
      simp
    exact this f
  simp only [AS.power, h2]

structure Sl where
  p : Option Addr
  l : Nat
  c : Nat
def slV (x : Sl) : Value := .slice x.p x.l x.c
theorem slOne : ∀ x, (slV x).oneCell' = true := fun _ => rfl
theorem slLaid : laidOk Try.prog 55 24 1 = true := by kernel_rfl

theorem name_known {a : AS} (hok : a.Ok) (hd : a.dark = false) {i : Nat} (hi : i < a.dir.length) : a.known a.dir[i].1 = 0 := by
  have hm : (a.dir[i].1, a.dir[i].2) ∈ a.dir := List.getElem_mem hi
  exact (AS.known_of hd (hok.dirG _ hm) (dget_mem hok.dirS.nodup hm)).1

set_option maxRecDepth 100000 in
theorem twice_walk (aa : Option Addr) (al ac : Nat) (xs : List ActS) (ka kb : Int) (w : World) (hx : Acts w aa al ac xs) (R : Value → World → Prop) (hR : ∀ w', Mod no w w' → R (.bool true) w') : Ca Try.prog 7 #[.slice aa al ac, .int .i64 ka, .int .i64 kb] w R := by
  refine ca7 aa al ac ka kb w R ?_
  have hxl := hx.row.len
  have hxc := hx.row.lc
  have hxm := hx.row.cm
  have lives : ∀ w', Mod no w w' → Ca Try.prog 12 #[] w' fun v w'' => ∃ b, v = .bool b ∧ R (.bool b) w'' := fun w' m => lives_ok w' _ fun w'' m' => ⟨_, rfl, hR w'' (m.trans m')⟩
  refine new_ok 10000 w _ (fun h => by rcases h with h | h <;> exact absurd h (by decide)) fun h0 h1 w1 s hs m1 => ?_
  obtain ⟨F, hs⟩ := SB.new hs m1
  refine ⟨_, rfl, newR_ok 10000 w1 _ (fun h => by rcases h with h | h <;> exact absurd h (by decide)) fun _ _ w4 r hr m4 => ⟨_, rfl, ?_⟩⟩
  have t4 := TB.new hs hr m4
  refine (ifK_of (fun h => by cases h) (fun _ => ?_) : ifK false _ _)
  refine light_ok aa al ac xs w4 (hx.no t4.sb.mod) _ fun w10 b m10 hb => ⟨b, rfl, ?_⟩
  have t10 := t4.no m10
  cases b with
  | false =>
    refine (ifK_of (fun _ => ?_) (fun h => by cases h) : ifK true _ _)
    refine (ifK_of (fun _ => ?_) (fun h => by cases h) : ifK true _ _)
    exact lives w10 t10.sb.mod
  | true =>
  obtain ⟨hl, hdl⟩ := hb rfl
  refine (ifK_of (fun h => by cases h) (fun _ => ?_) : ifK false _ _)
  refine ⟨fun y w' => ∃ (i : Nat) (F G : Nat → Prop) (a : AS), y = i ∧ i ≤ al ∧ TB w w' s r F G a a ∧ Lim i a, fun y _ => ((al : Int) - y).toNat, ⟨0, F, _, _, rfl, Nat.zero_le _, t10, ⟨Nat.le_refl _, by show (0 : Int) ≤ 9223372036854775807; decide⟩⟩, ?_⟩
  rintro _ _ w19 ⟨i, F, G, a, rfl, hi, t19, lim⟩
  refine ifK_dec (fun hlt => ?_) (fun hge => ?_)
  · have hil : i < xs.length := by omega
    have hok := hx.ok xs[i] (List.getElem_mem hil)
    have hdl := hdl xs[i] (List.getElem_mem hil)
    have e1 : IntKind.i64.wrap ((i : Int) + 1) = ((i + 1 : Nat) : Int) := by rw [wrap64 (by omega) (by omega)]; rfl
    rw [e1]
    clear e1
    refine copyAct (hx.no t19.sb.mod) i rfl hil fun w42 b42 m42 => ?_
    generalize xs[i] = x at hok hdl b42
    have b : w42.heap[w19.heap.size]? = some (.cells #[.int .i64 x.kind, .string x.a, .string x.b, .slice x.da x.dl x.dc, .int .i64 x.n, .int .i64 x.m] 48 (0, 0)) := b42
    clear b42
    refine ⟨_, by rw [cl1 b]; rfl, _, by rw [cl1 b]; rfl, _, by rw [cl1 b]; rfl, _, _, _, by rw [cl1 b]; rfl, _, by rw [cl1 b]; rfl, _, by rw [cl1 b]; rfl, ?_⟩
    refine act_ok (t19.no m42) lim (by omega) hok hdl _ fun w52 F G a t52 lim' => ⟨_, rfl, ⟨i + 1, F, G, a, rfl, by omega, t52, lim'⟩, by simp only; omega⟩
  have s19 := t19.sb
  refine power3_ok s19.st _ fun w54 hp => ⟨rfl, ?_⟩
  obtain ⟨F, s54, _, _⟩ := s19.step hp
  refine fail2_ok s54.st ka _ fun w56 hp => ⟨rfl, ?_⟩
  obtain ⟨F, s56, _, _⟩ := s54.step hp
  refine power3_ok s56.st _ fun w58 hp => ⟨rfl, ?_⟩
  obtain ⟨F, s58, _, _⟩ := s56.step hp
  have htw := twice a.power ka kb rfl
  have hd : ((a.power.fail ka).power).dark = false := rfl
  generalize (a.power.fail ka).power = a' at s58 htw hd
  have hok := s58.st.ok
  have hdn := hok.dirN
  have hnm : a'.names = a'.dir.map (·.1) := by rw [AS.names, hd]; rfl
  refine names_ok s58.st _ fun w60 p61 n62 n63 hp m60 hpn => ⟨p61, n62, n63, rfl, ?_⟩
  have s60 := s58.no m60
  rw [hnm] at hp
  have hpl := hp.len.1
  rw [List.length_map] at hpl
  have psz : ∀ {w' : World} {i : Nat} (hi : i < a'.dir.length), Strs w' p61 n62 n63 (a'.dir.map (·.1)) → ∃ ad, p61 = some ad ∧ w'.cell? (Addr.add ad (i * 1)) = some (.string a'.dir[i].1) := by
    intro w' i hi hs
    obtain ⟨q1, q2⟩ := hs.all (fun _ => rfl)
    cases p61 with
    | none => have := q2 rfl; omega
    | some ad => exact ⟨ad, rfl, q1 ad rfl _ _ (by rw [Nat.mul_one]; simp [hi])⟩
  have nsz : ∀ {i : Nat} (hi : i < a'.dir.length), (a'.dir[i].1).size < 4611686018427387904 := by
    intro i hi
    have hg := hok.dirG _ (List.getElem_mem hi)
    rw [goodB, Bool.and_eq_true, Bool.and_eq_true] at hg
    have := of_decide_eq_true hg.2.2
    omega
  have hp61lt : ∀ k, rowB p61 k → k < w60.heap.size := fun k hk => els_lt hp hk
  -- what was read
  let Q : World → Nat → List Sl → Prop := fun w' i ts => ts.length = i ∧ ∀ j (hj : j < ts.length) (hj' : j < a'.dir.length), Els u8v 5 w' ts[j].p ts[j].l ts[j].c (a'.read a'.dir[j].1).1 ∧ ∀ k, rowB ts[j].p k → w60.heap.size ≤ k
  have hFlt : ∀ k, F k → k < w60.heap.size := s60.hi
  refine ⟨fun p l c y w' => ∃ (i : Nat) (ts : List Sl), y = i ∧ i ≤ n62 ∧ Mod no w60 w' ∧ Els slV 24 w' p l c ts ∧ (∀ k, rowB p k → w60.heap.size ≤ k) ∧ Q w' i ts, fun _ _ _ y _ => ((n62 : Int) - y).toNat, ⟨0, [], rfl, Nat.zero_le _, Mod.refl _ _, Els.nil _ _, fun k hk => by simp [rowB] at hk, rfl, fun j hj => by simp at hj⟩, ?_⟩
  rintro _ p67 n68 n69 _ w71 ⟨i, ts, rfl, hi, m71, hts, htn, hq1, hq2⟩
  have s71 := s60.no m71
  have hp71 : Strs w71 p61 n62 n63 (a'.dir.map (·.1)) := row_mod hp m71 fun _ _ => id
  have htl := hts.len.1
  refine ifK_dec (fun hlt => ?_) (fun hge => ?_)
  · have hil : i < a'.dir.length := by omega
    have e1 : IntKind.i64.wrap ((i : Int) + 1) = ((i + 1 : Nat) : Int) := by rw [wrap64 (by omega) (by omega)]; rfl
    rw [e1]
    clear e1
    obtain ⟨ad, had, hc⟩ := psz hil hp71
    refine ⟨ad, had, by omega, hlt, _, by rw [Int.toNat_natCast]; exact hc, ?_⟩
    refine read_ok s71.st _ (nsz hil) _ fun w75 p l c hr m75 hrn => ⟨p, l, c, _, rfl, fun w80 e80 => ?_⟩
    have m80 : Mod no w75 w80 := by subst e80; exact Mod.alloc _ _
    have b80 : w80.heap[w75.heap.size]? = some (.cells #[slV ⟨p, l, c⟩] 24 (0, 0)) := by subst e80; exact new_at _ _
    clear e80
    have m71' := m75.trans m80
    have hts80 : Els slV 24 w80 p67 n68 n69 ts := row_mod hts m71' fun _ _ => id
    obtain ⟨a2, c2, w82, hrun, g1, g2, g3⟩ := hts80.push1 (P := Try.prog) (ty := 55) slOne slLaid b80 (by omega)
    have tyN : NoRow w80 (rowB p67) := fun k cs z hk hc => by
      rcases hts80.2 with ⟨hv, _⟩ | ⟨g, cap, cur, hv, _, hg, _⟩
      · injection hv with h1; rw [h1] at hk; simp [rowB] at hk
      · injection hv with h1
        rw [h1] at hk
        simp [rowB] at hk
        subst hk
        rw [hg] at hc
        injection hc with hc
        injection hc with _ hc
        exact absurd hc (by decide)
    have sz1 := m71.size
    have sz2 := m75.size
    have sz3 := m80.size
    refine ⟨_, w82, hrun, _, _, _, rfl, ⟨i + 1, ts ++ [⟨p, l, c⟩], rfl, by omega, (m71.trans m71').new g2 htn, g1, fun k hk => ?_, by rw [List.length_append, List.length_singleton, hq1], fun j hj hj' => ?_⟩, by simp only; omega⟩
    · rcases g3 k hk with h | h
      · exact htn k h
      · omega
    · by_cases hjl : j < ts.length
      · rw [List.getElem_append_left hjl]
        obtain ⟨z1, z2⟩ := hq2 j hjl hj'
        exact ⟨els_norow (els_mod z1 m71' fun _ _ => id) g2 tyN, z2⟩
      · have hje : j = i := by rw [List.length_append, List.length_singleton] at hj; omega
        subst hje
        rw [List.getElem_append_right (by omega)]
        simp only [hq1, Nat.sub_self, List.getElem_cons_zero]
        exact ⟨els_norow (els_mod hr m80 fun _ _ => id) g2 tyN, fun k hk => by have := hrn k hk; omega⟩
  · have hil : i = a'.dir.length := by omega
    subst hil
    -- what lies between stands
    let Pk : Nat → Prop := fun k => w58.heap.size ≤ k ∧ k < w71.heap.size
    have hFP : ∀ k, F k → ¬ Pk k := fun k hf hk => by have := s58.hi k hf; have := hk.1; omega
    have sz0 := m60.size
    have sz1 := m71.size
    refine fail2_ok s71.st kb _ fun w87 hp87 => ⟨rfl, ?_⟩
    obtain ⟨F1, s87, hF1, m87⟩ := s71.step hp87
    have hFP1 : ∀ k, F1 k → ¬ Pk k := fun k hf hk => by
      rcases hF1 k hf with h | h
      · exact hFP k h hk
      · have := hk.2; omega
    refine power3_ok s87.st _ fun w89 hp89 => ⟨rfl, ?_⟩
    obtain ⟨F2, s89, hF2, m89⟩ := s87.step hp89
    rw [htw] at s89
    have keep : ∀ {p : Option Addr} {l c : Nat} {α : Type} {val : α → Value} {e : TypeId} {zs : List α}, Els val e w71 p l c zs → (∀ k, rowB p k → w58.heap.size ≤ k) → Els val e w89 p l c zs := fun hz hn =>
      row_mod (row_mod hz m87 fun k hk hf => hFP k hf ⟨hn k hk, els_lt hz hk⟩) m89 fun k hk hf => hFP1 k hf ⟨hn k hk, els_lt hz hk⟩
    have hp89' : Strs w89 p61 n62 n63 (a'.dir.map (·.1)) := keep hp71 hpn
    have hts89 := keep hts fun k hk => by have := htn k hk; omega
    have hq89 : ∀ j (hj : j < ts.length) (hj' : j < a'.dir.length), Els u8v 5 w89 ts[j].p ts[j].l ts[j].c (a'.read a'.dir[j].1).1 := fun j hj hj' => by
      obtain ⟨z1, z2⟩ := hq2 j hj hj'
      exact keep z1 fun k hk => by have := z2 k hk; omega
    refine names_ok s89.st _ fun w91 q l2 c2 hq91 m91 _ => ⟨q, l2, c2, rfl, ?_⟩
    rw [hnm] at hq91
    have hql := hq91.len.1
    rw [List.length_map] at hql
    refine texts_ok hq91 (Strs.no hp89' m91) (by omega) _ fun w96 m96 => ⟨_, rfl, ?_⟩
    rw [decide_eq_true rfl]
    refine (ifK_of (fun h => by cases h) (fun _ => ?_) : ifK false _ _)
    have m89_96 := m91.trans m96
    refine ⟨fun y w' => ∃ i : Nat, y = i ∧ i ≤ n62 ∧ Mod no w89 w', fun y _ => ((n62 : Int) - y).toNat, ⟨0, rfl, Nat.zero_le _, m89_96⟩, ?_⟩
    rintro _ _ w102 ⟨j, rfl, hj, m102⟩
    have s102 := s89.no m102
    refine ifK_dec (fun hlt => ?_) (fun _ => lives w102 s102.mod)
    have hjl : j < a'.dir.length := by omega
    have e1 : IntKind.i64.wrap ((j : Int) + 1) = ((j + 1 : Nat) : Int) := by rw [wrap64 (by omega) (by omega)]; rfl
    rw [e1]
    clear e1
    obtain ⟨ad, had, hc⟩ := psz hjl (Strs.no hp89' m102)
    refine ⟨ad, had, by omega, hlt, _, by rw [Int.toNat_natCast]; exact hc, ?_⟩
    have hk := name_known hok hd hjl
    have hr2 : (a'.read a'.dir[j].1).2 = 0 := by rw [AS.read, if_pos hk]
    refine read_ok s102.st _ (nsz hjl) _ fun w106 p l c hr m106 _ => ⟨p, l, c, _, rfl, ?_⟩
    rw [hr2]
    refine (ifK_of (fun h => by cases h) (fun _ => ?_) : ifK false _ _)
    have m106' := m102.trans m106
    have hts106 : Els slV 24 w106 p67 n68 n69 ts := row_mod hts89 m106' fun _ _ => id
    obtain ⟨q1, q2⟩ := hts106.all slOne
    have hjt : j < ts.length := by omega
    cases p67 with
    | none => have := q2 rfl; omega
    | some ad2 =>
      refine ⟨ad2, rfl, by omega, by omega, ts[j].p, ts[j].l, ts[j].c, by rw [Int.toNat_natCast]; exact q1 ad2 rfl _ _ (by rw [Nat.mul_one]; simp [hjt, slV]), ?_⟩
      refine same_ok (Rd.of_els hr) ((Rd.of_els (hq89 j hjt hjl)).no m106') _ ⟨_, rfl, ?_⟩
      rw [decide_eq_true rfl]
      refine (ifK_of (fun h => by cases h) (fun _ => ?_) : ifK false _ _)
      exact ⟨⟨j + 1, rfl, by omega, m106'⟩, by simp only; omega⟩
end Go.Proofs.Ytemklabamlifdaa
