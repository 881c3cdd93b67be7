/- Parts of the proof of StoreActs. -/
import Derived.Test.YtemklabamlifdaaCore9
import Derived.Test.YtemklabamlifdaaProg
import Derived.Lib.SlBytesConst
import Derived.Deep.Slices
import Derived.ChangeSame
import Derived.Below
import Derived.SizedLaws
import Derived.Test.YtemklabamlifdaaLib
import Derived.Deep.Fields
import Derived.Test.YtemklabamlifdaaU3
/- The reference's store: its calls. -/
namespace Go.Proofs.Ytemklabamlifdaa
open Go Go.Proofs.Ytemklabamlifdaa.St

theorem first_known (a : AS) (n : ByteArray) : a.first n true = a.known n := by
  unfold AS.first AS.known
  by_cases h1 : a.dark = true
  · rw [if_pos h1, if_pos h1]
  · rw [if_neg h1, if_neg h1]
    by_cases h2 : goodB n = false
    · rw [if_pos h2, if_pos h2]
    · rw [if_neg h2, if_neg h2]
      by_cases h3 : dget a.dir n = none
      · rw [if_pos ⟨rfl, h3⟩, if_pos h3]
      · rw [if_neg (fun h => h3 h.2), if_neg h3]
structure CntF (a b : AS) : Prop where
  dir : b.dir = a.dir
  all : b.all = a.all
  sure : b.sure = a.sure
  room : b.room = a.room
  dark : b.dark = a.dark
  ok : a.Ok → b.Ok
theorem cntR_false {a : AS} (h : a.cntR.2 = false) : CntF a a.cntR.1 := by
  unfold AS.cntR at h ⊢
  split at h
  · rename_i h1
    rw [if_pos h1]
    split at h
    · cases h
    · rename_i h2
      rw [if_neg h2]
      exact ⟨rfl, rfl, rfl, rfl, rfl, fun h => h.tick.less⟩
  · rename_i h1
    rw [if_neg h1]
    exact ⟨rfl, rfl, rfl, rfl, rfl, fun h => h.tick⟩
theorem upd_set {a : AS} {i : Nat} (hi : i < a.all.length) (g : Bs × Bs → Bs × Bs) : a.upd i g = { a with all := a.all.set i (g (a.file i)) } := by
  have : a.all.modify i g = a.all.set i (g (a.file i)) := by
    apply List.ext_getElem?
    intro j
    rw [List.getElem?_modify, List.getElem?_set]
    by_cases e : i = j
    · subst e; simp [hi, AS.file]
    · simp [e]
  rw [AS.upd, this]

section
variable {w w' : World} {r : Nat} {G : Nat → Prop} {a : AS} {x : RA}
theorem newR_ok (room : Int) (w : World) (R : Value → World → Prop) (h1 : (room < 0 ∨ 1073741824 < room) → R (.pointer none) w)
    (h2 : 0 ≤ room → room ≤ 1073741824 → ∀ w' r, Rt w' r (fun k => w.heap.size ≤ k ∧ k < w'.heap.size) (AS.new room) → Mod no w w' → R (.pointer (some ⟨r, 0, none⟩)) w') : Ca Try.prog 32 #[.int .i64 room] w R := by
  refine ca32 room w R ?_
  refine ifK_dec (fun h => h1 (.inl h)) (fun hl => ifK_dec (fun h => h1 (.inr h)) (fun hr => ?_))
  intro w0 e0
  have m0 : Mod no w w0 := by subst e0; exact Mod.alloc _ _
  have c0 : w0.heap[w.heap.size]? = some (.cells #[.int .i64 room, .slice none 0 0, .slice none 0 0, .slice none 0 0, .bool false, .int .i64 0, .int .i64 0, .int .i64 0] 60 (0, 0)) := by subst e0; exact new_at _ _
  clear e0
  exact h2 (by omega) (by omega) w0 _ ⟨⟨none, 0, 0, [], none, 0, 0, none, 0, 0⟩, c0, Row.empty _ _ _, Row.empty _ _ _, Row.empty _ _ _, AllAt.nil, ⟨Nat.le_refl _, lt_of_heap c0⟩, fun k hk => by simp [rowB] at hk, fun k hk => by simp [rowB] at hk, fun k hk => by simp [rowB] at hk⟩ m0

theorem planR_ok (h : RS w r G a x) (n keep : Int) (R : Value → World → Prop) (hR : ∀ w', RP r G w (a.plan n keep).1 w' → R (.int .i64 (a.plan n keep).2) w') : Ca Try.prog 64 #[.pointer (some ⟨r, 0, none⟩), .int .i64 n, .int .i64 keep] w R := by
  refine ca64 _ n keep w R ?_
  refine ⟨a.dark, by rw [cl1 h.cell]; rfl, ?_⟩
  cases hd : a.dark with
  | true =>
    have hp : a.plan n keep = (a, 9) := by rw [AS.plan, if_pos hd]
    rw [hp] at hR
    exact (ifK_of (fun _ => hR w (RP.refl ⟨x, h⟩)) (fun h => by cases h) : ifK true _ _)
  | false =>
    refine (ifK_of (fun h => by cases h) (fun _ => ?_) : ifK false _ _)
    refine ifK_dec (fun hn => ?_) (fun hn => ?_)
    · have hp : a.plan n keep = (a, 2) := by rw [AS.plan, if_neg (by rw [hd]; simp), if_pos hn]
      rw [hp] at hR
      exact hR w (RP.refl ⟨x, h⟩)
    · have hp : a.plan n keep = ({ a with left := n, keep := keep }, 0) := by rw [AS.plan, if_neg (by rw [hd]; simp), if_neg hn]
      rw [hp] at hR
      obtain ⟨q1, q2, q3, q4⟩ := setFile h.cell 6 (by simp) (.int .i64 n)
      refine ⟨q1, q2, fun w4 e4 => ?_⟩
      rw [← e4] at q3 q4
      clear e4
      obtain ⟨r1, r2, r3, r4⟩ := setFile q4 7 (by simp) (.int .i64 keep)
      refine ⟨r1, r2, fun w7 e7 => hR w7 ?_⟩
      rw [← e7] at r3 r4
      have m := q3.trans r3
      exact ⟨G, ⟨x, h.scal m { a with left := n, keep := keep } rfl rfl rfl rfl r4⟩, fun _ hk => .inl hk, m.mono fun k _ hk => by cases hk; exact h.gr⟩
theorem powerR_ok (h : RS w r G a x) (R : Value → World → Prop) (hR : ∀ w', RP r G w a.power w' → R (.tuple #[]) w') : Ca Try.prog 66 #[.pointer (some ⟨r, 0, none⟩)] w R := by
  refine ca66 _ w R ?_
  obtain ⟨q1, q2, q3, q4⟩ := setFile h.cell 4 (by simp) (.bool false)
  refine ⟨q1, q2, fun w4 e4 => ?_⟩
  rw [← e4] at q3 q4
  clear e4
  obtain ⟨r1, r2, r3, r4⟩ := setFile q4 6 (by simp) (.int .i64 0)
  refine ⟨r1, r2, fun w7 e7 => hR w7 ?_⟩
  rw [← e7] at r3 r4
  have m := q3.trans r3
  exact ⟨G, ⟨x, h.scal m a.power rfl rfl rfl rfl r4⟩, fun _ hk => .inl hk, m.mono fun k _ hk => by cases hk; exact h.gr⟩

/-- append([]byte{}, b...). -/
theorem app0 {w : World} {k : Nat} {p : Option Addr} {l c : Nat} {bs : Bs} (hk : w.heap[k]? = some (.cells #[] 5 (0, 0))) (hx : Rd w p l c bs) (hl : l ≤ 549755813888) :
    ∃ a' c' w', (Builtin.append_ #[24, 24] 24 #[.slice (some ⟨k, 0, none⟩) 0 0, .slice p l c]).run Try.prog w = .ok (.slice a' (0 + l) c') w' ∧ Els u8v 5 w' a' l c' bs ∧ Mod (on k) w w' ∧ (∀ j, rowB a' j → j = k ∨ w.heap.size ≤ j) := by
  have r0 : Els u8v 5 w (some ⟨k, 0, none⟩) 0 0 [] := Els.lit u8one hk [] rfl (Nat.zero_le _)
  obtain ⟨a', c', w', h1, h2, h3, h4⟩ := r0.push (P := Try.prog) (ty := 24) u8one bytesLaid (ys := bs) (m := l) (cc := c) hx.len hx.all hx.nil (by omega)
  refine ⟨a', c', w', h1, by simpa using h2, h3.mono fun j _ hj => ?_, fun j hj => ?_⟩
  · simp [rowB] at hj; exact hj.symm
  · rcases h4 j hj with h | h
    · simp [rowB] at h; exact .inl h.symm
    · exact .inr h

theorem readR_ok (h : RS w r G a x) (hok : a.Ok) (n : ByteArray) (hn : n.size < 4611686018427387904) (R : Value → World → Prop)
    (hR : ∀ w' p l c, Els u8v 5 w' p l c (a.read n).1 → Mod no w w' → (∀ k, rowB p k → w.heap.size ≤ k) → R (.tuple #[.slice p l c, .int .i64 (a.read n).2]) w') : Ca Try.prog 63 #[.pointer (some ⟨r, 0, none⟩), .string n] w R := by
  refine ca63 _ n w R ?_
  refine first_ok h hok n hn true _ fun w1 m1 => ⟨_, rfl, ?_⟩
  rw [first_known]
  refine ifNe (fun hk => ?_) (fun hk => ?_)
  · have hr : a.read n = ([], a.known n) := by rw [AS.read, if_neg hk]
    rw [hr] at hR
    exact hR w1 none 0 0 (Els.nil _ _) m1 fun k hk => by simp [rowB] at hk
  · obtain ⟨_, _, i, hi, hidx⟩ := AS.known0 hk
    have hr : a.read n = ((a.file i).1, 0) := by rw [AS.read, if_pos hk, hidx]
    rw [hr] at hR
    intro w3 e3
    have m3 : Mod no w1 w3 := by subst e3; exact Mod.alloc _ _
    have b3 : w3.heap[w1.heap.size]? = some (.cells #[] 5 (0, 0)) := by subst e3; exact new_at _ _
    clear e3
    have h3 := (h.no m1).no m3
    refine file_ok h3 hok n hi _ fun w5 ad m5 had => ⟨_, rfl, ?_⟩
    have h5 := h3.no m5
    have hil : i < a.all.length := hok.dirI _ (dget_some hi)
    have hlen := h5.files.len
    have hi' : i < x.fs.length := by omega
    obtain ⟨g, hg, hcell⟩ := h5.all.getS hi' (s := 2) rfl
    rw [had] at hg
    cases hg
    have hfr := h5.files.get i hi' hil
    have hfile : a.file i = a.all[i] := by rw [AS.file, List.getElem?_eq_getElem hil]; rfl
    have hfl := hok.flen i
    rw [hfile] at hR hfl
    have hl1 := hfr.1.len
    have hsz := m1.size
    refine ⟨_, _, _, hcell 0 _ rfl, ?_⟩
    obtain ⟨a', c', w6, hrun, g1, g2, g3⟩ := app0 (m5.at' b3) (Rd.of_els hfr.1) (by omega)
    refine ⟨_, w6, hrun, _, _, _, rfl, ?_⟩
    rw [Nat.zero_add]
    refine hR w6 a' _ c' g1 (((m1.trans m3).trans m5).new g2 fun k hk => by cases hk; exact hsz) fun k hk => ?_
    have := m3.size
    have := m5.size
    rcases g3 k hk with h | h <;> omega

/-- A counted call of the reference. -/
theorem countedR {f : AS → AS} {K : Int → World → Prop} {w1 : World} (hm1 : Mod no w w1) (hR : ∀ w', RP r G w (a.counted f).1 w' → K (a.counted f).2 w') (h : RS w r G a x) (hok : a.Ok) (hal : a.all.length ≤ 1073741824) (hlf : a.left ≤ 9223372036854775807)
    {A : World → Prop} {B : World → Prop} (hA : ∀ w', K 9 w' → A w') (hB : ∀ w', RP r G w a.cntR.1 w' → CntF a a.cntR.1 → (∀ w'', RP r G w (f a.cntR.1) w'' → K 0 w'') → B w') :
    Ca Try.prog 76 #[.pointer (some ⟨r, 0, none⟩)] w1 fun v w2 => ∃ b, v = .bool b ∧ ifK b (A w2) (B w2) := by
  rw [counted_eq] at hR
  refine countR_ok (h.no hm1) hok hal hlf _ fun w' hp => ⟨_, rfl, ?_⟩
  have hp := hp.pre hm1
  cases hb : a.cntR.2 with
  | true =>
    rw [hb] at hR
    exact (ifK_of (fun _ => hA w' (hR w' hp)) (fun h => by cases h) : ifK true _ _)
  | false =>
    rw [hb] at hR
    refine (ifK_of (fun h => by cases h) (fun _ => ?_) : ifK false _ _)
    exact hB w' hp (cntR_false hb) hR

/-- f.Now, or f.Sure, gets a row, where f is a file that is there. -/
theorem putF_ok {w0 w1 : World} {G0 : Nat → Prop} (hG0 : ∀ k, G k → G0 k ∨ w0.heap.size ≤ k) (m0 : Mod G0 w0 w) (h : RS w r G a x) {i : Nat} (hi : i < a.all.length) (m1 : Mod no w w1) {ad : Addr} (had : x.pa = some ad) {j : Nat} (hj : j < 2) {p : Option Addr} {l c : Nat} {g : Bs × Bs → Bs × Bs}
    (hg : ∀ y : RF, FR w G y (a.file i) → ∃ y' : RF, fileL.cs y' = (fileL.cs y).set j (.slice p l c) ∧ FR w1 (fun k => G k ∨ rowB p k) y' (g (a.file i))) (hn : ∀ k, rowB p k → G k ∨ w.heap.size ≤ k) (K : World → Prop) (hK : ∀ w2, RP r G0 w0 (a.upd i g) w2 → K w2) :
    (∃ u, w1.cell? (Addr.add (Addr.add (Addr.add ad (i * 2)) j) 0) = some u) ∧ w1.frozen? (Addr.add (Addr.add (Addr.add ad (i * 2)) j) 0) = false ∧ atW (w1.setCell (Addr.add (Addr.add (Addr.add ad (i * 2)) j) 0) (.slice p l c)) K := by
  have hlen := h.files.len
  have hi' : i < x.fs.length := by omega
  have hfile : a.file i = a.all[i] := by rw [AS.file, List.getElem?_eq_getElem hi]; rfl
  have hfr := h.files.get i hi' hi
  rw [← hfile] at hfr
  obtain ⟨y', hy, hf⟩ := hg _ hfr
  have h1 := h.no m1
  obtain ⟨q1, q2, q3, q4⟩ := h1.file hi' hj (.slice p l c) y' hy had (g (a.file i))
  refine ⟨q1, q2, fun w2 e2 => hK w2 ?_⟩
  rw [← e2] at q3 q4
  have h2 := q4 (fun k => G k ∨ rowB p k) hf fun k hk => .inl hk
  rw [← upd_set hi g] at h2
  refine ⟨_, ⟨_, h2⟩, fun k hk => ?_, (m0.trans_no m1).trans' q3 fun k hk hkG => ?_⟩
  · rcases hk with hk | hk
    · exact hG0 k hk
    · rcases hn k hk with h | h
      · exact hG0 k h
      · exact .inr (Nat.le_trans m0.size h)
  · rcases hG0 k hkG with h | h
    · exact h
    · omega

set_option maxRecDepth 100000 in
theorem makeR_ok (h : RS w r G a x) (hok : a.Ok) (hal : a.all.length ≤ 1073741823) (hlf : a.left ≤ 9223372036854775807) (n : ByteArray) (hn : n.size < 4611686018427387904) (R : Value → World → Prop) (hR : ∀ w', RP r G w (a.make n).1 w' → R (.int .i64 (a.make n).2) w') :
    Ca Try.prog 54 #[.pointer (some ⟨r, 0, none⟩), .string n] w R := by
  refine ca54 _ n w R ?_
  refine first_ok h hok n hn false _ fun w1 m1 => ⟨_, rfl, ?_⟩
  have hrt : Rt w r G a := ⟨x, h⟩
  by_cases hf : a.first n false = 0
  · have hdg : a.dark = false ∧ goodB n = true := by
      unfold AS.first at hf
      by_cases h1 : a.dark = true
      · rw [if_pos h1] at hf; cases hf
      · rw [if_neg h1] at hf
        by_cases h2 : goodB n = false
        · rw [if_pos h2] at hf; cases hf
        · exact ⟨by simpa using h1, by simpa using h2⟩
    rw [hf]
    refine (ifK_of (fun h => by cases h) (fun _ => ?_) : ifK false _ _)
    have h1 := h.no m1
    refine find_ok h1 hok n _ (fun hdn w2 m2 => ⟨_, rfl, ?_⟩) (fun i hi hdn w2 m2 => ⟨_, rfl, ?_⟩)
    · refine (ifK_of (fun h => by cases h) (fun _ => ?_) : ifK false _ _)
      have hk3 : a.known n = 3 := by rw [AS.known, if_neg (by rw [hdg.1]; simp), if_neg (by rw [hdg.2]; simp), if_pos hdn]
      have hk0 : ¬ a.known n = 0 := by rw [hk3]; decide
      intro w6 e6
      have m6 : Mod no w w6 := by subst e6; exact (m1.trans m2).trans (Mod.drew _)
      clear e6
      have h6 := h.no m6
      refine ⟨a.room, by rw [cl1 h6.cell]; rfl, need_ok h6 hok _ fun w10 m10 => ⟨_, rfl, ?_⟩⟩
      have h10 := h6.no m10
      have hnd := AS.need_le hok
      have hdn' := hok.dirN
      have hr0 := hok.room0
      have hr1 := hok.room1
      rw [wrap64 (x := a.room - (a.need : Int)) (by omega) (by omega)]
      refine ⟨by rw [cl2 h10.cell]; rfl, ifK_dec (fun hs => ?_) (fun hs => ?_)⟩
      · have hm : a.make n = (a, 6) := by rw [AS.make, if_neg hk0, if_pos hk3, if_pos hs]
        rw [hm] at hR
        exact hR w10 (RP.of_no hrt (m6.trans m10))
      · have hm : a.make n = a.counted fun a => { a with all := a.all ++ [([], [])], dir := dset n a.all.length a.dir } := by rw [AS.make, if_neg hk0, if_pos hk3, if_neg hs]
        rw [hm] at hR
        refine countedR (K := fun e w => R (.int .i64 e) w) (m6.trans m10) hR h hok (by omega) hlf (fun w' h => h) fun w13 hp hc hB => ?_
        obtain ⟨G', ⟨x', h'⟩, hG', mG⟩ := hp
        have hfl := h'.all.len.1
        have hlen := h'.files.len
        rw [hc.all] at hlen
        refine ⟨x'.pa, x'.la, x'.ca, by rw [cl1 h'.cell]; rfl, fun w19 e19 => ?_⟩
        have m19 : Mod no w13 w19 := by subst e19; exact Mod.alloc _ _
        have b19 : w19.heap[w13.heap.size]? = some (.cells #[.slice none 0 0, .slice none 0 0] 103 (0, 0)) := by subst e19; exact new_at _ _
        clear e19
        have h19 := h'.no m19
        obtain ⟨pa, ca, w21, hrun, g1, g2, g3⟩ := h19.all.push (P := Try.prog) (ty := 57) filesLaid (b := some ⟨w13.heap.size, 0, none⟩) (m := 1) (cc := 1) (ys := [⟨none, 0, 0, none, 0, 0⟩]) rfl (fun ad had j v hj => by
          cases had
          rw [cl1 b19]
          simpa [fileL] using hj) (fun h => by cases h) (by omega)
        refine ⟨_, w21, hrun, _, _, _, rfl, ?_⟩
        have hrne : ¬ rowB x'.pa r := fun hk => by
          obtain ⟨cs, hc⟩ := h19.all.ty hk
          exact ne_of_cells h19.cell hc (by decide) rfl
        have nt : ∀ e, e ≠ 103 → NoTy w19 (rowB x'.pa) e := fun e he k cs z hk hc => by
          obtain ⟨cs', hc'⟩ := h19.all.ty hk
          rw [hc'] at hc
          injection hc with hc
          injection hc with _ hc
          exact he hc.symm
        have c21 := g2.at h19.cell hrne
        obtain ⟨q1, q2, q3, q4⟩ := setFile c21 1 (by simp) (.slice pa (x'.la + 1) ca)
        refine ⟨q1, q2, fun w27 e27 => ?_⟩
        rw [← e27] at q3 q4
        clear e27
        have hcl := q4
        refine ⟨pa, x'.la + 1, ca, by rw [cl1 q4]; rfl, ?_⟩
        let G2 : Nat → Prop := fun k => G' k ∨ rowB pa k
        have hG2 : ∀ k, G2 k → G k ∨ w.heap.size ≤ k := fun k hk => by
          rcases hk with hk | hk
          · exact hG' k hk
          · rcases g3 k hk with h | h
            · exact hG' k (h19.ga k h)
            · exact .inr (Nat.le_trans mG.size (Nat.le_trans m19.size h))
        have rl : ∀ {e : TypeId} {L : Lay (ByteArray × Nat)} {p : Option Addr} {l c : Nat} {D : List (ByteArray × Nat)}, e ≠ 103 → e ≠ 60 → Row L e w19 p l c D → Row L e w27 p l c D := fun he he2 hr =>
          (hr.noty g2 (nt _ he)).noty q3 (noTy_on c21 fun h => he2 h.symm)
        have hRS : RS w27 r G2 { a.cntR.1 with all := a.cntR.1.all ++ [([], [])] } { x' with pa := pa, la := x'.la + 1, ca := ca, fs := x'.fs ++ [⟨none, 0, 0, none, 0, 0⟩] } := by
          refine ⟨q4, ?_, rl (by decide) (by decide) h19.dir, rl (by decide) (by decide) h19.sure, ?_, .inl h19.gr, fun k hk => .inr hk, fun k hk => .inl (h19.gd k hk), fun k hk => .inl (h19.gs k hk)⟩
          · exact g1.noty q3 (noTy_on c21 (by decide))
          · refine AllAt.append (h19.files.imp fun _ _ q => ((q.norow g2 (nt 5 (by decide))).norow q3 (noTy_on c21 (by decide))).mono fun k hk => .inl hk) (AllAt.one ⟨Els.nil _ _, Els.nil _ _, fun k hk => by simp [rowB] at hk, fun k hk => by simp [rowB] at hk⟩)
        have m27 : Mod G w w27 := by
          have mA : Mod (fun k => rowB x'.pa k ∨ G' k) w19 w27 := (g2.mono fun k _ hk => .inl hk).trans' (q3.mono (T := G') fun k _ hk => by cases hk; exact h19.gr) fun k _ hg => .inr hg
          refine (mG.trans_no m19).trans' mA fun k hk hg => ?_
          rcases hg with hg | hg
          · rcases hG' k (h19.ga k hg) with h | h
            · exact h
            · omega
          · rcases hG' k hg with h | h
            · exact h
            · omega
        have hidx : IntKind.i64.wrap (((x'.la + 1 : Nat) : Int) - 1) = (a.all.length : Nat) := by rw [wrap64 (by omega) (by omega)]; omega
        rw [hidx]
        have hok2 : ({ a.cntR.1 with all := a.cntR.1.all ++ [([], [])] } : AS).Ok := by
          have h0 := hc.ok hok
          refine ⟨h0.room0, h0.room1, fun f hf => ?_, h0.dirS, h0.sureS, fun p hp => ?_, fun p hp => ?_, h0.dirN, h0.sureN, h0.dirG, h0.sureG⟩
          · rcases List.mem_append.1 hf with hf | hf
            · exact h0.lens f hf
            · simp only [List.mem_singleton] at hf; subst hf; simp
          · have := h0.dirI p hp
            show p.2 < (a.cntR.1.all ++ [([], [])]).length
            rw [List.length_append]; omega
          · have := h0.sureI p hp
            show p.2 < (a.cntR.1.all ++ [([], [])]).length
            rw [List.length_append]; omega
        refine set_ok hRS hok2 n _ _ fun w33 hp => ⟨rfl, hB w33 ?_⟩
        have he : setD n ((a.all.length : Nat) : Int) a.cntR.1.dir = dset n a.cntR.1.all.length a.cntR.1.dir := by
          rw [setD, if_neg (by omega), Int.toNat_natCast, hc.all]
        obtain ⟨G3, g4, g5, g6⟩ := hp
        simp only [he] at g4
        refine ⟨G3, g4, fun k hk => ?_, m27.trans' g6 fun k hk hg => ?_⟩
        · rcases g5 k hk with h | h
          · exact hG2 k h
          · exact .inr (Nat.le_trans m27.size h)
        · rcases hG2 k hg with h | h
          · exact h
          · omega
    · refine ifK_dec (fun _ => ?_) (fun h => by omega)
      have hk0 : a.known n = 0 := by rw [AS.known, if_neg (by rw [hdg.1]; simp), if_neg (by rw [hdg.2]; simp), if_neg (by rw [hdn]; simp)]
      have hm : a.make n = (a, 4) := by rw [AS.make, if_pos hk0]
      rw [hm] at hR
      exact hR w2 (RP.of_no hrt (m1.trans m2))
  · have hm : a.make n = (a, a.first n false) := by
      have hk : a.known n = a.first n false ∧ a.known n ≠ 0 ∧ a.known n ≠ 3 := by
        unfold AS.first at hf ⊢
        unfold AS.known
        by_cases h1 : a.dark = true
        · rw [if_pos h1, if_pos h1]; decide
        · rw [if_neg h1] at hf ⊢
          rw [if_neg h1]
          by_cases h2 : goodB n = false
          · rw [if_pos h2, if_pos h2]; decide
          · rw [if_neg h2, if_neg (by simp)] at hf
            exact absurd rfl hf
      rw [AS.make, if_neg hk.2.1, if_neg hk.2.2, hk.1]
    rw [hm] at hR
    refine ifNe (fun _ => ?_) (fun h => absurd h hf)
    exact hR w1 (RP.of_no hrt m1)
end
end Go.Proofs.Ytemklabamlifdaa

/- The reference's store: Write, Cut, Sync, Drop, Move, Commit. -/
namespace Go.Proofs.Ytemklabamlifdaa
open Go Go.Proofs.Ytemklabamlifdaa.St

section
variable {w w' : World} {r : Nat} {G : Nat → Prop} {a : AS} {x : RA}
theorem CntF.idx {a b : AS} (h : CntF a b) (n : ByteArray) : b.idx n = a.idx n := by rw [AS.idx, AS.idx, h.dir]
theorem CntF.file {a b : AS} (h : CntF a b) (i : Nat) : b.file i = a.file i := by rw [AS.file, AS.file, h.all]

set_option maxRecDepth 100000 in
theorem writeR_ok (h : RS w r G a x) (hok : a.Ok) (hal : a.all.length ≤ 1073741823) (hlf : a.left ≤ 9223372036854775807) (n : ByteArray) (hn : n.size < 4611686018427387904) {ba : Option Addr} {bl bc : Nat} {bs : Bs} (hb : Rd w ba bl bc bs) (hbG : 0 < bl → ∀ k, rowB ba k → ¬ G k)
    (R : Value → World → Prop) (hR : ∀ w', RP r G w (a.write n bs).1 w' → R (.int .i64 (a.write n bs).2) w') : Ca Try.prog 56 #[.pointer (some ⟨r, 0, none⟩), .string n, .slice ba bl bc] w R := by
  refine ca56 _ n ba bl bc w R ?_
  have hrt : Rt w r G a := ⟨x, h⟩
  have hbl := hb.len
  refine first_ok h hok n hn true _ fun w1 m1 => ⟨_, rfl, ?_⟩
  rw [first_known]
  refine ifNe (fun hk => ?_) (fun hk => ?_)
  · have hr : a.write n bs = (a, a.known n) := by rw [AS.write, if_neg hk]
    rw [hr] at hR
    exact hR w1 (RP.of_no hrt m1)
  obtain ⟨_, _, i, hi, hidx⟩ := AS.known0 hk
  have hil : i < a.all.length := hok.dirI _ (dget_some hi)
  intro w3 e3
  have m3 : Mod no w w3 := by subst e3; exact m1.trans (Mod.drew _)
  clear e3
  have h3 := h.no m3
  refine ⟨a.room, by rw [cl1 h3.cell]; rfl, need_ok h3 hok _ fun w7 m7 => ⟨_, rfl, ?_⟩⟩
  have m7 := m3.trans m7
  have hnd := AS.need_le hok
  have hdn' := hok.dirN
  have hr0 := hok.room0
  have hr1 := hok.room1
  rw [wrap64 (x := a.room - (a.need : Int)) (by omega) (by omega)]
  refine ⟨by rw [cl2 (h.no m7).cell]; rfl, ifK_dec (fun hs => ?_) (fun hs => ?_)⟩
  · have hr : a.write n bs = (a, 6) := by rw [AS.write, if_pos hk, if_pos (by omega)]
    rw [hr] at hR
    exact hR w7 (RP.of_no hrt m7)
  have hr : a.write n bs = a.counted fun a => a.upd (a.idx n) fun x => (x.1 ++ bs, x.2) := by rw [AS.write, if_pos hk, if_neg (by omega)]
  rw [hr] at hR
  have hne := AS.need_mem (a := a) (dget_some hi)
  have hfl := hok.flen i
  refine countedR (K := fun e w => R (.int .i64 e) w) m7 hR h hok (by omega) hlf (fun w' h => h) fun w10 hp hc hB => ?_
  obtain ⟨G', ⟨x', h'⟩, hG', mG⟩ := hp
  have hi' : dget a.cntR.1.dir n = some i := by rw [hc.dir]; exact hi
  have hil' : i < a.cntR.1.all.length := by rw [hc.all]; exact hil
  rw [hc.idx, hidx] at hB
  refine file_ok h' (hc.ok hok) n hi' _ fun w13 ad m13 had => ⟨_, rfl, ?_⟩
  intro w15 e15
  have m15 : Mod no w10 w15 := by subst e15; exact m13.trans (Mod.alloc _ _)
  have b15 : w15.heap[w13.heap.size]? = some (.cells #[] 5 (0, 0)) := by subst e15; exact new_at _ _
  clear e15
  have h15 := h'.no m15
  have hlen := h15.files.len
  have hi2 : i < x'.fs.length := by omega
  obtain ⟨g, hg, hcell⟩ := h15.all.getS hi2 (s := 2) rfl
  rw [had] at hg
  cases hg
  have hfr := h15.files.get i hi2 hil'
  have hfile : a.cntR.1.file i = a.cntR.1.all[i] := by rw [AS.file, List.getElem?_eq_getElem hil']; rfl
  rw [← hfile, hc.file] at hfr
  have hl1 := hfr.1.len
  refine ⟨_, _, _, hcell 0 _ rfl, ?_⟩
  obtain ⟨p1, c1, w21, hrun, g1, g2, g3⟩ := app0 b15 (Rd.of_els hfr.1) (by omega)
  refine ⟨_, w21, hrun, _, _, _, rfl, ?_⟩
  have sz10 := m13.size
  have m21 : Mod no w10 w21 := m15.new g2 fun k hk => by cases hk; exact sz10
  have rb : Rd w21 ba bl bc bs := (hb.mod' mG hbG).no m21
  rw [Nat.zero_add]
  obtain ⟨p2, c2, w26, hrun2, k1, k2, k3⟩ := g1.push (P := Try.prog) (ty := 24) u8one bytesLaid (ys := bs) (m := bl) (cc := bc) rb.len rb.all rb.nil (by
    have : bs.length ≤ 1073741824 := by omega
    omega)
  refine ⟨_, w26, hrun2, _, _, _, rfl, ?_⟩
  have n1 : ∀ k, rowB p1 k → w10.heap.size ≤ k := fun k hk => by
    have := m15.size
    rcases g3 k hk with h | h <;> omega
  have n2 : ∀ k, rowB p2 k → w10.heap.size ≤ k := fun k hk => by
    have := m21.size
    rcases k3 k hk with h | h
    · exact n1 k h
    · omega
  have m26 : Mod no w10 w26 := m21.new k2 n1
  have hnl : (x'.fs[i]).nl = (a.file i).1.length := hl1.1.symm
  refine putF_ok hG' mG h' hil' m26 had (j := 0) (by decide) (g := fun x => (x.1 ++ bs, x.2)) (fun y hy => ⟨⟨p2, (x'.fs[i]).nl + bl, c2, y.sa, y.sl, y.sc⟩, rfl, by rw [hc.file]; exact k1, ?_, fun k hk => .inr hk, fun k hk => .inl (hy.2.2.2 k hk)⟩) (fun k hk => .inr (n2 k hk)) _ fun w32 hp => hB w32 hp
  rw [hc.file] at hy ⊢
  exact els_mod hy.2.1 m26 fun _ _ => id

set_option maxRecDepth 100000 in
theorem cutR_ok (h : RS w r G a x) (hok : a.Ok) (hal : a.all.length ≤ 1073741823) (hlf : a.left ≤ 9223372036854775807) (n : ByteArray) (hn : n.size < 4611686018427387904) (k : Int)
    (R : Value → World → Prop) (hR : ∀ w', RP r G w (a.cut n k).1 w' → R (.int .i64 (a.cut n k).2) w') : Ca Try.prog 58 #[.pointer (some ⟨r, 0, none⟩), .string n, .int .i64 k] w R := by
  refine ca58 _ n k w R ?_
  have hrt : Rt w r G a := ⟨x, h⟩
  refine first_ok h hok n hn true _ fun w1 m1 => ⟨_, rfl, ?_⟩
  rw [first_known]
  refine ifNe (fun hk => ?_) (fun hk => ?_)
  · have hr : a.cut n k = (a, a.known n) := by rw [AS.cut, if_neg hk]
    rw [hr] at hR
    exact hR w1 (RP.of_no hrt m1)
  obtain ⟨_, _, i, hi, hidx⟩ := AS.known0 hk
  have hil : i < a.all.length := hok.dirI _ (dget_some hi)
  have hfl := hok.flen i
  have bad : ∀ w', Mod no w w' → (k < 0 ∨ k > a.len i) → R (.int .i64 2) w' := fun w' m hbk => by
    have hr : a.cut n k = (a, 2) := by rw [AS.cut, if_pos hk, hidx, if_pos hbk]
    rw [hr] at hR
    exact hR w' (RP.of_no hrt m)
  refine ifK_dec (fun hneg => bad w1 m1 (.inl hneg)) (fun hneg => ?_)
  refine file_ok (h.no m1) hok n hi _ fun w4 ad m4 had => ⟨_, rfl, ?_⟩
  have m4 := m1.trans m4
  have h4 := h.no m4
  have hlen0 := h4.files.len
  have hi0 : i < x.fs.length := by omega
  obtain ⟨g0, hg0, hcell0⟩ := h4.all.getS hi0 (s := 2) rfl
  rw [had] at hg0
  cases hg0
  have hfr0 := h4.files.get i hi0 hil
  have hfile0 : a.file i = a.all[i] := by rw [AS.file, List.getElem?_eq_getElem hil]; rfl
  have hl0 := hfr0.1.len.1
  rw [← hfile0] at hl0
  have hlen1 : a.len i = (x.fs[i]).nl := hl0
  refine ⟨_, _, _, hcell0 0 _ rfl, ifK_dec (fun hbig => bad w4 m4 (.inr (by omega))) (fun hbig => ?_)⟩
  have hr : a.cut n k = a.counted fun a => a.upd (a.idx n) fun x => (x.1.take k.toNat, x.2) := by rw [AS.cut, if_pos hk, hidx, if_neg (by omega)]
  rw [hr] at hR
  refine countedR (K := fun e w => R (.int .i64 e) w) m4 hR h hok (by omega) hlf (fun w' h => h) fun w10 hp hc hB => ?_
  obtain ⟨G', ⟨x', h'⟩, hG', mG⟩ := hp
  have hi' : dget a.cntR.1.dir n = some i := by rw [hc.dir]; exact hi
  have hil' : i < a.cntR.1.all.length := by rw [hc.all]; exact hil
  rw [hc.idx, hidx] at hB
  refine file_ok h' (hc.ok hok) n hi' _ fun w13 ad m13 had => ⟨_, rfl, ?_⟩
  intro w15 e15
  have m15 : Mod no w10 w15 := by subst e15; exact m13.trans (Mod.alloc _ _)
  have b15 : w15.heap[w13.heap.size]? = some (.cells #[] 5 (0, 0)) := by subst e15; exact new_at _ _
  clear e15
  have h15 := h'.no m15
  have hlen := h15.files.len
  have hi2 : i < x'.fs.length := by omega
  obtain ⟨g, hg, hcell⟩ := h15.all.getS hi2 (s := 2) rfl
  rw [had] at hg
  cases hg
  have hfr := h15.files.get i hi2 hil'
  have hfile : a.cntR.1.file i = a.cntR.1.all[i] := by rw [AS.file, List.getElem?_eq_getElem hil']; rfl
  rw [← hfile, hc.file] at hfr
  have hl1 := hfr.1.len
  have hkl : k.toNat ≤ (x'.fs[i]).nl := by
    have : a.len i = (a.file i).1.length := rfl
    omega
  refine ⟨_, _, _, hcell 0 _ rfl, by decide, by omega, by omega, ?_⟩
  rw [sl0]
  obtain ⟨p1, c1, w21, hrun, g1, g2, g3⟩ := app0 b15 ((Rd.of_els hfr.1).take hkl) (by omega)
  have e0 : k.toNat - 0 = k.toNat := Nat.sub_zero _
  refine ⟨_, w21, hrun, _, _, _, rfl, ?_⟩
  have sz10 := m13.size
  have m21 : Mod no w10 w21 := m15.new g2 fun k hk => by cases hk; exact sz10
  rw [Nat.zero_add]
  have n1 : ∀ k, rowB p1 k → w10.heap.size ≤ k := fun k hk => by
    have := m15.size
    rcases g3 k hk with h | h <;> omega
  refine putF_ok hG' mG h' hil' m21 had (j := 0) (by decide) (g := fun x => (x.1.take k.toNat, x.2)) (fun y hy => ⟨⟨p1, k.toNat, c1, y.sa, y.sl, y.sc⟩, rfl, by rw [hc.file]; exact g1, ?_, fun k hk => .inr hk, fun k hk => .inl (hy.2.2.2 k hk)⟩) (fun k hk => .inr (n1 k hk)) _ fun w32 hp => hB w32 hp
  rw [hc.file] at hy ⊢
  exact els_mod hy.2.1 m21 fun _ _ => id

theorem syncR_ok (h : RS w r G a x) (hok : a.Ok) (hal : a.all.length ≤ 1073741823) (hlf : a.left ≤ 9223372036854775807) (n : ByteArray) (hn : n.size < 4611686018427387904)
    (R : Value → World → Prop) (hR : ∀ w', RP r G w (a.sync n).1 w' → R (.int .i64 (a.sync n).2) w') : Ca Try.prog 59 #[.pointer (some ⟨r, 0, none⟩), .string n] w R := by
  refine ca59 _ n w R ?_
  have hrt : Rt w r G a := ⟨x, h⟩
  refine first_ok h hok n hn true _ fun w1 m1 => ⟨_, rfl, ?_⟩
  rw [first_known]
  refine ifNe (fun hk => ?_) (fun hk => ?_)
  · have hr : a.sync n = (a, a.known n) := by rw [AS.sync, if_neg hk]
    rw [hr] at hR
    exact hR w1 (RP.of_no hrt m1)
  obtain ⟨_, _, i, hi, hidx⟩ := AS.known0 hk
  have hil : i < a.all.length := hok.dirI _ (dget_some hi)
  have hr : a.sync n = a.counted fun a => a.upd (a.idx n) fun x => (x.1, x.1) := by rw [AS.sync, if_pos hk]
  rw [hr] at hR
  refine countedR (K := fun e w => R (.int .i64 e) w) m1 hR h hok (by omega) hlf (fun w' h => h) fun w10 hp hc hB => ?_
  obtain ⟨G', ⟨x', h'⟩, hG', mG⟩ := hp
  have hi' : dget a.cntR.1.dir n = some i := by rw [hc.dir]; exact hi
  have hil' : i < a.cntR.1.all.length := by rw [hc.all]; exact hil
  rw [hc.idx, hidx] at hB
  refine file_ok h' (hc.ok hok) n hi' _ fun w13 ad m13 had => ⟨_, rfl, ?_⟩
  have h13 := h'.no m13
  have hlen := h13.files.len
  have hi2 : i < x'.fs.length := by omega
  obtain ⟨g, hg, hcell⟩ := h13.all.getS hi2 (s := 2) rfl
  rw [had] at hg
  cases hg
  have hfr := h13.files.get i hi2 hil'
  have hfile : a.cntR.1.file i = a.cntR.1.all[i] := by rw [AS.file, List.getElem?_eq_getElem hil']; rfl
  rw [← hfile] at hfr
  refine ⟨_, _, _, hcell 0 _ rfl, ?_⟩
  refine putF_ok hG' mG h' hil' m13 had (j := 1) (by decide) (g := fun x => (x.1, x.1)) (fun y hy => ⟨⟨y.na, y.nl, y.nc, (x'.fs[i]).na, (x'.fs[i]).nl, (x'.fs[i]).nc⟩, rfl, els_mod hy.1 m13 fun _ _ => id, hfr.1, fun k hk => .inl (hy.2.2.1 k hk), fun k hk => .inr hk⟩) (fun k hk => .inl (hfr.2.2.1 k hk)) _ fun w32 hp => hB w32 hp

theorem RP.then {w1 w2 : World} {G' : Nat → Prop} {b : AS} (hG : ∀ k, G' k → G k ∨ w.heap.size ≤ k) (hm : Mod G w w1) (h : RP r G' w1 b w2) : RP r G w b w2 := by
  obtain ⟨G2, g1, g2, g3⟩ := h
  refine ⟨G2, g1, fun k hk => ?_, hm.trans' g3 fun k hk hg => ?_⟩
  · rcases g2 k hk with h | h
    · exact hG k h
    · exact .inr (Nat.le_trans hm.size h)
  · rcases hG k hg with h | h
    · exact h
    · omega

theorem dropR_ok (h : RS w r G a x) (hok : a.Ok) (hal : a.all.length ≤ 1073741823) (hlf : a.left ≤ 9223372036854775807) (n : ByteArray) (hn : n.size < 4611686018427387904)
    (R : Value → World → Prop) (hR : ∀ w', RP r G w (a.drop n).1 w' → R (.int .i64 (a.drop n).2) w') : Ca Try.prog 61 #[.pointer (some ⟨r, 0, none⟩), .string n] w R := by
  refine ca61 _ n w R ?_
  have hrt : Rt w r G a := ⟨x, h⟩
  refine first_ok h hok n hn true _ fun w1 m1 => ⟨_, rfl, ?_⟩
  rw [first_known]
  refine ifNe (fun hk => ?_) (fun hk => ?_)
  · have hr : a.drop n = (a, a.known n) := by rw [AS.drop, if_neg hk]
    rw [hr] at hR
    exact hR w1 (RP.of_no hrt m1)
  have hr : a.drop n = a.counted fun a => { a with dir := ddel n a.dir } := by rw [AS.drop, if_pos hk]
  rw [hr] at hR
  refine countedR (K := fun e w => R (.int .i64 e) w) m1 hR h hok (by omega) hlf (fun w' h => h) fun w10 hp hc hB => ?_
  obtain ⟨G', ⟨x', h'⟩, hG', mG⟩ := hp
  refine set_ok h' (hc.ok hok) n (-1) _ fun w33 hp => ⟨rfl, hB w33 (RP.then hG' mG ?_)⟩
  rw [setD, if_pos (by decide)] at hp
  exact hp

set_option maxRecDepth 100000 in
theorem commitR_ok (h : RS w r G a x) (hok : a.Ok) (hal : a.all.length ≤ 1073741823) (hlf : a.left ≤ 9223372036854775807)
    (R : Value → World → Prop) (hR : ∀ w', RP r G w a.commit.1 w' → R (.int .i64 a.commit.2) w') : Ca Try.prog 62 #[.pointer (some ⟨r, 0, none⟩)] w R := by
  refine ca62 _ w R ?_
  have hrt : Rt w r G a := ⟨x, h⟩
  refine ⟨a.dark, by rw [cl1 h.cell]; rfl, ?_⟩
  cases hd : a.dark with
  | true =>
    have hp : a.commit = (a, 9) := by rw [AS.commit, if_pos hd]
    rw [hp] at hR
    exact (ifK_of (fun _ => hR w (RP.refl hrt)) (fun h => by cases h) : ifK true _ _)
  | false =>
    refine (ifK_of (fun h => by cases h) (fun _ => ?_) : ifK false _ _)
    have hr : a.commit = a.counted fun a => { a with sure := a.dir } := by rw [AS.commit, if_neg (by rw [hd]; simp)]
    rw [hr] at hR
    refine countedR (K := fun e w => R (.int .i64 e) w) (Mod.refl _ _) hR h hok (by omega) hlf (fun w' h => h) fun w3 hp hc hB => ?_
    obtain ⟨G', ⟨x', h'⟩, hG', mG⟩ := hp
    intro w5 e5
    have m5 : Mod no w3 w5 := by subst e5; exact Mod.alloc _ _
    have b5 : w5.heap[w3.heap.size]? = some (.cells #[] 94 (0, 0)) := by subst e5; exact new_at _ _
    clear e5
    have h5 := h'.no m5
    have hdl := h5.dir.len
    have hdn := (hc.ok hok).dirN
    have r0 : Row entL 94 w5 (some ⟨w3.heap.size, 0, none⟩) 0 0 [] := Row.lit entL b5 [] rfl (Nat.zero_le _)
    obtain ⟨p, c, w6, hrun, g1, g2, g3⟩ := r0.push (P := Try.prog) (ty := 58) entsLaid (ys := a.cntR.1.dir) (m := x'.ld) (cc := x'.cd) hdl.1 h5.dir.all.1 h5.dir.all.2 (by omega)
    refine ⟨x'.pd, x'.ld, x'.cd, by rw [cl1 h5.cell]; rfl, _, w6, hrun, _, _, _, rfl, ?_⟩
    have m36 : Mod no w3 w6 := m5.new g2 fun k hk => by simp [rowB] at hk; omega
    have n6 : ∀ k, rowB p k → w3.heap.size ≤ k := fun k hk => by
      rcases g3 k hk with h | h
      · simp [rowB] at h; omega
      · exact Nat.le_trans m5.size h
    have h6 := h'.no m36
    obtain ⟨s1, s2, s3, s4⟩ := setFile h6.cell 3 (by simp) (.slice p (0 + x'.ld) c)
    refine ⟨s1, s2, fun w7 e7 => hB w7 (RP.then hG' mG ?_)⟩
    rw [← e7] at s3 s4
    clear e7
    simp only [List.nil_append] at g1
    have nt : ∀ e, e ≠ 60 → NoTy w6 (on r) e := fun e he => noTy_on h6.cell fun h => he h.symm
    exact ⟨fun k => G' k ∨ rowB p k, ⟨{ x' with ps := p, ls := 0 + x'.ld, cs := c }, ⟨s4, h6.all.noty s3 (nt _ (by decide)), h6.dir.noty s3 (nt _ (by decide)), g1.noty s3 (nt _ (by decide)),
      h6.files.imp fun _ _ q => (q.norow s3 (nt _ (by decide))).mono fun k hk => .inl hk, .inl h6.gr, fun k hk => .inl (h6.ga k hk), fun k hk => .inl (h6.gd k hk), fun k hk => .inr hk⟩⟩, fun k hk => hk.imp id (n6 k), m36.no_trans (s3.mono fun k _ hk => by cases hk; exact h'.gr)⟩

theorem moveR_ok (h : RS w r G a x) (hok : a.Ok) (hal : a.all.length ≤ 1073741823) (hlf : a.left ≤ 9223372036854775807) (n to : ByteArray) (hn : n.size < 4611686018427387904) (ht : to.size < 4611686018427387904)
    (R : Value → World → Prop) (hR : ∀ w', RP r G w (a.move n to).1 w' → R (.int .i64 (a.move n to).2) w') : Ca Try.prog 60 #[.pointer (some ⟨r, 0, none⟩), .string n, .string to] w R := by
  refine ca60 _ n to w R ?_
  have hrt : Rt w r G a := ⟨x, h⟩
  refine ⟨a.dark, by rw [cl1 h.cell]; rfl, ?_⟩
  cases hd : a.dark with
  | true =>
    have hp : a.move n to = (a, 9) := by rw [AS.move, if_pos hd]
    rw [hp] at hR
    exact (ifK_of (fun _ => hR w (RP.refl hrt)) (fun h => by cases h) : ifK true _ _)
  | false =>
  refine (ifK_of (fun h => by cases h) (fun _ => ?_) : ifK false _ _)
  refine goodR_ok n w hn _ ⟨_, rfl, ifK_not (fun hg => ?_) (fun hg => ?_)⟩
  · have hp : a.move n to = (a, 2) := by rw [AS.move, if_neg (by rw [hd]; simp), if_pos (.inl hg)]
    rw [hp] at hR
    exact hR w (RP.refl hrt)
  refine goodR_ok to w ht _ ⟨_, rfl, ifK_not (fun hg2 => ?_) (fun hg2 => ?_)⟩
  · have hp : a.move n to = (a, 2) := by rw [AS.move, if_neg (by rw [hd]; simp), if_pos (.inr hg2)]
    rw [hp] at hR
    exact hR w (RP.refl hrt)
  refine find_ok h hok n _ (fun hdn w2 m2 => ⟨_, rfl, ?_⟩) (fun j hj hdn w2 m2 => ⟨_, rfl, ?_⟩)
  · have hp : a.move n to = (a, 3) := by rw [AS.move, if_neg (by rw [hd]; simp), if_neg (by rw [hg, hg2]; simp), if_pos hdn]
    rw [hp] at hR
    exact (ifK_of (fun _ => hR w2 (RP.of_no hrt m2)) (fun h => by cases h) : ifK true _ _)
  refine ifK_dec (fun h => by omega) (fun _ => ?_)
  have hp : a.move n to = a.counted fun a => { a with dir := dset to (a.idx n) (ddel n a.dir) } := by rw [AS.move, if_neg (by rw [hd]; simp), if_neg (by rw [hg, hg2]; simp), if_neg (by rw [hdn]; simp)]
  rw [hp] at hR
  have hidx : a.idx n = a.dir[j].2 := by rw [AS.idx, hdn]; rfl
  refine countedR (K := fun e w => R (.int .i64 e) w) m2 hR h hok (by omega) hlf (fun w' h => h) fun w12 hp hc hB => ?_
  obtain ⟨G', ⟨x', h'⟩, hG', mG⟩ := hp
  have hok' := hc.ok hok
  intro w14 e14
  have m14 : Mod no w12 w14 := by subst e14; exact Mod.drew _
  clear e14
  have h14 := h'.no m14
  have hdn' : dget a.cntR.1.dir n = some a.dir[j].2 := by rw [hc.dir]; exact hdn
  refine ⟨x'.pd, x'.ld, x'.cd, by rw [cl1 h14.cell]; rfl, find_ok h14 hok' n _ (fun h0 => by rw [h0] at hdn'; cases hdn') (fun q hq hdq w20 m20 => ⟨_, rfl, ?_⟩)⟩
  rw [hdn'] at hdq
  injection hdq with hdq
  have h20 := h14.no m20
  have hdl := h20.dir.len.1
  obtain ⟨g, hg', hcell⟩ := h20.dir.getS hq (s := 2) rfl
  refine ⟨by rw [cl2 h20.cell]; rfl, _, hg', by omega, by omega, _, by rw [Int.toNat_natCast]; exact hcell 1 _ rfl, ?_⟩
  rw [← hdq]
  refine set_ok h20 hok' n (-1) _ fun w25 hp25 => ⟨rfl, ?_⟩
  rw [setD, if_pos (by decide)] at hp25
  have m20' := m14.trans m20
  have hp25 := hp25.pre m20'
  obtain ⟨G2, ⟨x2, h2⟩, hG2, mG2⟩ := hp25
  refine set_ok h2 (hok'.del n) to _ _ fun w27 hp27 => ⟨rfl, hB w27 (RP.then hG' mG (RP.then hG2 mG2 ?_))⟩
  rw [hc.idx, hidx]
  have he : setD to ((a.dir[j].2 : Nat) : Int) (ddel n a.cntR.1.dir) = dset to a.dir[j].2 (ddel n a.cntR.1.dir) := by rw [setD, if_neg (by omega), Int.toNat_natCast]
  simp only [he] at hp27
  exact hp27
end
end Go.Proofs.Ytemklabamlifdaa

/- The reference's Lend and Kept: bytes that are lent, and whether what lies about them was kept. -/
namespace Go.Proofs.Ytemklabamlifdaa
open Go Go.Proofs.Ytemklabamlifdaa.St

def lent (bs : Bs) : Bs := ([167, 59] ++ bs) ++ [94, 193]
set_option maxRecDepth 100000 in
theorem lend_ok {w : World} {ba : Option Addr} {bl bc : Nat} {bs : Bs} (hb : Rd w ba bl bc bs) (hn : bl ≤ 549755813888) (R : Value → World → Prop)
    (hR : ∀ w' p l c q d, Rd w' p l c (lent bs) → Rd w' q bl d bs → Mod no w w' → (∀ k, rowB p k → w.heap.size ≤ k) → (∀ k, rowB q k → w.heap.size ≤ k) → R (.tuple #[.slice p l c, .slice q bl d]) w') :
    Ca Try.prog 55 #[.slice ba bl bc] w R := by
  refine ca55 ba bl bc w R ?_
  have hbl := hb.len
  intro w0 e0
  have m0 : Mod no w w0 := by subst e0; exact Mod.alloc _ _
  have b0 : w0.heap[w.heap.size]? = some (.cells #[.int .u8 167, .int .u8 59] 5 (0, 0)) := by subst e0; exact new_at _ _
  clear e0
  have r0 : Els u8v 5 w0 (some ⟨w.heap.size, 0, none⟩) 2 2 [167, 59] := Els.lit u8one b0 [167, 59] rfl (by show 2 ≤ maxLen; decide)
  have hb0 := hb.no m0
  obtain ⟨p1, c1, w2, hrun, g1, g2, g3⟩ := r0.push (P := Try.prog) (ty := 24) u8one bytesLaid (ys := bs) (m := bl) (cc := bc) hb0.len hb0.all hb0.nil (by omega)
  have n1 : ∀ k, rowB p1 k → w.heap.size ≤ k := fun k hk => by
    rcases g3 k hk with h | h
    · simp [rowB] at h; omega
    · exact Nat.le_trans m0.size h
  have m2 : Mod no w w2 := m0.new g2 fun k hk => by simp [rowB] at hk; omega
  refine ⟨_, w2, hrun, _, _, _, rfl, fun w6 e6 => ?_⟩
  have m6 : Mod no w2 w6 := by subst e6; exact Mod.alloc _ _
  have b6 : w6.heap[w2.heap.size]? = some (.cells #[.int .u8 94, .int .u8 193] 5 (0, 0)) := by subst e6; exact new_at _ _
  clear e6
  have r6 : Els u8v 5 w6 p1 (2 + bl) c1 ([167, 59] ++ bs) := els_mod g1 m6 fun _ _ => id
  have a6 : Els u8v 5 w6 (some ⟨w2.heap.size, 0, none⟩) 2 2 [94, 193] := Els.lit u8one b6 [94, 193] rfl (by show 2 ≤ maxLen; decide)
  obtain ⟨p2, c2, w8, hrun2, k1, k2, k3⟩ := r6.push (P := Try.prog) (ty := 24) u8one bytesLaid (ys := [94, 193]) (m := 2) (cc := 2) rfl (Els.all u8one a6).1 (Els.all u8one a6).2 (by omega)
  have m26 := m2.trans m6
  have n2 : ∀ k, rowB p2 k → w.heap.size ≤ k := fun k hk => by
    rcases k3 k hk with h | h
    · exact n1 k h
    · exact Nat.le_trans m26.size h
  have m8 : Mod no w w8 := m26.new k2 n1
  refine ⟨_, w8, hrun2, _, _, _, rfl, fun w12 e12 => ?_⟩
  have m12 : Mod no w8 w12 := by subst e12; exact Mod.drew _
  clear e12
  have r12 : Els u8v 5 w12 p2 (2 + bl + 2) c2 (lent bs) := els_mod k1 m12 fun _ _ => id
  have hcap := r12.len
  have e1 : IntKind.i64.wrap (2 + (bl : Int)) = ((2 + bl : Nat) : Int) := by rw [wrap64 (by omega) (by omega)]; omega
  rw [e1]
  refine ⟨by decide, by omega, by omega, ?_⟩
  rw [if_neg (by omega : ¬ c2 = 2), Int.toNat_natCast, show 2 + bl - 2 = bl by omega]
  cases p2 with
  | none => have := (r12.all u8one).2 rfl; omega
  | some ad =>
    refine hR w12 _ _ _ _ _ (Rd.of_els r12) ⟨hbl, by omega, by omega, fun ad' had j v hj => ?_, fun h => by cases h⟩ (m8.trans m12) n2 (fun k hk => n2 k ?_)
    · cases had
      have h1 := (r12.all u8one).1 ad rfl (2 + j) v (by
        rw [lent, List.append_assoc, List.map_append, List.getElem?_append_right (by simp), List.map_append]
        have hlt : j < (bs.map u8v).length := by
          have := (List.getElem?_eq_some_iff.1 hj).1
          exact this
        have e : 2 + j - (List.map u8v [167, 59]).length = j := by simp
        rw [e, List.getElem?_append_left hlt]
        exact hj)
      rw [← h1]
      congr 1
      have : ∀ (ad : Addr), Addr.add (Addr.add ad 2) j = Addr.add ad (2 + j) := fun ad => by
        simp [Addr.add, Nat.add_assoc]
      exact this ad
    · simp only [rowB, Option.map_some, Option.some.injEq] at hk ⊢
      rw [block_add] at hk
      exact hk

theorem kept_ok {w : World} {p : Option Addr} {l c : Nat} {ws : Bs} {ba : Option Addr} {bl bc : Nat} {bs : Bs} (hw : Rd w p l c ws) (hb : Rd w ba bl bc bs) (hn : bl ≤ 549755813888) (R : Value → World → Prop) (hR : ∀ w', Mod no w w' → R (.bool (decide (ws = lent bs))) w') :
    Ca Try.prog 57 #[.slice p l c, .slice ba bl bc] w R := by
  refine ca57 p l c ba bl bc w R ?_
  refine lend_ok hb hn _ fun w1 p2 l2 c2 q d r1 r2 m1 _ _ => ⟨_, _, _, _, _, _, rfl, ?_⟩
  refine ⟨_, w1, str_ok (hw.no m1), _, rfl, _, w1, str_ok r1, _, rfl, ?_⟩
  rw [str_eq]
  exact hR w1 m1
end Go.Proofs.Ytemklabamlifdaa

/- The formulas of functions, printed by a program of mine (gen.py) out of the translation. -/
namespace Go.Proofs.Ytemklabamlifdaa
open Go Go.Proofs.Ytemklabamlifdaa.St
set_option maxRecDepth 100000

/-- staith/staithlaw11.lives -/
noncomputable def C12 : Code := (Try.f12.body).getD .skip
def pl12 : Nat → Plan := fun _ => .done
def ls12 : Nat → List (Nat × LT) := fun _ => []
def W12 (w : World) (R : Value → World → Prop) : Prop :=
  (Ca Try.prog (13) (Array.mk [Value.int IntKind.i64 100]) (w) (fun v0 => (fun w1 =>
    (∃ p2 : Option Addr, ((v0 = Value.pointer p2) ∧ (ifK (Option.isNone p2)
      (R (Value.bool false) (w1))
      (Ca Try.prog (14) (Array.mk [Value.pointer p2, Value.string (ByteArray.mk #[97])]) (w1) (fun v3 => (fun w4 =>
        (∃ x5 : Int, ((v3 = Value.int IntKind.i64 x5) ∧ (ifK (x5 != 0)
          (R (Value.bool false) (w4))
          (atW (World.alloc w4 (Obj.cells (Array.mk [Value.int IntKind.u8 120, Value.int IntKind.u8 121]) 5 (0, 0))) (fun w6 =>
            (∃ v7 : Value, (∃ w8 : World, ((Sem.run Try.prog (convert 24 24 (Value.slice (some (Addr.mk (Array.size (World.heap w4)) 0 none)) 2 2)) w6 = Result.ok v7 w8) ∧ (∃ p9 : Option Addr, (∃ n10 : Nat, (∃ n11 : Nat, ((v7 = Value.slice p9 n10 n11) ∧ (Ca Try.prog (15) (Array.mk [Value.pointer p2, Value.string (ByteArray.mk #[97]), Value.slice p9 n10 n11]) (w8) (fun v12 => (fun w13 =>
              (∃ x14 : Int, ((v12 = Value.int IntKind.i64 x14) ∧ (ifK (x14 != 0)
                (R (Value.bool false) (w13))
                (Ca Try.prog (16) (Array.mk [Value.pointer p2, Value.string (ByteArray.mk #[97])]) (w13) (fun v15 => (fun w16 =>
                  (∃ x17 : Int, ((v15 = Value.int IntKind.i64 x17) ∧ (ifK (x17 != 0)
                    (R (Value.bool false) (w16))
                    (Ca Try.prog (18) (Array.mk [Value.pointer p2, Value.int IntKind.i64 0]) (w16) (fun v18 => (fun w19 =>
                      ((v18 = Value.tuple (Array.mk (List.reverse []))) ∧ (Ca Try.prog (19) (Array.mk [Value.pointer p2]) (w19) (fun v20 => (fun w21 =>
                        ((v20 = Value.tuple (Array.mk (List.reverse []))) ∧ (Ca Try.prog (23) (Array.mk [Value.pointer p2]) (w21) (fun v22 => (fun w23 =>
                          (∃ p24 : Option Addr, (∃ n25 : Nat, (∃ n26 : Nat, ((v22 = Value.slice p24 n25 n26) ∧ (ifK ((↑n25 : Int) != 0)
                            (R (Value.bool false) (w23))
                            (Ca Try.prog (14) (Array.mk [Value.pointer p2, Value.string (ByteArray.mk #[97])]) (w23) (fun v27 => (fun w28 =>
                              (∃ x29 : Int, ((v27 = Value.int IntKind.i64 x29) ∧ (ifK (x29 != 0)
                                (R (Value.bool false) (w28))
                                (atW (World.alloc w28 (Obj.cells (Array.mk [Value.int IntKind.u8 120, Value.int IntKind.u8 121]) 5 (0, 0))) (fun w30 =>
                                  (∃ v31 : Value, (∃ w32 : World, ((Sem.run Try.prog (convert 24 24 (Value.slice (some (Addr.mk (Array.size (World.heap w28)) 0 none)) 2 2)) w30 = Result.ok v31 w32) ∧ (∃ p33 : Option Addr, (∃ n34 : Nat, (∃ n35 : Nat, ((v31 = Value.slice p33 n34 n35) ∧ (Ca Try.prog (15) (Array.mk [Value.pointer p2, Value.string (ByteArray.mk #[97]), Value.slice p33 n34 n35]) (w32) (fun v36 => (fun w37 =>
                                    (∃ x38 : Int, ((v36 = Value.int IntKind.i64 x38) ∧ (ifK (x38 != 0)
                                      (R (Value.bool false) (w37))
                                      (Ca Try.prog (16) (Array.mk [Value.pointer p2, Value.string (ByteArray.mk #[97])]) (w37) (fun v39 => (fun w40 =>
                                        (∃ x41 : Int, ((v39 = Value.int IntKind.i64 x41) ∧ (ifK (x41 != 0)
                                          (R (Value.bool false) (w40))
                                          (Ca Try.prog (17) (Array.mk [Value.pointer p2]) (w40) (fun v42 => (fun w43 =>
                                            (∃ x44 : Int, ((v42 = Value.int IntKind.i64 x44) ∧ (ifK (x44 != 0)
                                              (R (Value.bool false) (w43))
                                              (atW (World.alloc w43 (Obj.cells (Array.mk [Value.int IntKind.u8 122, Value.int IntKind.u8 122]) 5 (0, 0))) (fun w45 =>
                                                (∃ v46 : Value, (∃ w47 : World, ((Sem.run Try.prog (convert 24 24 (Value.slice (some (Addr.mk (Array.size (World.heap w43)) 0 none)) 2 2)) w45 = Result.ok v46 w47) ∧ (∃ p48 : Option Addr, (∃ n49 : Nat, (∃ n50 : Nat, ((v46 = Value.slice p48 n49 n50) ∧ (Ca Try.prog (15) (Array.mk [Value.pointer p2, Value.string (ByteArray.mk #[97]), Value.slice p48 n49 n50]) (w47) (fun v51 => (fun w52 =>
                                                  (∃ x53 : Int, ((v51 = Value.int IntKind.i64 x53) ∧ (ifK (x53 != 0)
                                                    (R (Value.bool false) (w52))
                                                    (Ca Try.prog (18) (Array.mk [Value.pointer p2, Value.int IntKind.i64 1]) (w52) (fun v54 => (fun w55 =>
                                                      ((v54 = Value.tuple (Array.mk (List.reverse []))) ∧ (Ca Try.prog (26) (Array.mk [Value.pointer p2]) (w55) (fun v56 => (fun w57 =>
                                                        (∃ b58 : Bool, ((v56 = Value.bool b58) ∧ (ifK (b58)
                                                          (R (Value.bool false) (w57))
                                                          (Ca Try.prog (14) (Array.mk [Value.pointer p2, Value.string (ByteArray.mk #[98])]) (w57) (fun v59 => (fun w60 =>
                                                            (∃ x61 : Int, ((v59 = Value.int IntKind.i64 x61) ∧ (ifK (x61 != 9)
                                                              (R (Value.bool false) (w60))
                                                              (Ca Try.prog (19) (Array.mk [Value.pointer p2]) (w60) (fun v62 => (fun w63 =>
                                                                ((v62 = Value.tuple (Array.mk (List.reverse []))) ∧ (Ca Try.prog (20) (Array.mk [Value.pointer p2, Value.string (ByteArray.mk #[97])]) (w63) (fun v64 => (fun w65 =>
                                                                  (∃ p66 : Option Addr, (∃ n67 : Nat, (∃ n68 : Nat, (∃ x69 : Int, ((v64 = Value.tuple (Array.mk (List.reverse [Value.int IntKind.i64 x69, Value.slice p66 n67 n68]))) ∧ (ifK (x69 == 0)
                                                                    (∃ v70 : Value, (∃ w71 : World, ((Sem.run Try.prog (convert 24 9 (Value.slice p66 n67 n68)) w65 = Result.ok v70 w71) ∧ (∃ s72 : ByteArray, ((v70 = Value.string s72) ∧ (ifK (ByteArray.toList s72 == ByteArray.toList (ByteArray.mk #[120, 121, 122]))
                                                                      (Ca Try.prog (28) (Array.mk [Value.pointer p2]) (w71) (fun v73 => (fun w74 =>
                                                                        (∃ x75 : Int, ((v73 = Value.int IntKind.i64 x75) ∧ (R (Value.bool (x75 == 19)) (w74)))))))
                                                                      (R (Value.bool false) (w71))))))))
                                                                    (R (Value.bool false) (w65))))))))))))))))))))))))))))))))))))))))))))))))))))))))))))))))))))))))))))))))))))))))))))))))))))))))))))))))))))))))))))))))
theorem ca12 (w : World) (R : Value → World → Prop) (h : W12  w R) : Ca Try.prog 12 ⟨[]⟩ w R := by
  have h1 : Try.prog.follows .mixedOrders = true := by kernel_rfl
  have h2 : Try.f12.body = some C12 := by kernel_rfl
  have h3 : (Try.f12.name == "runtime.NumGoroutine") = false := by kernel_rfl
  have h6 : Try.f12.results.toList = [.tmp 0] := by kernel_rfl
  have h4 : Nat.ble 0 89 = true := by kernel_rfl
  have h5 : okCode 89 pl12 ls12 C12 0 = true := by kernel_rfl
  have e : W12  w R = wpC none Try.prog 89 pl12 ls12 C12 0 (endP Try.prog [.tmp 0] R) (fr0 []) [] w := by kernel_rfl
  exact ca_of' (P := Try.prog) (g := 12) (fn := Try.f12) (c := C12) (m := 89) (rs := [.tmp 0]) (args := []) (pl := pl12) (ls := ls12) (w := w) (R := R) h1 Try.func12 h2 Try.ntmps12 h6 h3 h4 h5 (Eq.mp e h)

/-- staith/staithlaw11.StoreNames -/
noncomputable def C3 : Code := (Try.f3.body).getD .skip
def pl3 : Nat → Plan := fun _ => .done
def ls3 : Nat → List (Nat × LT) := fun _ => []
def W3 (name : ByteArray) (w : World) (R : Value → World → Prop) : Prop :=
  (ifK (decide ((↑(ByteArray.size name) : Int) > 1000))
    (R (Value.bool true) (w))
    (Ca Try.prog (10) (Array.mk [Value.string name]) (w) (fun v0 => (fun w1 =>
      (∃ b2 : Bool, ((v0 = Value.bool b2) ∧ (Ca Try.prog (11) (Array.mk [Value.string name]) (w1) (fun v3 => (fun w4 =>
        (∃ b5 : Bool, ((v3 = Value.bool b5) ∧ (ifK (b2 == b5)
          (Ca Try.prog (12) (Array.mk []) (w4) (fun v6 => (fun w7 =>
            (∃ b8 : Bool, ((v6 = Value.bool b8) ∧ (R (Value.bool b8) (w7)))))))
          (R (Value.bool false) (w4))))))))))))))
theorem ca3 (name : ByteArray) (w : World) (R : Value → World → Prop) (h : W3 name w R) : Ca Try.prog 3 ⟨[(.string name)]⟩ w R := by
  have h1 : Try.prog.follows .mixedOrders = true := by kernel_rfl
  have h2 : Try.f3.body = some C3 := by kernel_rfl
  have h3 : (Try.f3.name == "runtime.NumGoroutine") = false := by kernel_rfl
  have h6 : Try.f3.results.toList = [.tmp 2] := by kernel_rfl
  have h4 : Nat.ble 1 16 = true := by kernel_rfl
  have h5 : okCode 16 pl3 ls3 C3 0 = true := by kernel_rfl
  have e : W3 name w R = wpC none Try.prog 16 pl3 ls3 C3 0 (endP Try.prog [.tmp 2] R) (fr0 [(.string name)]) [] w := by kernel_rfl
  exact ca_of' (P := Try.prog) (g := 3) (fn := Try.f3) (c := C3) (m := 16) (rs := [.tmp 2]) (args := [(.string name)]) (pl := pl3) (ls := ls3) (w := w) (R := R) h1 Try.func3 h2 Try.ntmps3 h6 h3 h4 h5 (Eq.mp e h)

/-- staith/staithlaw11.StoreKeeps -/
noncomputable def C4 : Code := (Try.f4.body).getD .skip
def pl4 : Nat → Plan
  | 14 => (.quiet 0 (.quiet 1 (.quiet 2 (.quiet 3 (.quiet 5 (.quiet 7 (.quiet 8 (.quiet 9 (.eff 4 [] (.eff 6 [] (.eff 10 [] (.eff 11 [] (.quiet 12 (.quiet 13 (.quiet 14 (.fork (.eff 15 [] (.eff 16 [] (.eff 17 [] (.quiet 18 (.quiet 19 (.eff 20 [] (.quiet 21 (.quiet 22 .done)))))))) (.eff 16 [] (.eff 15 [] (.eff 17 [] (.quiet 18 (.quiet 19 (.eff 20 [] (.quiet 21 (.quiet 22 .done))))))))))))))))))))))))
  | _ => .done
def ls4 : Nat → List (Nat × LT) := fun _ => []
def W4 (firsta : Option Addr) (firstl : Nat) (firstc : Nat) (morea : Option Addr) (morel : Nat) (morec : Nat) (keep : Int) (w : World) (R : Value → World → Prop) : Prop :=
  (ifK (decide (IntKind.wrap IntKind.i64 ((↑firstl : Int) + (↑morel : Int)) > 5000))
    (Ca Try.prog (12) (Array.mk []) (w) (fun v0 => (fun w1 =>
      (∃ b2 : Bool, ((v0 = Value.bool b2) ∧ (R (Value.bool b2) (w1)))))))
    (Ca Try.prog (13) (Array.mk [Value.int IntKind.i64 100000]) (w) (fun v3 => (fun w4 =>
      (∃ p5 : Option Addr, ((v3 = Value.pointer p5) ∧ (ifK (Option.isNone p5)
        (R (Value.bool false) (w4))
        (Ca Try.prog (14) (Array.mk [Value.pointer p5, Value.string (ByteArray.mk #[97])]) (w4) (fun v6 => (fun w7 =>
          (∃ x8 : Int, ((v6 = Value.int IntKind.i64 x8) ∧ (ifK (x8 != 0)
            (R (Value.bool false) (w7))
            (Ca Try.prog (15) (Array.mk [Value.pointer p5, Value.string (ByteArray.mk #[97]), Value.slice firsta firstl firstc]) (w7) (fun v9 => (fun w10 =>
              (∃ x11 : Int, ((v9 = Value.int IntKind.i64 x11) ∧ (ifK (x11 != 0)
                (R (Value.bool false) (w10))
                (Ca Try.prog (16) (Array.mk [Value.pointer p5, Value.string (ByteArray.mk #[97])]) (w10) (fun v12 => (fun w13 =>
                  (∃ x14 : Int, ((v12 = Value.int IntKind.i64 x14) ∧ (ifK (x14 != 0)
                    (R (Value.bool false) (w13))
                    (Ca Try.prog (17) (Array.mk [Value.pointer p5]) (w13) (fun v15 => (fun w16 =>
                      (∃ x17 : Int, ((v15 = Value.int IntKind.i64 x17) ∧ (ifK (x17 != 0)
                        (R (Value.bool false) (w16))
                        (Ca Try.prog (15) (Array.mk [Value.pointer p5, Value.string (ByteArray.mk #[97]), Value.slice morea morel morec]) (w16) (fun v18 => (fun w19 =>
                          (∃ x20 : Int, ((v18 = Value.int IntKind.i64 x20) ∧ (ifK (x20 != 0)
                            (R (Value.bool false) (w19))
                            (Ca Try.prog (14) (Array.mk [Value.pointer p5, Value.string (ByteArray.mk #[98])]) (w19) (fun v21 => (fun w22 =>
                              (∃ x23 : Int, ((v21 = Value.int IntKind.i64 x23) ∧ (ifK (x23 != 0)
                                (R (Value.bool false) (w22))
                                (Ca Try.prog (16) (Array.mk [Value.pointer p5, Value.string (ByteArray.mk #[98])]) (w22) (fun v24 => (fun w25 =>
                                  (∃ x26 : Int, ((v24 = Value.int IntKind.i64 x26) ∧ (ifK (x26 != 0)
                                    (R (Value.bool false) (w25))
                                    (Ca Try.prog (18) (Array.mk [Value.pointer p5, Value.int IntKind.i64 keep]) (w25) (fun v27 => (fun w28 =>
                                      ((v27 = Value.tuple (Array.mk (List.reverse []))) ∧ (Ca Try.prog (19) (Array.mk [Value.pointer p5]) (w28) (fun v29 => (fun w30 =>
                                        ((v29 = Value.tuple (Array.mk (List.reverse []))) ∧ (Ca Try.prog (20) (Array.mk [Value.pointer p5, Value.string (ByteArray.mk #[97])]) (w30) (fun v31 => (fun w32 =>
                                          (∃ p33 : Option Addr, (∃ n34 : Nat, (∃ n35 : Nat, (∃ x36 : Int, ((v31 = Value.tuple (Array.mk (List.reverse [Value.int IntKind.i64 x36, Value.slice p33 n34 n35]))) ∧ (ifK (decide (keep < 0))
                                            (atW (World.drew w32) (fun w37 =>
                                              (ifK (x36 == 0)
                                                (((0 : Int) ≤ 0) ∧ (((0 : Int) ≤ 0) ∧ (((0 : Int) ≤ (↑morec : Int)) ∧ (atW (World.alloc w37 (Obj.cells (Array.mk []) 5 (0, 0))) (fun w38 =>
                                                  (∃ v39 : Value, (∃ w40 : World, ((Sem.run Try.prog (Builtin.append_ (Array.mk [24, 24]) 24 (Array.mk [Value.slice (some (Addr.mk (Array.size (World.heap w37)) 0 none)) 0 0, Value.slice firsta firstl firstc])) w38 = Result.ok v39 w40) ∧ (∃ p41 : Option Addr, (∃ n42 : Nat, (∃ n43 : Nat, ((v39 = Value.slice p41 n42 n43) ∧ (∃ v44 : Value, (∃ w45 : World, ((Sem.run Try.prog (Builtin.append_ (Array.mk [24, 24]) 24 (Array.mk [Value.slice p41 n42 n43, Value.slice (if morec = 0 then morea else Option.map (fun x => Addr.add x 0) morea) 0 (morec - 0)])) w40 = Result.ok v44 w45) ∧ (∃ p46 : Option Addr, (∃ n47 : Nat, (∃ n48 : Nat, ((v44 = Value.slice p46 n47 n48) ∧ (Ca Try.prog (21) (Array.mk [Value.slice p33 n34 n35, Value.slice p46 n47 n48]) (w45) (fun v49 => (fun w50 =>
                                                    (∃ b51 : Bool, ((v49 = Value.bool b51) ∧ (ifK (b51)
                                                      ((Ca Try.prog (23) (Array.mk [Value.pointer p5]) (w50) (fun v52 => (fun w53 =>
                                                        (∃ p54 : Option Addr, (∃ n55 : Nat, (∃ n56 : Nat, ((v52 = Value.slice p54 n55 n56) ∧ (atW (World.alloc w53 (Obj.cells (Array.mk [Value.string (ByteArray.mk #[97])]) 9 (0, 0))) (fun w57 =>
                                                          (Ca Try.prog (22) (Array.mk [Value.slice p54 n55 n56, Value.slice (some (Addr.mk (Array.size (World.heap w53)) 0 none)) 1 1]) (w57) (fun v58 => (fun w59 =>
                                                            (∃ b60 : Bool, ((v58 = Value.bool b60) ∧ (ifK (b60)
                                                              (Ca Try.prog (12) (Array.mk []) (w59) (fun v61 => (fun w62 =>
                                                                (∃ b63 : Bool, ((v61 = Value.bool b63) ∧ (R (Value.bool b63) (w62)))))))
                                                              (R (Value.bool false) (w59))))))))))))))))) ∧ (atW (World.alloc w50 (Obj.cells (Array.mk [Value.string (ByteArray.mk #[97])]) 9 (0, 0))) (fun w64 =>
                                                        (Ca Try.prog (23) (Array.mk [Value.pointer p5]) (w64) (fun v65 => (fun w66 =>
                                                          (∃ p67 : Option Addr, (∃ n68 : Nat, (∃ n69 : Nat, ((v65 = Value.slice p67 n68 n69) ∧ (Ca Try.prog (22) (Array.mk [Value.slice p67 n68 n69, Value.slice (some (Addr.mk (Array.size (World.heap w50)) 0 none)) 1 1]) (w66) (fun v70 => (fun w71 =>
                                                            (∃ b72 : Bool, ((v70 = Value.bool b72) ∧ (ifK (b72)
                                                              (Ca Try.prog (12) (Array.mk []) (w71) (fun v73 => (fun w74 =>
                                                                (∃ b75 : Bool, ((v73 = Value.bool b75) ∧ (R (Value.bool b75) (w74)))))))
                                                              (R (Value.bool false) (w71))))))))))))))))))
                                                      ((R (Value.bool false) (w50)) ∧ (R (Value.bool false) (w50))))))))))))))))))))))))))))
                                                ((R (Value.bool false) (w37)) ∧ (R (Value.bool false) (w37))))))
                                            (ifK (decide (keep > (↑morel : Int)))
                                              (atW (World.drew w32) (fun w76 =>
                                                (ifK (x36 == 0)
                                                  (((0 : Int) ≤ 0) ∧ (((0 : Int) ≤ (↑morel : Int)) ∧ ((((↑morel : Int) : Int) ≤ (↑morec : Int)) ∧ (atW (World.alloc w76 (Obj.cells (Array.mk []) 5 (0, 0))) (fun w77 =>
                                                    (∃ v78 : Value, (∃ w79 : World, ((Sem.run Try.prog (Builtin.append_ (Array.mk [24, 24]) 24 (Array.mk [Value.slice (some (Addr.mk (Array.size (World.heap w76)) 0 none)) 0 0, Value.slice firsta firstl firstc])) w77 = Result.ok v78 w79) ∧ (∃ p80 : Option Addr, (∃ n81 : Nat, (∃ n82 : Nat, ((v78 = Value.slice p80 n81 n82) ∧ (∃ v83 : Value, (∃ w84 : World, ((Sem.run Try.prog (Builtin.append_ (Array.mk [24, 24]) 24 (Array.mk [Value.slice p80 n81 n82, Value.slice (if morec = 0 then morea else Option.map (fun x => Addr.add x 0) morea) (Int.toNat (↑morel : Int) - 0) (morec - 0)])) w79 = Result.ok v83 w84) ∧ (∃ p85 : Option Addr, (∃ n86 : Nat, (∃ n87 : Nat, ((v83 = Value.slice p85 n86 n87) ∧ (Ca Try.prog (21) (Array.mk [Value.slice p33 n34 n35, Value.slice p85 n86 n87]) (w84) (fun v88 => (fun w89 =>
                                                      (∃ b90 : Bool, ((v88 = Value.bool b90) ∧ (ifK (b90)
                                                        ((Ca Try.prog (23) (Array.mk [Value.pointer p5]) (w89) (fun v91 => (fun w92 =>
                                                          (∃ p93 : Option Addr, (∃ n94 : Nat, (∃ n95 : Nat, ((v91 = Value.slice p93 n94 n95) ∧ (atW (World.alloc w92 (Obj.cells (Array.mk [Value.string (ByteArray.mk #[97])]) 9 (0, 0))) (fun w96 =>
                                                            (Ca Try.prog (22) (Array.mk [Value.slice p93 n94 n95, Value.slice (some (Addr.mk (Array.size (World.heap w92)) 0 none)) 1 1]) (w96) (fun v97 => (fun w98 =>
                                                              (∃ b99 : Bool, ((v97 = Value.bool b99) ∧ (ifK (b99)
                                                                (Ca Try.prog (12) (Array.mk []) (w98) (fun v100 => (fun w101 =>
                                                                  (∃ b102 : Bool, ((v100 = Value.bool b102) ∧ (R (Value.bool b102) (w101)))))))
                                                                (R (Value.bool false) (w98))))))))))))))))) ∧ (atW (World.alloc w89 (Obj.cells (Array.mk [Value.string (ByteArray.mk #[97])]) 9 (0, 0))) (fun w103 =>
                                                          (Ca Try.prog (23) (Array.mk [Value.pointer p5]) (w103) (fun v104 => (fun w105 =>
                                                            (∃ p106 : Option Addr, (∃ n107 : Nat, (∃ n108 : Nat, ((v104 = Value.slice p106 n107 n108) ∧ (Ca Try.prog (22) (Array.mk [Value.slice p106 n107 n108, Value.slice (some (Addr.mk (Array.size (World.heap w89)) 0 none)) 1 1]) (w105) (fun v109 => (fun w110 =>
                                                              (∃ b111 : Bool, ((v109 = Value.bool b111) ∧ (ifK (b111)
                                                                (Ca Try.prog (12) (Array.mk []) (w110) (fun v112 => (fun w113 =>
                                                                  (∃ b114 : Bool, ((v112 = Value.bool b114) ∧ (R (Value.bool b114) (w113)))))))
                                                                (R (Value.bool false) (w110))))))))))))))))))
                                                        ((R (Value.bool false) (w89)) ∧ (R (Value.bool false) (w89))))))))))))))))))))))))))))
                                                  ((R (Value.bool false) (w76)) ∧ (R (Value.bool false) (w76))))))
                                              (atW (World.drew w32) (fun w115 =>
                                                (ifK (x36 == 0)
                                                  (((0 : Int) ≤ 0) ∧ (((0 : Int) ≤ keep) ∧ (((keep : Int) ≤ (↑morec : Int)) ∧ (atW (World.alloc w115 (Obj.cells (Array.mk []) 5 (0, 0))) (fun w116 =>
                                                    (∃ v117 : Value, (∃ w118 : World, ((Sem.run Try.prog (Builtin.append_ (Array.mk [24, 24]) 24 (Array.mk [Value.slice (some (Addr.mk (Array.size (World.heap w115)) 0 none)) 0 0, Value.slice firsta firstl firstc])) w116 = Result.ok v117 w118) ∧ (∃ p119 : Option Addr, (∃ n120 : Nat, (∃ n121 : Nat, ((v117 = Value.slice p119 n120 n121) ∧ (∃ v122 : Value, (∃ w123 : World, ((Sem.run Try.prog (Builtin.append_ (Array.mk [24, 24]) 24 (Array.mk [Value.slice p119 n120 n121, Value.slice (if morec = 0 then morea else Option.map (fun x => Addr.add x 0) morea) (Int.toNat keep - 0) (morec - 0)])) w118 = Result.ok v122 w123) ∧ (∃ p124 : Option Addr, (∃ n125 : Nat, (∃ n126 : Nat, ((v122 = Value.slice p124 n125 n126) ∧ (Ca Try.prog (21) (Array.mk [Value.slice p33 n34 n35, Value.slice p124 n125 n126]) (w123) (fun v127 => (fun w128 =>
                                                      (∃ b129 : Bool, ((v127 = Value.bool b129) ∧ (ifK (b129)
                                                        ((Ca Try.prog (23) (Array.mk [Value.pointer p5]) (w128) (fun v130 => (fun w131 =>
                                                          (∃ p132 : Option Addr, (∃ n133 : Nat, (∃ n134 : Nat, ((v130 = Value.slice p132 n133 n134) ∧ (atW (World.alloc w131 (Obj.cells (Array.mk [Value.string (ByteArray.mk #[97])]) 9 (0, 0))) (fun w135 =>
                                                            (Ca Try.prog (22) (Array.mk [Value.slice p132 n133 n134, Value.slice (some (Addr.mk (Array.size (World.heap w131)) 0 none)) 1 1]) (w135) (fun v136 => (fun w137 =>
                                                              (∃ b138 : Bool, ((v136 = Value.bool b138) ∧ (ifK (b138)
                                                                (Ca Try.prog (12) (Array.mk []) (w137) (fun v139 => (fun w140 =>
                                                                  (∃ b141 : Bool, ((v139 = Value.bool b141) ∧ (R (Value.bool b141) (w140)))))))
                                                                (R (Value.bool false) (w137))))))))))))))))) ∧ (atW (World.alloc w128 (Obj.cells (Array.mk [Value.string (ByteArray.mk #[97])]) 9 (0, 0))) (fun w142 =>
                                                          (Ca Try.prog (23) (Array.mk [Value.pointer p5]) (w142) (fun v143 => (fun w144 =>
                                                            (∃ p145 : Option Addr, (∃ n146 : Nat, (∃ n147 : Nat, ((v143 = Value.slice p145 n146 n147) ∧ (Ca Try.prog (22) (Array.mk [Value.slice p145 n146 n147, Value.slice (some (Addr.mk (Array.size (World.heap w128)) 0 none)) 1 1]) (w144) (fun v148 => (fun w149 =>
                                                              (∃ b150 : Bool, ((v148 = Value.bool b150) ∧ (ifK (b150)
                                                                (Ca Try.prog (12) (Array.mk []) (w149) (fun v151 => (fun w152 =>
                                                                  (∃ b153 : Bool, ((v151 = Value.bool b153) ∧ (R (Value.bool b153) (w152)))))))
                                                                (R (Value.bool false) (w149))))))))))))))))))
                                                        ((R (Value.bool false) (w128)) ∧ (R (Value.bool false) (w128))))))))))))))))))))))))))))
                                                  ((R (Value.bool false) (w115)) ∧ (R (Value.bool false) (w115)))))))))))))))))))))))))))))))))))))))))))))))))))))))))))))))))))))))))
theorem ca4 (firsta : Option Addr) (firstl : Nat) (firstc : Nat) (morea : Option Addr) (morel : Nat) (morec : Nat) (keep : Int) (w : World) (R : Value → World → Prop) (h : W4 firsta firstl firstc morea morel morec keep w R) : Ca Try.prog 4 ⟨[(.slice firsta firstl firstc), (.slice morea morel morec), (.int .i64 keep)]⟩ w R := by
  have h1 : Try.prog.follows .mixedOrders = true := by kernel_rfl
  have h2 : Try.f4.body = some C4 := by kernel_rfl
  have h3 : (Try.f4.name == "runtime.NumGoroutine") = false := by kernel_rfl
  have h6 : Try.f4.results.toList = [.tmp 6] := by kernel_rfl
  have h4 : Nat.ble 3 99 = true := by kernel_rfl
  have h5 : okCode 99 pl4 ls4 C4 0 = true := by kernel_rfl
  have e : W4 firsta firstl firstc morea morel morec keep w R = wpC none Try.prog 99 pl4 ls4 C4 0 (endP Try.prog [.tmp 6] R) (fr0 [(.slice firsta firstl firstc), (.slice morea morel morec), (.int .i64 keep)]) [] w := by kernel_rfl
  exact ca_of' (P := Try.prog) (g := 4) (fn := Try.f4) (c := C4) (m := 99) (rs := [.tmp 6]) (args := [(.slice firsta firstl firstc), (.slice morea morel morec), (.int .i64 keep)]) (pl := pl4) (ls := ls4) (w := w) (R := R) h1 Try.func4 h2 Try.ntmps4 h6 h3 h4 h5 (Eq.mp e h)

/-- staith/staithlaw11.StoreTurns -/
noncomputable def C5 : Code := (Try.f5.body).getD .skip
def pl5 : Nat → Plan := fun _ => .done
def ls5 : Nat → List (Nat × LT) := fun _ => []
def W5 (olda : Option Addr) (oldl : Nat) (oldc : Nat) (fresha : Option Addr) (freshl : Nat) (freshc : Nat) (x0_ : Int) (x1_ : Int) (w : World) (R : Value → World → Prop) : Prop :=
  (atW (World.alloc w (Obj.cells (Array.mk [Value.int IntKind.u64 x0_, Value.int IntKind.i64 x1_]) 41 (0, 0))) (fun w0 =>
    (ifK (decide (IntKind.wrap IntKind.i64 ((↑oldl : Int) + (↑freshl : Int)) > 5000))
      (Ca Try.prog (12) (Array.mk []) (w0) (fun v1 => (fun w2 =>
        (∃ b3 : Bool, ((v1 = Value.bool b3) ∧ (R (Value.bool b3) (w2)))))))
      (Ca Try.prog (13) (Array.mk [Value.int IntKind.i64 100000]) (w0) (fun v4 => (fun w5 =>
        (∃ p6 : Option Addr, ((v4 = Value.pointer p6) ∧ (ifK (Option.isNone p6)
          (R (Value.bool false) (w5))
          (Ca Try.prog (14) (Array.mk [Value.pointer p6, Value.string (ByteArray.mk #[97])]) (w5) (fun v7 => (fun w8 =>
            (∃ x9 : Int, ((v7 = Value.int IntKind.i64 x9) ∧ (ifK (x9 != 0)
              (R (Value.bool false) (w8))
              (Ca Try.prog (15) (Array.mk [Value.pointer p6, Value.string (ByteArray.mk #[97]), Value.slice olda oldl oldc]) (w8) (fun v10 => (fun w11 =>
                (∃ x12 : Int, ((v10 = Value.int IntKind.i64 x12) ∧ (ifK (x12 != 0)
                  (R (Value.bool false) (w11))
                  (Ca Try.prog (16) (Array.mk [Value.pointer p6, Value.string (ByteArray.mk #[97])]) (w11) (fun v13 => (fun w14 =>
                    (∃ x15 : Int, ((v13 = Value.int IntKind.i64 x15) ∧ (ifK (x15 != 0)
                      (R (Value.bool false) (w14))
                      (Ca Try.prog (17) (Array.mk [Value.pointer p6]) (w14) (fun v16 => (fun w17 =>
                        (∃ x18 : Int, ((v16 = Value.int IntKind.i64 x18) ∧ (ifK (x18 != 0)
                          (R (Value.bool false) (w17))
                          (∃ x19 : Int, ((World.cell? w17 (Addr.add (Addr.mk (Array.size (World.heap w)) 0 none) 0) = some (Value.int IntKind.u64 x19)) ∧ (((7 : Int) ≠ 0) ∧ (∃ x20 : Int, ((World.cell? w17 (Addr.add (Addr.mk (Array.size (World.heap w)) 0 none) 1) = some (Value.int IntKind.i64 x20)) ∧ (Ca Try.prog (24) (Array.mk [Value.pointer p6, Value.int IntKind.i64 (IntKind.wrap IntKind.i64 (Int.tmod x19 7)), Value.int IntKind.i64 x20]) (w17) (fun v21 => (fun w22 =>
                            (∃ x23 : Int, ((v21 = Value.int IntKind.i64 x23) ∧ (ifK (x23 != 0)
                              (R (Value.bool false) (w22))
                              (Ca Try.prog (14) (Array.mk [Value.pointer p6, Value.string (ByteArray.mk #[98])]) (w22) (fun v24 => (fun w25 =>
                                (∃ x26 : Int, ((v24 = Value.int IntKind.i64 x26) ∧ (Ca Try.prog (15) (Array.mk [Value.pointer p6, Value.string (ByteArray.mk #[98]), Value.slice fresha freshl freshc]) (w25) (fun v27 => (fun w28 =>
                                  (∃ x29 : Int, ((v27 = Value.int IntKind.i64 x29) ∧ (Ca Try.prog (16) (Array.mk [Value.pointer p6, Value.string (ByteArray.mk #[98])]) (w28) (fun v30 => (fun w31 =>
                                    (∃ x32 : Int, ((v30 = Value.int IntKind.i64 x32) ∧ (Ca Try.prog (25) (Array.mk [Value.pointer p6, Value.string (ByteArray.mk #[98]), Value.string (ByteArray.mk #[97])]) (w31) (fun v33 => (fun w34 =>
                                      (∃ x35 : Int, ((v33 = Value.int IntKind.i64 x35) ∧ (Ca Try.prog (17) (Array.mk [Value.pointer p6]) (w34) (fun v36 => (fun w37 =>
                                        (∃ x38 : Int, ((v36 = Value.int IntKind.i64 x38) ∧ (Ca Try.prog (26) (Array.mk [Value.pointer p6]) (w37) (fun v39 => (fun w40 =>
                                          (∃ b41 : Bool, ((v39 = Value.bool b41) ∧ (ifK (b41)
                                            (∃ x42 : Int, ((World.cell? w40 (Addr.add (Addr.mk (Array.size (World.heap w)) 0 none) 1) = some (Value.int IntKind.i64 x42)) ∧ (Ca Try.prog (18) (Array.mk [Value.pointer p6, Value.int IntKind.i64 x42]) (w40) (fun v43 => (fun w44 =>
                                              ((v43 = Value.tuple (Array.mk (List.reverse []))) ∧ (Ca Try.prog (19) (Array.mk [Value.pointer p6]) (w44) (fun v45 => (fun w46 =>
                                                ((v45 = Value.tuple (Array.mk (List.reverse []))) ∧ (Ca Try.prog (20) (Array.mk [Value.pointer p6, Value.string (ByteArray.mk #[97])]) (w46) (fun v47 => (fun w48 =>
                                                  (∃ p49 : Option Addr, (∃ n50 : Nat, (∃ n51 : Nat, (∃ x52 : Int, ((v47 = Value.tuple (Array.mk (List.reverse [Value.int IntKind.i64 x52, Value.slice p49 n50 n51]))) ∧ (ifK (x52 != 0)
                                                    (R (Value.bool false) (w48))
                                                    (∃ x53 : Int, ((World.cell? w48 (Addr.add (Addr.mk (Array.size (World.heap w)) 0 none) 0) = some (Value.int IntKind.u64 x53)) ∧ (((7 : Int) ≠ 0) ∧ (ifK (Int.tmod x53 7 == 0)
                                                      (ifK (!(x38 == 0) == true)
                                                        (R (Value.bool false) (w48))
                                                        (ifK (x38 == 0)
                                                          (Ca Try.prog (21) (Array.mk [Value.slice p49 n50 n51, Value.slice fresha freshl freshc]) (w48) (fun v54 => (fun w55 =>
                                                            (∃ b56 : Bool, ((v54 = Value.bool b56) ∧ (ifK (b56)
                                                              (Ca Try.prog (12) (Array.mk []) (w55) (fun v57 => (fun w58 =>
                                                                (∃ b59 : Bool, ((v57 = Value.bool b59) ∧ (R (Value.bool b59) (w58)))))))
                                                              (R (Value.bool false) (w55))))))))
                                                          (Ca Try.prog (21) (Array.mk [Value.slice p49 n50 n51, Value.slice olda oldl oldc]) (w48) (fun v60 => (fun w61 =>
                                                            (∃ b62 : Bool, ((v60 = Value.bool b62) ∧ (ifK (b62)
                                                              (Ca Try.prog (12) (Array.mk []) (w61) (fun v63 => (fun w64 =>
                                                                (∃ b65 : Bool, ((v63 = Value.bool b65) ∧ (R (Value.bool b65) (w64)))))))
                                                              (R (Value.bool false) (w61))))))))))
                                                      (∃ x66 : Int, ((World.cell? w48 (Addr.add (Addr.mk (Array.size (World.heap w)) 0 none) 0) = some (Value.int IntKind.u64 x66)) ∧ (((7 : Int) ≠ 0) ∧ (ifK (!(x38 == 0) == (Int.tmod x66 7 == 6))
                                                        (R (Value.bool false) (w48))
                                                        (ifK (x38 == 0)
                                                          (Ca Try.prog (21) (Array.mk [Value.slice p49 n50 n51, Value.slice fresha freshl freshc]) (w48) (fun v67 => (fun w68 =>
                                                            (∃ b69 : Bool, ((v67 = Value.bool b69) ∧ (ifK (b69)
                                                              (Ca Try.prog (12) (Array.mk []) (w68) (fun v70 => (fun w71 =>
                                                                (∃ b72 : Bool, ((v70 = Value.bool b72) ∧ (R (Value.bool b72) (w71)))))))
                                                              (R (Value.bool false) (w68))))))))
                                                          (Ca Try.prog (21) (Array.mk [Value.slice p49 n50 n51, Value.slice olda oldl oldc]) (w48) (fun v73 => (fun w74 =>
                                                            (∃ b75 : Bool, ((v73 = Value.bool b75) ∧ (ifK (b75)
                                                              (Ca Try.prog (12) (Array.mk []) (w74) (fun v76 => (fun w77 =>
                                                                (∃ b78 : Bool, ((v76 = Value.bool b78) ∧ (R (Value.bool b78) (w77)))))))
                                                              (R (Value.bool false) (w74))))))))))))))))))))))))))))))))))))
                                            (Ca Try.prog (19) (Array.mk [Value.pointer p6]) (w40) (fun v79 => (fun w80 =>
                                              ((v79 = Value.tuple (Array.mk (List.reverse []))) ∧ (Ca Try.prog (20) (Array.mk [Value.pointer p6, Value.string (ByteArray.mk #[97])]) (w80) (fun v81 => (fun w82 =>
                                                (∃ p83 : Option Addr, (∃ n84 : Nat, (∃ n85 : Nat, (∃ x86 : Int, ((v81 = Value.tuple (Array.mk (List.reverse [Value.int IntKind.i64 x86, Value.slice p83 n84 n85]))) ∧ (ifK (x86 != 0)
                                                  (R (Value.bool false) (w82))
                                                  (∃ x87 : Int, ((World.cell? w82 (Addr.add (Addr.mk (Array.size (World.heap w)) 0 none) 0) = some (Value.int IntKind.u64 x87)) ∧ (((7 : Int) ≠ 0) ∧ (ifK (Int.tmod x87 7 == 0)
                                                    (ifK (!(x38 == 0) == true)
                                                      (R (Value.bool false) (w82))
                                                      (ifK (x38 == 0)
                                                        (Ca Try.prog (21) (Array.mk [Value.slice p83 n84 n85, Value.slice fresha freshl freshc]) (w82) (fun v88 => (fun w89 =>
                                                          (∃ b90 : Bool, ((v88 = Value.bool b90) ∧ (ifK (b90)
                                                            (Ca Try.prog (12) (Array.mk []) (w89) (fun v91 => (fun w92 =>
                                                              (∃ b93 : Bool, ((v91 = Value.bool b93) ∧ (R (Value.bool b93) (w92)))))))
                                                            (R (Value.bool false) (w89))))))))
                                                        (Ca Try.prog (21) (Array.mk [Value.slice p83 n84 n85, Value.slice olda oldl oldc]) (w82) (fun v94 => (fun w95 =>
                                                          (∃ b96 : Bool, ((v94 = Value.bool b96) ∧ (ifK (b96)
                                                            (Ca Try.prog (12) (Array.mk []) (w95) (fun v97 => (fun w98 =>
                                                              (∃ b99 : Bool, ((v97 = Value.bool b99) ∧ (R (Value.bool b99) (w98)))))))
                                                            (R (Value.bool false) (w95))))))))))
                                                    (∃ x100 : Int, ((World.cell? w82 (Addr.add (Addr.mk (Array.size (World.heap w)) 0 none) 0) = some (Value.int IntKind.u64 x100)) ∧ (((7 : Int) ≠ 0) ∧ (ifK (!(x38 == 0) == (Int.tmod x100 7 == 6))
                                                      (R (Value.bool false) (w82))
                                                      (ifK (x38 == 0)
                                                        (Ca Try.prog (21) (Array.mk [Value.slice p83 n84 n85, Value.slice fresha freshl freshc]) (w82) (fun v101 => (fun w102 =>
                                                          (∃ b103 : Bool, ((v101 = Value.bool b103) ∧ (ifK (b103)
                                                            (Ca Try.prog (12) (Array.mk []) (w102) (fun v104 => (fun w105 =>
                                                              (∃ b106 : Bool, ((v104 = Value.bool b106) ∧ (R (Value.bool b106) (w105)))))))
                                                            (R (Value.bool false) (w102))))))))
                                                        (Ca Try.prog (21) (Array.mk [Value.slice p83 n84 n85, Value.slice olda oldl oldc]) (w82) (fun v107 => (fun w108 =>
                                                          (∃ b109 : Bool, ((v107 = Value.bool b109) ∧ (ifK (b109)
                                                            (Ca Try.prog (12) (Array.mk []) (w108) (fun v110 => (fun w111 =>
                                                              (∃ b112 : Bool, ((v110 = Value.bool b112) ∧ (R (Value.bool b112) (w111)))))))
                                                            (R (Value.bool false) (w108)))))))))))))))))))))))))))))))))))))))))))))))))))))))))))))))))))))))))))))))))))))))))))))))))))))))))
theorem ca5 (olda : Option Addr) (oldl : Nat) (oldc : Nat) (fresha : Option Addr) (freshl : Nat) (freshc : Nat) (x0_ : Int) (x1_ : Int) (w : World) (R : Value → World → Prop) (h : W5 olda oldl oldc fresha freshl freshc x0_ x1_ w R) : Ca Try.prog 5 ⟨[(.slice olda oldl oldc), (.slice fresha freshl freshc), (.agg ⟨[(.int .u64 x0_), (.int .i64 x1_)]⟩)]⟩ w R := by
  have h1 : Try.prog.follows .mixedOrders = true := by kernel_rfl
  have h2 : Try.f5.body = some C5 := by kernel_rfl
  have h3 : (Try.f5.name == "runtime.NumGoroutine") = false := by kernel_rfl
  have h6 : Try.f5.results.toList = [.tmp 6] := by kernel_rfl
  have h4 : Nat.ble 3 107 = true := by kernel_rfl
  have h5 : okCode 107 pl5 ls5 C5 0 = true := by kernel_rfl
  have e : W5 olda oldl oldc fresha freshl freshc x0_ x1_ w R = wpC none Try.prog 107 pl5 ls5 C5 0 (endP Try.prog [.tmp 6] R) (fr0 [(.slice olda oldl oldc), (.slice fresha freshl freshc), (.agg ⟨[(.int .u64 x0_), (.int .i64 x1_)]⟩)]) [] w := by kernel_rfl
  exact ca_of' (P := Try.prog) (g := 5) (fn := Try.f5) (c := C5) (m := 107) (rs := [.tmp 6]) (args := [(.slice olda oldl oldc), (.slice fresha freshl freshc), (.agg ⟨[(.int .u64 x0_), (.int .i64 x1_)]⟩)]) (pl := pl5) (ls := ls5) (w := w) (R := R) h1 Try.func5 h2 Try.ntmps5 h6 h3 h4 h5 (Eq.mp e h)

/-- staith/staithlaw11.StoreNone -/
noncomputable def C9 : Code := (Try.f9.body).getD .skip
def pl9 : Nat → Plan := fun _ => .done
def ls9 : Nat → List (Nat × LT)
  | 4 => [(9, (.one (.int .i64)))]
  | _ => []
def W9 (a0_ : Int) (a1_ : ByteArray) (a2_ : ByteArray) (a3_a : Option Addr) (a3_l : Nat) (a3_c : Nat) (a4_ : Int) (a5_ : Int) (w : World) (R : Value → World → Prop) : Prop :=
  (atW (World.alloc w (Obj.cells (Array.mk [Value.int IntKind.i64 a0_, Value.string a1_, Value.string a2_, Value.slice a3_a a3_l a3_c, Value.int IntKind.i64 a4_, Value.int IntKind.i64 a5_]) 48 (0, 0))) (fun w0 =>
    (atW (World.alloc w0 (Obj.cells (Array.mk [Value.int IntKind.i64 0, Value.map none, Value.map none, Value.bool false, Value.int IntKind.i64 0, Value.int IntKind.i64 0, Value.int IntKind.i64 0]) 65 (0, 0))) (fun w1 =>
      (∃ z2 : Int → World → Prop, (∃ z3 : Int → World → Nat, ((z2 (0) (w1)) ∧ (∀ (_ : Nat → Value), (∀ (x5 : Int), (∀ (w6 : World), ((z2 (x5) (w6)) → (ifK (decide (x5 < 2))
        (∃ v7 : Value, (∃ w8 : World, ((Sem.run Try.prog (Instr.index 66 (Value.agg (Array.mk [Value.pointer none, Value.pointer (some (Addr.mk (Array.size (World.heap w0)) 0 none))])) (Value.int IntKind.i64 x5)) w6 = Result.ok v7 w8) ∧ (∃ p9 : Option Addr, ((v7 = Value.pointer p9) ∧ (∃ x10 : Int, ((World.cell? w8 (Addr.add (Addr.mk (Array.size (World.heap w)) 0 none) 4) = some (Value.int IntKind.i64 x10)) ∧ (Ca Try.prog (18) (Array.mk [Value.pointer p9, Value.int IntKind.i64 x10]) (w8) (fun v11 => (fun w12 =>
          ((v11 = Value.tuple (Array.mk (List.reverse []))) ∧ (Ca Try.prog (19) (Array.mk [Value.pointer p9]) (w12) (fun v13 => (fun w14 =>
            ((v13 = Value.tuple (Array.mk (List.reverse []))) ∧ (∃ s15 : ByteArray, ((World.cell? w14 (Addr.add (Addr.mk (Array.size (World.heap w)) 0 none) 1) = some (Value.string s15)) ∧ (Ca Try.prog (20) (Array.mk [Value.pointer p9, Value.string s15]) (w14) (fun v16 => (fun w17 =>
              (∃ p18 : Option Addr, (∃ n19 : Nat, (∃ n20 : Nat, (∃ x21 : Int, ((v16 = Value.tuple (Array.mk (List.reverse [Value.int IntKind.i64 x21, Value.slice p18 n19 n20]))) ∧ (∃ s22 : ByteArray, ((World.cell? w17 (Addr.add (Addr.mk (Array.size (World.heap w)) 0 none) 1) = some (Value.string s22)) ∧ (Ca Try.prog (14) (Array.mk [Value.pointer p9, Value.string s22]) (w17) (fun v23 => (fun w24 =>
                (∃ x25 : Int, ((v23 = Value.int IntKind.i64 x25) ∧ (ifK (x25 != 1)
                  (R (Value.bool false) (w24))
                  (∃ s26 : ByteArray, ((World.cell? w24 (Addr.add (Addr.mk (Array.size (World.heap w)) 0 none) 1) = some (Value.string s26)) ∧ (∃ p27 : Option Addr, (∃ n28 : Nat, (∃ n29 : Nat, ((World.cell? w24 (Addr.add (Addr.mk (Array.size (World.heap w)) 0 none) 3) = some (Value.slice p27 n28 n29)) ∧ (Ca Try.prog (15) (Array.mk [Value.pointer p9, Value.string s26, Value.slice p27 n28 n29]) (w24) (fun v30 => (fun w31 =>
                    (∃ x32 : Int, ((v30 = Value.int IntKind.i64 x32) ∧ (ifK (x32 != 1)
                      (R (Value.bool false) (w31))
                      (∃ s33 : ByteArray, ((World.cell? w31 (Addr.add (Addr.mk (Array.size (World.heap w)) 0 none) 1) = some (Value.string s33)) ∧ (∃ x34 : Int, ((World.cell? w31 (Addr.add (Addr.mk (Array.size (World.heap w)) 0 none) 4) = some (Value.int IntKind.i64 x34)) ∧ (Ca Try.prog (30) (Array.mk [Value.pointer p9, Value.string s33, Value.int IntKind.i64 x34]) (w31) (fun v35 => (fun w36 =>
                        (∃ x37 : Int, ((v35 = Value.int IntKind.i64 x37) ∧ (ifK (x37 != 1)
                          (R (Value.bool false) (w36))
                          (∃ s38 : ByteArray, ((World.cell? w36 (Addr.add (Addr.mk (Array.size (World.heap w)) 0 none) 1) = some (Value.string s38)) ∧ (Ca Try.prog (16) (Array.mk [Value.pointer p9, Value.string s38]) (w36) (fun v39 => (fun w40 =>
                            (∃ x41 : Int, ((v39 = Value.int IntKind.i64 x41) ∧ (ifK (x41 != 1)
                              (R (Value.bool false) (w40))
                              (∃ s42 : ByteArray, ((World.cell? w40 (Addr.add (Addr.mk (Array.size (World.heap w)) 0 none) 1) = some (Value.string s42)) ∧ (∃ s43 : ByteArray, ((World.cell? w40 (Addr.add (Addr.mk (Array.size (World.heap w)) 0 none) 2) = some (Value.string s43)) ∧ (Ca Try.prog (25) (Array.mk [Value.pointer p9, Value.string s42, Value.string s43]) (w40) (fun v44 => (fun w45 =>
                                (∃ x46 : Int, ((v44 = Value.int IntKind.i64 x46) ∧ (ifK (x46 != 1)
                                  (R (Value.bool false) (w45))
                                  (∃ s47 : ByteArray, ((World.cell? w45 (Addr.add (Addr.mk (Array.size (World.heap w)) 0 none) 1) = some (Value.string s47)) ∧ (Ca Try.prog (31) (Array.mk [Value.pointer p9, Value.string s47]) (w45) (fun v48 => (fun w49 =>
                                    (∃ x50 : Int, ((v48 = Value.int IntKind.i64 x50) ∧ (ifK (x50 != 1)
                                      (R (Value.bool false) (w49))
                                      (Ca Try.prog (17) (Array.mk [Value.pointer p9]) (w49) (fun v51 => (fun w52 =>
                                        (∃ x53 : Int, ((v51 = Value.int IntKind.i64 x53) ∧ (ifK (x53 != 1)
                                          (R (Value.bool false) (w52))
                                          (∃ x54 : Int, ((World.cell? w52 (Addr.add (Addr.mk (Array.size (World.heap w)) 0 none) 4) = some (Value.int IntKind.i64 x54)) ∧ (∃ x55 : Int, ((World.cell? w52 (Addr.add (Addr.mk (Array.size (World.heap w)) 0 none) 5) = some (Value.int IntKind.i64 x55)) ∧ (Ca Try.prog (24) (Array.mk [Value.pointer p9, Value.int IntKind.i64 x54, Value.int IntKind.i64 x55]) (w52) (fun v56 => (fun w57 =>
                                            (∃ x58 : Int, ((v56 = Value.int IntKind.i64 x58) ∧ (ifK (x58 != 1)
                                              (R (Value.bool false) (w57))
                                              (ifK (x21 != 1)
                                                (R (Value.bool false) (w57))
                                                (Ca Try.prog (23) (Array.mk [Value.pointer p9]) (w57) (fun v59 => (fun w60 =>
                                                  (∃ p61 : Option Addr, (∃ n62 : Nat, (∃ n63 : Nat, ((v59 = Value.slice p61 n62 n63) ∧ (Ca Try.prog (28) (Array.mk [Value.pointer p9]) (w60) (fun v64 => (fun w65 =>
                                                    (∃ x66 : Int, ((v64 = Value.int IntKind.i64 x66) ∧ (Ca Try.prog (29) (Array.mk [Value.pointer p9]) (w65) (fun v67 => (fun w68 =>
                                                      (∃ x69 : Int, ((v67 = Value.int IntKind.i64 x69) ∧ (ifK (IntKind.wrap IntKind.i64 (IntKind.wrap IntKind.i64 ((↑n62 : Int) + x66) + x69) != 0)
                                                        (R (Value.bool false) (w68))
                                                        (Ca Try.prog (26) (Array.mk [Value.pointer p9]) (w68) (fun v70 => (fun w71 =>
                                                          (∃ b72 : Bool, ((v70 = Value.bool b72) ∧ (ifK (b72)
                                                            (R (Value.bool false) (w71))
                                                            ((z2 (IntKind.wrap IntKind.i64 (x5 + 1)) (w71)) ∧ (z3 (IntKind.wrap IntKind.i64 (x5 + 1)) w71 < z3 x5 w6))))))))))))))))))))))))))))))))))))))))))))))))))))))))))))))))))))))))))))))))))))))))))))))))))))))))))))))))))))))))))))
        (Ca Try.prog (12) (Array.mk []) (w6) (fun v73 => (fun w74 =>
          (∃ b75 : Bool, ((v73 = Value.bool b75) ∧ (R (Value.bool b75) (w74)))))))))))))))))))
theorem ca9 (a0_ : Int) (a1_ : ByteArray) (a2_ : ByteArray) (a3_a : Option Addr) (a3_l : Nat) (a3_c : Nat) (a4_ : Int) (a5_ : Int) (w : World) (R : Value → World → Prop) (h : W9 a0_ a1_ a2_ a3_a a3_l a3_c a4_ a5_ w R) : Ca Try.prog 9 ⟨[(.agg ⟨[(.int .i64 a0_), (.string a1_), (.string a2_), (.slice a3_a a3_l a3_c), (.int .i64 a4_), (.int .i64 a5_)]⟩)]⟩ w R := by
  have h1 : Try.prog.follows .mixedOrders = true := by kernel_rfl
  have h2 : Try.f9.body = some C9 := by kernel_rfl
  have h3 : (Try.f9.name == "runtime.NumGoroutine") = false := by kernel_rfl
  have h6 : Try.f9.results.toList = [.tmp 2] := by kernel_rfl
  have h4 : Nat.ble 1 105 = true := by kernel_rfl
  have h5 : okCode 105 pl9 ls9 C9 0 = true := by kernel_rfl
  have e : W9 a0_ a1_ a2_ a3_a a3_l a3_c a4_ a5_ w R = wpC none Try.prog 105 pl9 ls9 C9 0 (endP Try.prog [.tmp 2] R) (fr0 [(.agg ⟨[(.int .i64 a0_), (.string a1_), (.string a2_), (.slice a3_a a3_l a3_c), (.int .i64 a4_), (.int .i64 a5_)]⟩)]) [] w := by kernel_rfl
  exact ca_of' (P := Try.prog) (g := 9) (fn := Try.f9) (c := C9) (m := 105) (rs := [.tmp 2]) (args := [(.agg ⟨[(.int .i64 a0_), (.string a1_), (.string a2_), (.slice a3_a a3_l a3_c), (.int .i64 a4_), (.int .i64 a5_)]⟩)]) (pl := pl9) (ls := ls9) (w := w) (R := R) h1 Try.func9 h2 Try.ntmps9 h6 h3 h4 h5 (Eq.mp e h)

/-- staith/staithlaw11.light -/
noncomputable def C27 : Code := (Try.f27.body).getD .skip
def pl27 : Nat → Plan := fun _ => .done
def ls27 : Nat → List (Nat × LT)
  | 4 => [(3, (.one (.int .i64))), (8, (.one (.int .i64)))]
  | _ => []
def W27 (actsa : Option Addr) (actsl : Nat) (_actsc : Nat) (w : World) (R : Value → World → Prop) : Prop :=
  (∃ z0 : Int → Int → World → Prop, (∃ z1 : Int → Int → World → Nat, ((z0 (0) (0) (w)) ∧ (∀ (_ : Nat → Value), (∀ (x3 : Int), (∀ (x4 : Int), (∀ (w5 : World), ((z0 (x3) (x4) (w5)) → (ifK (decide (x4 < (↑actsl : Int)))
    (∃ a6 : Addr, ((actsa = some a6) ∧ (((0 : Int) ≤ x4) ∧ (((x4 : Int) < (↑actsl : Int)) ∧ (∃ x7 : Int, ((World.cell? w5 (Addr.add (Addr.add a6 (Int.toNat x4 * 6)) 0) = some (Value.int IntKind.i64 x7)) ∧ (∃ s8 : ByteArray, ((World.cell? w5 (Addr.add (Addr.add a6 (Int.toNat x4 * 6)) 1) = some (Value.string s8)) ∧ (∃ s9 : ByteArray, ((World.cell? w5 (Addr.add (Addr.add a6 (Int.toNat x4 * 6)) 2) = some (Value.string s9)) ∧ (∃ p10 : Option Addr, (∃ n11 : Nat, (∃ n12 : Nat, ((World.cell? w5 (Addr.add (Addr.add a6 (Int.toNat x4 * 6)) 3) = some (Value.slice p10 n11 n12)) ∧ (∃ x13 : Int, ((World.cell? w5 (Addr.add (Addr.add a6 (Int.toNat x4 * 6)) 4) = some (Value.int IntKind.i64 x13)) ∧ (∃ x14 : Int, ((World.cell? w5 (Addr.add (Addr.add a6 (Int.toNat x4 * 6)) 5) = some (Value.int IntKind.i64 x14)) ∧ (atW (World.alloc w5 (Obj.cells (Array.mk [Value.int IntKind.i64 0, Value.string (ByteArray.mk #[]), Value.string (ByteArray.mk #[]), Value.slice none 0 0, Value.int IntKind.i64 0, Value.int IntKind.i64 0]) 48 (0, 0))) (fun w15 =>
      ((∃ v16 : Value, (World.cell? w15 (Addr.add (Addr.mk (Array.size (World.heap w5)) 0 none) 0) = some v16)) ∧ ((World.frozen? w15 (Addr.add (Addr.mk (Array.size (World.heap w5)) 0 none) 0) = false) ∧ (atW (World.setCell w15 (Addr.add (Addr.mk (Array.size (World.heap w5)) 0 none) 0) (Value.int IntKind.i64 x7)) (fun w17 =>
        ((∃ v18 : Value, (World.cell? w17 (Addr.add (Addr.mk (Array.size (World.heap w5)) 0 none) 1) = some v18)) ∧ ((World.frozen? w17 (Addr.add (Addr.mk (Array.size (World.heap w5)) 0 none) 1) = false) ∧ (atW (World.setCell w17 (Addr.add (Addr.mk (Array.size (World.heap w5)) 0 none) 1) (Value.string s8)) (fun w19 =>
          ((∃ v20 : Value, (World.cell? w19 (Addr.add (Addr.mk (Array.size (World.heap w5)) 0 none) 2) = some v20)) ∧ ((World.frozen? w19 (Addr.add (Addr.mk (Array.size (World.heap w5)) 0 none) 2) = false) ∧ (atW (World.setCell w19 (Addr.add (Addr.mk (Array.size (World.heap w5)) 0 none) 2) (Value.string s9)) (fun w21 =>
            ((∃ v22 : Value, (World.cell? w21 (Addr.add (Addr.mk (Array.size (World.heap w5)) 0 none) 3) = some v22)) ∧ ((World.frozen? w21 (Addr.add (Addr.mk (Array.size (World.heap w5)) 0 none) 3) = false) ∧ (atW (World.setCell w21 (Addr.add (Addr.mk (Array.size (World.heap w5)) 0 none) 3) (Value.slice p10 n11 n12)) (fun w23 =>
              ((∃ v24 : Value, (World.cell? w23 (Addr.add (Addr.mk (Array.size (World.heap w5)) 0 none) 4) = some v24)) ∧ ((World.frozen? w23 (Addr.add (Addr.mk (Array.size (World.heap w5)) 0 none) 4) = false) ∧ (atW (World.setCell w23 (Addr.add (Addr.mk (Array.size (World.heap w5)) 0 none) 4) (Value.int IntKind.i64 x13)) (fun w25 =>
                ((∃ v26 : Value, (World.cell? w25 (Addr.add (Addr.mk (Array.size (World.heap w5)) 0 none) 5) = some v26)) ∧ ((World.frozen? w25 (Addr.add (Addr.mk (Array.size (World.heap w5)) 0 none) 5) = false) ∧ (atW (World.setCell w25 (Addr.add (Addr.mk (Array.size (World.heap w5)) 0 none) 5) (Value.int IntKind.i64 x14)) (fun w27 =>
                  (∃ p28 : Option Addr, (∃ n29 : Nat, (∃ n30 : Nat, ((World.cell? w27 (Addr.add (Addr.mk (Array.size (World.heap w5)) 0 none) 3) = some (Value.slice p28 n29 n30)) ∧ (∃ s31 : ByteArray, ((World.cell? w27 (Addr.add (Addr.mk (Array.size (World.heap w5)) 0 none) 1) = some (Value.string s31)) ∧ (∃ s32 : ByteArray, ((World.cell? w27 (Addr.add (Addr.mk (Array.size (World.heap w5)) 0 none) 2) = some (Value.string s32)) ∧ (((50 : Int) ≠ 0) ∧ (ifK (decide (IntKind.wrap IntKind.i64 (x3 + IntKind.wrap IntKind.i64 (1 + IntKind.wrap IntKind.i64 (Int.tdiv (IntKind.wrap IntKind.i64 (IntKind.wrap IntKind.i64 ((↑n29 : Int) + (↑(ByteArray.size s31) : Int)) + (↑(ByteArray.size s32) : Int))) 50))) > 250))
                    (R (Value.bool false) (w27))
                    ((z0 (IntKind.wrap IntKind.i64 (x3 + IntKind.wrap IntKind.i64 (1 + IntKind.wrap IntKind.i64 (Int.tdiv (IntKind.wrap IntKind.i64 (IntKind.wrap IntKind.i64 ((↑n29 : Int) + (↑(ByteArray.size s31) : Int)) + (↑(ByteArray.size s32) : Int))) 50)))) (IntKind.wrap IntKind.i64 (x4 + 1)) (w27)) ∧ (z1 (IntKind.wrap IntKind.i64 (x3 + IntKind.wrap IntKind.i64 (1 + IntKind.wrap IntKind.i64 (Int.tdiv (IntKind.wrap IntKind.i64 (IntKind.wrap IntKind.i64 ((↑n29 : Int) + (↑(ByteArray.size s31) : Int)) + (↑(ByteArray.size s32) : Int))) 50)))) (IntKind.wrap IntKind.i64 (x4 + 1)) w27 < z1 x3 x4 w5))))))))))))))))))))))))))))))))))))))))))))))))))))))))
    (R (Value.bool true) (w5)))))))))))
theorem ca27 (actsa : Option Addr) (actsl : Nat) (actsc : Nat) (w : World) (R : Value → World → Prop) (h : W27 actsa actsl actsc w R) : Ca Try.prog 27 ⟨[(.slice actsa actsl actsc)]⟩ w R := by
  have h1 : Try.prog.follows .mixedOrders = true := by kernel_rfl
  have h2 : Try.f27.body = some C27 := by kernel_rfl
  have h3 : (Try.f27.name == "runtime.NumGoroutine") = false := by kernel_rfl
  have h6 : Try.f27.results.toList = [.tmp 2] := by kernel_rfl
  have h4 : Nat.ble 1 30 = true := by kernel_rfl
  have h5 : okCode 30 pl27 ls27 C27 0 = true := by kernel_rfl
  have e : W27 actsa actsl actsc w R = wpC none Try.prog 30 pl27 ls27 C27 0 (endP Try.prog [.tmp 2] R) (fr0 [(.slice actsa actsl actsc)]) [] w := by kernel_rfl
  exact ca_of' (P := Try.prog) (g := 27) (fn := Try.f27) (c := C27) (m := 30) (rs := [.tmp 2]) (args := [(.slice actsa actsl actsc)]) (pl := pl27) (ls := ls27) (w := w) (R := R) h1 Try.func27 h2 Try.ntmps27 h6 h3 h4 h5 (Eq.mp e h)
end Go.Proofs.Ytemklabamlifdaa

/- The store's examples in the statements: lives. -/
namespace Go.Proofs.Ytemklabamlifdaa
open Go Go.Proofs.Ytemklabamlifdaa.St

/-- A store that was made since w0: its blocks are F. -/
structure SB (w0 w : World) (s : Nat) (F : Nat → Prop) (a : AS) : Prop where
  st : Stt w s F a
  mod : Mod no w0 w
  lo : ∀ k, F k → w0.heap.size ≤ k
  hi : ∀ k, F k → k < w.heap.size

section
variable {w0 w w' : World} {s : Nat} {F : Nat → Prop} {a b : AS}
theorem Stt.small (h : Stt w s F a) : Stt w s (fun k => F k ∧ k < w.heap.size) a := by
  obtain ⟨nb, sb, N, S, φ, h⟩ := h
  exact ⟨nb, sb, N, S, φ, h.st, h.now, h.sure, fun i hi => (h.file i hi).old, h.inj, h.ne, h.ok, ⟨h.fs, lt_of_heap h.st.cell⟩, ⟨h.fn, h.st.now.lt⟩, ⟨h.fb, h.st.sure.lt⟩, fun i hi => ⟨h.ff i hi, let ⟨_, hc⟩ := (h.file i hi).cell; lt_of_heap hc⟩⟩
theorem SB.new {room : Int} (h : Stt w s (fun k => w0.heap.size ≤ k) (AS.new room)) (hm : Mod no w0 w) : ∃ F, SB w0 w s F (AS.new room) :=
  ⟨_, h.small, hm, fun _ hk => hk.1, fun _ hk => hk.2⟩
theorem SB.step (h : SB w0 w s F a) (hp : StP s F w b w') : ∃ F', SB w0 w' s F' b ∧ (∀ k, F' k → F k ∨ w.heap.size ≤ k) ∧ Mod F w w' := by
  obtain ⟨F', h1, h2, h3⟩ := hp
  refine ⟨_, ⟨h1.small, h.mod.new h3 h.lo, fun k hk => ?_, fun k hk => hk.2⟩, fun k hk => h2 k hk.1, h3⟩
  rcases h2 k hk.1 with h' | h'
  · exact h.lo k h'
  · exact Nat.le_trans h.mod.size h'
theorem SB.no (h : SB w0 w s F a) (hm : Mod no w w') : SB w0 w' s F a :=
  ⟨Stt.no h.st hm, h.mod.trans hm, h.lo, fun k hk => Nat.lt_of_lt_of_le (h.hi k hk) hm.size⟩
end

/-- A literal's bytes. -/
theorem litW (w : World) (x y : UInt8) (K : Option Addr → Nat → Nat → World → Prop) (hK : ∀ w8, Rd w8 (some ⟨w.heap.size, 0, none⟩) 2 2 [x, y] → Mod no w w8 → K (some ⟨w.heap.size, 0, none⟩) 2 2 w8) :
    atW (w.alloc (.cells #[.int .u8 x.toNat, .int .u8 y.toNat] 5)) fun w6 => ∃ v w8, (convert 24 24 (.slice (some ⟨w.heap.size, 0, none⟩) 2 2)).run Try.prog w6 = .ok v w8 ∧ ∃ p n m, v = .slice p n m ∧ K p n m w8 := by
  intro w6 e6
  subst e6
  refine ⟨_, _, Lib.run_convert_bytes_const (P := Try.prog) w 24 5 _ 2 2 Try.underlying24 Try.underlying5, _, _, _, rfl, hK _ ⟨rfl, Nat.le_refl _, by decide, ?_, fun h => by cases h⟩ (Mod.alloc _ _)⟩
  intro ad had j v hj
  cases had
  rw [cl1 (new_at w _)]
  have : j = 0 ∨ j = 1 ∨ 2 ≤ j := by omega
  rcases this with rfl | rfl | h
  · simpa [u8v] using hj
  · simpa [u8v] using hj
  · rw [List.getElem?_eq_none (by simpa using h)] at hj; cases hj
def nA : ByteArray := ByteArray.mk #[97]
def nB : ByteArray := ByteArray.mk #[98]
def lv0 : AS := AS.new 100
def lv1 : AS := (lv0.make nA).1
def lv2 : AS := (lv1.write nA [120, 121]).1
def lv3 : AS := (lv2.sync nA).1
def lv4 : AS := (lv3.fail 0).power
def lv5 : AS := (lv4.make nA).1
def lv6 : AS := (lv5.write nA [120, 121]).1
def lv7 : AS := (lv6.sync nA).1
def lv8 : AS := lv7.commit.1
def lv9 : AS := (lv8.write nA [122, 122]).1
def lv10 : AS := lv9.fail 1
def lv11 : AS := lv10.power
theorem lvs : (lv0.make nA).2 = 0 ∧ (lv1.write nA [120, 121]).2 = 0 ∧ (lv2.sync nA).2 = 0 ∧ lv4.names = [] ∧ (lv4.make nA).2 = 0 ∧ (lv5.write nA [120, 121]).2 = 0 ∧ (lv6.sync nA).2 = 0 ∧ lv7.commit.2 = 0 ∧ (lv8.write nA [122, 122]).2 = 0 ∧
    lv10.dark = true ∧ lv10.make nB = (lv10, 9) ∧ lv11.read nA = ([120, 121, 122], 0) ∧ lv11.used = 19 := by
  refine ⟨by rfl, by rfl, by rfl, by rfl, by rfl, by rfl, by rfl, by rfl, by rfl, by rfl, by rfl, by rfl, by rfl⟩

theorem lives_ok (w : World) (R : Value → World → Prop) (hR : ∀ w', Mod no w w' → R (.bool true) w') : Ca Try.prog 12 #[] w R := by
  refine ca12 w R ?_
  obtain ⟨l0, l1, l2, l3, l4, l5, l6, l7, l8, l9, l10, l11, l12⟩ := lvs
  have hn : nA.size < 4611686018427387904 := by decide
  have hnb : nB.size < 4611686018427387904 := by decide
  refine new_ok 100 w _ (fun h => by rcases h with h | h <;> exact absurd h (by decide)) fun _ _ w1 s h1 m1 => ⟨_, rfl, (ifK_of (fun h => by cases h) (fun _ => ?_) : ifK false _ _)⟩
  obtain ⟨F, h1⟩ := SB.new h1 m1
  have h1 : SB w w1 s F lv0 := h1
  refine make_ok h1.st nA hn _ fun w2 hp => ?_
  obtain ⟨F, h2, _, _⟩ := h1.step hp
  have h2 : SB w w2 s F lv1 := h2
  rw [l0]
  refine ⟨_, rfl, (ifK_of (fun h => by cases h) (fun _ => ?_) : ifK false _ _)⟩
  refine litW w2 120 121 _ fun w3 r3 m3 => ?_
  have hf3 : ∀ {F : Nat → Prop} {w2 : World}, (∀ k, F k → k < w2.heap.size) → 0 < 2 → ∀ k, rowB (some (⟨w2.heap.size, 0, none⟩ : Addr)) k → ¬ F k := fun hi _ k hk hf => by
    simp [rowB] at hk
    have := hi k hf
    omega
  refine write_ok (h2.no m3).st nA hn r3 (hf3 h2.hi) _ fun w4 hp => ?_
  obtain ⟨F, h4, _, _⟩ := (h2.no m3).step hp
  have h4 : SB w w4 s F lv2 := h4
  rw [l1]
  refine ⟨_, rfl, (ifK_of (fun h => by cases h) (fun _ => ?_) : ifK false _ _)⟩
  refine sync_ok h4.st nA hn _ fun w5 hp => ?_
  obtain ⟨F, h5, _, _⟩ := h4.step hp
  have h5 : SB w w5 s F lv3 := h5
  rw [l2]
  refine ⟨_, rfl, (ifK_of (fun h => by cases h) (fun _ => ?_) : ifK false _ _)⟩
  refine fail2_ok h5.st 0 _ fun w6 hp => ⟨rfl, ?_⟩
  obtain ⟨F, h6, _, _⟩ := h5.step hp
  refine power3_ok h6.st _ fun w7 hp => ⟨rfl, ?_⟩
  obtain ⟨F, h7, _, _⟩ := h6.step hp
  have h7 : SB w w7 s F lv4 := h7
  refine names_ok h7.st _ fun w8 p l c hs m8 _ => ?_
  rw [l3] at hs
  have hl := hs.len.1
  simp only [List.length_nil] at hl
  subst hl
  refine ⟨_, _, _, rfl, (ifK_of (fun h => by cases h) (fun _ => ?_) : ifK false _ _)⟩
  have h8 := h7.no m8
  refine make_ok h8.st nA hn _ fun w9 hp => ?_
  obtain ⟨F, h9, _, _⟩ := h8.step hp
  have h9 : SB w w9 s F lv5 := h9
  rw [l4]
  refine ⟨_, rfl, (ifK_of (fun h => by cases h) (fun _ => ?_) : ifK false _ _)⟩
  refine litW w9 120 121 _ fun w10 r10 m10 => ?_
  refine write_ok (h9.no m10).st nA hn r10 (hf3 h9.hi) _ fun w11 hp => ?_
  obtain ⟨F, h11, _, _⟩ := (h9.no m10).step hp
  have h11 : SB w w11 s F lv6 := h11
  rw [l5]
  refine ⟨_, rfl, (ifK_of (fun h => by cases h) (fun _ => ?_) : ifK false _ _)⟩
  refine sync_ok h11.st nA hn _ fun w12 hp => ?_
  obtain ⟨F, h12, _, _⟩ := h11.step hp
  rw [l6]
  refine ⟨_, rfl, (ifK_of (fun h => by cases h) (fun _ => ?_) : ifK false _ _)⟩
  have h12 : SB w w12 s F lv7 := h12
  refine commit_ok h12.st _ fun w13 hp => ?_
  obtain ⟨F, h13, _, _⟩ := h12.step hp
  rw [l7]
  refine ⟨_, rfl, (ifK_of (fun h => by cases h) (fun _ => ?_) : ifK false _ _)⟩
  have h13 : SB w w13 s F lv8 := h13
  refine litW w13 122 122 _ fun w14 r14 m14 => ?_
  refine write_ok (h13.no m14).st nA hn r14 (hf3 h13.hi) _ fun w15 hp => ?_
  obtain ⟨F, h15, _, _⟩ := (h13.no m14).step hp
  have h15 : SB w w15 s F lv9 := h15
  rw [l8]
  refine ⟨_, rfl, (ifK_of (fun h => by cases h) (fun _ => ?_) : ifK false _ _)⟩
  refine fail2_ok h15.st 1 _ fun w16 hp => ⟨rfl, ?_⟩
  obtain ⟨F, h16, _, _⟩ := h15.step hp
  have h16 : SB w w16 s F lv10 := h16
  refine on2_ok h16.st _ ⟨_, rfl, ?_⟩
  rw [l9]
  refine (ifK_of (fun h => by cases h) (fun _ => ?_) : ifK false _ _)
  refine make_ok h16.st nB hnb _ fun w17 hp => ?_
  rw [l10] at hp ⊢
  obtain ⟨F, h17, _, _⟩ := h16.step hp
  refine ⟨_, rfl, (ifK_of (fun h => by cases h) (fun _ => ?_) : ifK false _ _)⟩
  refine power3_ok h17.st _ fun w18 hp => ⟨rfl, ?_⟩
  obtain ⟨F, h18, _, _⟩ := h17.step hp
  have h18 : SB w w18 s F lv11 := h18
  refine read_ok h18.st nA hn _ fun w19 p l c hr m19 _ => ?_
  rw [l11] at hr ⊢
  refine ⟨_, _, _, _, rfl, (ifK_of (fun _ => ?_) (fun h => by cases h) : ifK true _ _)⟩
  refine ⟨_, w19, str_ok (Rd.of_els hr), _, rfl, ?_⟩
  have hb : (ByteArray.toList ⟨([120, 121, 122] : Bs).toArray⟩ == ByteArray.toList (ByteArray.mk #[120, 121, 122])) = true := by rw [str_eq [120, 121, 122] [120, 121, 122]]; rfl
  rw [hb]
  refine (ifK_of (fun _ => ?_) (fun h => by cases h) : ifK true _ _)
  have h19 := h18.no m19
  refine used_ok h19.st _ fun w20 m20 => ⟨_, rfl, ?_⟩
  rw [l12]
  exact hR w20 (h19.mod.trans m20)
end Go.Proofs.Ytemklabamlifdaa

/- Arguments that are bytes; the reference's Texts. -/
namespace Go.Proofs.Ytemklabamlifdaa
open Go Go.ChangeShapes Go.WideShapes Go.Deep Go.Proofs.Ytemklabamlifdaa.St

/-- An argument's bytes, as many as a machine can hold. -/
def RdA (w : World) (a : Option Addr) (l c : Nat) (x : Bs) : Prop := Rd w a l c x ∧ c ≤ 140737488355328

theorem bytesU8 : Try.prog.bytesOf 5 = 1 := by kernel_rfl
theorem cellsU8 : Try.prog.cellsOf 5 = 1 := by kernel_rfl
set_option maxRecDepth 100000 in
theorem bytes_of_trod {H : Type} {enc : TypeId × Value → H} {w : World} {base fuel : Nat} {cs : List Value} {x : DataW H × List MemPlace} (hf : DataW.trod enc Try.prog w base (fun _ => true) true fuel 24 cs = some x)
    (hz : ∀ n ∈ x.1.weights Try.prog 24, n ≤ reachBytes) : ∃ a l c bs, cs = [.slice a l c] ∧ RdA w a l c bs := by
  rcases open_slice1 Try.underlying24 cellsU8 hf with ⟨hcs, _⟩ | ⟨ad, l, c, m, n, V, D, Pl, hcs, _, hl, hm, hmm, hx, hi⟩
  · exact ⟨none, 0, 0, [], hcs, ⟨rfl, Nat.le_refl _, by decide, fun ad h => (by cases h), fun _ => ⟨rfl, rfl⟩⟩, Nat.zero_le _⟩
  · have hmc : m = c := by rw [hmm]; rfl
    have hone : ∀ i, ∃ b : UInt8, i < l → V i = u8v b := by
      intro i
      by_cases hil : i < l
      · obtain ⟨_, ht⟩ := hi i (by omega)
        obtain ⟨k, hk, _, hwf⟩ := DataW.trod_int Try.underlying5 ht
        simp only [List.cons.injEq, and_true] at hk
        have hwf : (0 : Int) ≤ k ∧ k ≤ 255 := by
          have hwf : (decide ((0 : Int) ≤ k) && decide (k ≤ 255)) = true := hwf
          rw [Bool.and_eq_true, decide_eq_true_iff, decide_eq_true_iff] at hwf
          exact hwf
        refine ⟨UInt8.ofNat k.toNat, fun _ => ?_⟩
        rw [hk, u8v]
        congr 1
        rw [UInt8.toNat_ofNat']
        omega
      · exact ⟨0, fun h => absurd h hil⟩
    obtain ⟨f, hf⟩ := Classical.axiomOfChoice hone
    have hcz : c ≤ 140737488355328 := by
      subst hx
      have := hz ((l + (c - l)) * 1) (by simp [DataW.weights, Try.underlying24, bytesU8, hmc])
      have h2 : reachBytes ≤ 140737488355328 := by decide
      omega
    refine ⟨some ad, l, c, (List.range l).map f, hcs, ⟨by simp, hl, by simpa [maxLen] using hm, fun ad' had j v hj => ?_, fun h => by cases h⟩, hcz⟩
    cases had
    rw [List.map_map, List.getElem?_map] at hj
    by_cases hjl : j < l
    · rw [List.getElem?_range hjl] at hj
      simp only [Option.map_some, Option.some.injEq] at hj
      rw [(hi j (by omega)).1, hf j hjl, ← hj]
      rfl
    · rw [List.getElem?_eq_none (by simpa using hjl)] at hj
      cases hj
set_option maxRecDepth 100000 in
theorem args_bytes {H : Type} {enc : TypeId × Value → H} {w : World} {v : Value} {d : DataW H} {p : List MemPlace} {base : Nat} {r : Reach} {b0 : Nat} (hv : Value.okWide Try.prog w r b0 24 v) (h : DataW.Trod enc Try.prog w base (fun _ => true) true 24 v d p)
    (hz : ∀ n ∈ d.weights Try.prog 24, n ≤ reachBytes) : ∃ a l c x, v = .slice a l c ∧ RdA w a l c x := by
  obtain ⟨a, l, c, rfl⟩ := okWide_slice Try.underlying24 hv
  obtain ⟨fuel, hf⟩ := h
  obtain ⟨a', l', c', bs, hcs, hr⟩ := bytes_of_trod hf hz
  simp only [Value.cells, List.cons.injEq, and_true] at hcs
  injection hcs with h1 h2 h3
  subst h1; subst h2; subst h3
  exact ⟨a, l, c, bs, rfl, hr⟩

/-- Strings that are read, wherever they lie. -/
theorem texts_ok {w : World} {a b : Option Addr} {al ac bl bc : Nat} {xs ys : List ByteArray} (hx : Strs w a al ac xs) (hy : Strs w b bl bc ys) (hn : al < 4611686018427387904) (R : Value → World → Prop) (h : ∀ w', Mod no w w' → R (.bool (decide (xs = ys))) w') :
    Ca Try.prog 22 #[.slice a al ac, .slice b bl bc] w R := by
  have hxl := hx.len.1
  have hyl := hy.len.1
  refine ca22 a al ac b bl bc w R ?_
  refine ifK_of (fun hne => ?_) (fun he => ?_)
  · have : ¬ xs = ys := fun e => by
      subst e
      have hne : ((al : Int) != (bl : Int)) = true := hne
      simp at hne
      omega
    have h := h w (Mod.refl _ _)
    rwa [decide_eq_false this] at h
  · have hll : al = bl := by
      have he : ((al : Int) != (bl : Int)) = false := he
      simp at he
      omega
    have get : ∀ {w' : World} {p : Option Addr} {l c : Nat} {zs : List ByteArray}, Strs w' p l c zs → ∀ {i : Nat} (hi : i < zs.length), ∃ ad, p = some ad ∧ w'.cell? (Addr.add ad (i * 1)) = some (.string zs[i]) := by
      intro w' p l c zs hz i hi
      obtain ⟨q1, q2⟩ := hz.all (fun _ => rfl)
      cases p with
      | none => have := q2 rfl; have := hz.len; omega
      | some ad => exact ⟨ad, rfl, q1 ad rfl _ _ (by rw [Nat.mul_one]; simp [hi])⟩
    refine ⟨fun x w' => ∃ i : Nat, x = i ∧ i ≤ al ∧ Mod no w w' ∧ xs.take i = ys.take i, fun x _ => ((al : Int) - x).toNat, ⟨0, rfl, Nat.zero_le _, Mod.refl _ _, rfl⟩, ?_⟩
    rintro _ _ w4 ⟨i, rfl, hi, m4, heq⟩
    have e1 : i < al → IntKind.i64.wrap ((i : Int) + 1) = ((i + 1 : Nat) : Int) := fun h => by rw [wrap64 (by omega) (by omega)]; rfl
    refine ifK_dec (fun hlt => ?_) (fun hge => ?_)
    · have hlt' : i < al := by omega
      intro w5 e5
      have m5 : Mod no w w5 := by subst e5; exact m4.trans (Mod.drew _)
      clear e5
      obtain ⟨ad, had, hc⟩ := get (row_mod hx m5 fun _ _ => id) (i := i) (by omega)
      obtain ⟨bd, hbd, hd⟩ := get (row_mod hy m5 fun _ _ => id) (i := i) (by omega)
      rw [e1 hlt']
      clear e1
      refine ⟨ad, had, by omega, hlt, _, by rw [Int.toNat_natCast]; exact hc, bd, hbd, by omega, by omega, _, by rw [Int.toNat_natCast]; exact hd, ?_⟩
      rw [byteArray_toList, byteArray_toList]
      have hiff : (xs[i].data.toList == ys[i].data.toList) = decide (xs[i] = ys[i]) := by
        rw [Bool.eq_iff_iff, beq_iff_eq, decide_eq_true_iff]
        constructor
        · intro h
          generalize xs[i] = x at h
          generalize ys[i] = y at h
          cases x; cases y
          simp only at h
          rw [Array.toList_inj.1 h]
        · intro h; rw [h]
      rw [hiff]
      refine ifK_not (fun hne => ?_) (fun hee => ?_)
      · have hne : ¬ xs[i] = ys[i] := of_decide_eq_false hne
        have : ¬ xs = ys := fun e => hne (by subst e; rfl)
        have h := h w5 m5
        rwa [decide_eq_false this] at h
      · have hb : xs[i] = ys[i] := of_decide_eq_true hee
        refine ⟨⟨i + 1, rfl, hlt', m5, ?_⟩, by simp only; omega⟩
        rw [List.take_add_one, List.take_add_one, heq, List.getElem?_eq_getElem (by omega), List.getElem?_eq_getElem (by omega), hb]
    · have h := h w4 m4
      have hi' : i = al := by omega
      rw [List.take_of_length_le (by omega), List.take_of_length_le (by omega)] at heq
      rwa [decide_eq_true heq] at h
end Go.Proofs.Ytemklabamlifdaa

/- Arguments that are structs, opened field by field. It names no program. -/
namespace Go.Proofs.Ytemklabamlifdaa.St
open Go Go.ChangeShapes Go.WideShapes Go.Deep

section
variable {H : Type} {enc : TypeId × Value → H} {P : Program} {w : World} {base : Nat} {spare : Nat → Bool} {held : Bool}
theorem open_agg {r : Reach} {b0 : Nat} {t : TypeId} {fs : Array Field} {v : Value} {d : DataW H} {p : List MemPlace} (hs : P.underlying t = some (.struct fs)) (hone : oneCellFields P fs = true) (hC : P.cellsOf t = fs.size)
    (hv : Value.okWide P w r b0 t v) (h : DataW.Trod enc P w base spare held t v d p) :
    ∃ (cs : Array Value) (ys : List (DataW H × List MemPlace)) (n : Nat), v = .agg cs ∧ cs.size = fs.size ∧ d = .agg (ys.map (·.1)) ∧ ys.length = fs.size ∧
      ∀ (j : Nat) (f : Field), fs[j]? = some f → ∃ c y, cs[j]? = some c ∧ ys[j]? = some y ∧ DataW.trod enc P w base spare held n f.type [c] = some y := by
  obtain ⟨cs, rfl, hsz⟩ := okWide_struct hs hv
  obtain ⟨fuel, hf⟩ := h
  obtain ⟨ys, n, _, hy, _, hlen, hg⟩ := DataW.trod_struct hs hf
  simp only [Prod.mk.injEq] at hy
  refine ⟨cs, ys, n, rfl, hsz.trans hC, hy.1, hlen, fun j f hj => ?_⟩
  obtain ⟨ho, hk⟩ := hone_of hone j f hj
  have hjl : j < fs.size := (Array.getElem?_eq_some_iff.1 hj).1
  have hjc : j < cs.size := by rw [hsz, hC]; exact hjl
  have hg := hg j f hj
  rw [ho, hk] at hg
  have hone' : ((Value.agg cs).cells.toList.drop j).take 1 = [cs[j]] := by
    show (cs.toList.drop j).take 1 = _
    rw [List.drop_eq_getElem_cons (by simpa using hjc)]
    simp
  rw [hone'] at hg
  have hys : ys[j]? = some (ys[j]'(by omega)) := List.getElem?_eq_getElem (by omega)
  exact ⟨cs[j], _, Array.getElem?_eq_getElem hjc, hys, hg.trans hys⟩
theorem agg_weights {t : TypeId} {fs : Array Field} {ys : List (DataW H × List MemPlace)} (hs : P.underlying t = some (.struct fs)) {j : Nat} {f : Field} (hj : fs[j]? = some f) {y : DataW H × List MemPlace} (hy : ys[j]? = some y)
    {B : Nat} (h : ∀ n ∈ (DataW.agg (ys.map (·.1))).weights P t, n ≤ B) : ∀ n ∈ y.1.weights P f.type, n ≤ B := by
  intro n hn
  refine h n ?_
  rw [DataW.weights, hs]
  refine DataW.weights_mem_each (j := j) (t := f.type) (d := y.1) ?_ ?_ n hn
  · rw [List.getElem?_map, Array.getElem?_toList, hj]; rfl
  · rw [List.getElem?_map, hy]; rfl
theorem slice_weights {t e : TypeId} {elems spare' : List (DataW H)} (hs : P.underlying t = some (.slice e)) {x : DataW H} (hx : x ∈ elems ++ spare') {B : Nat} (h : ∀ n ∈ (DataW.slice elems spare').weights P t, n ≤ B) : ∀ n ∈ x.weights P e, n ≤ B := by
  have all : ∀ (l : List (DataW H)), x ∈ l → ∀ n ∈ x.weights P e, n ∈ DataW.weightsAll P e l := by
    intro l
    induction l with
    | nil => intro h; cases h
    | cons y r ih =>
      intro h n hn
      rw [DataW.weightsAll, List.mem_append]
      rcases List.mem_cons.1 h with rfl | h
      · exact .inl hn
      · exact .inr (ih h n hn)
  intro n hn
  refine h n ?_
  rw [DataW.weights, hs]
  rcases List.mem_append.1 hx with hx | hx
  · exact List.mem_cons_of_mem _ (List.mem_append_left _ (all _ hx n hn))
  · exact List.mem_cons_of_mem _ (List.mem_append_right _ (all _ hx n hn))
theorem slice_size {t e : TypeId} {elems spare' : List (DataW H)} (hs : P.underlying t = some (.slice e)) {B : Nat} (h : ∀ n ∈ (DataW.slice elems spare').weights P t, n ≤ B) : (elems.length + spare'.length) * P.bytesOf e ≤ B := by
  refine h _ ?_
  rw [DataW.weights, hs]
  exact List.mem_cons_self
end
end Go.Proofs.Ytemklabamlifdaa.St

/- Arguments that are rows of structs: they are read, never written. It names no program. -/
namespace Go.Proofs.Ytemklabamlifdaa.St
open Go Go.ChangeShapes Go.WideShapes Go.Deep

/-- An argument's row. -/
structure ArgRow {α : Type} (L : Lay α) (w : World) (a : Option Addr) (l c : Nat) (xs : List α) : Prop where
  len : xs.length = l
  lc : l ≤ c
  cm : c ≤ 9223372036854775807
  blk : ∀ ad, a = some ad → 0 < l → ad.block < w.heap.size
  get : ∀ (i : Nat) (h : i < xs.length), ∃ ad, a = some ad ∧ ∀ j v, (L.cs xs[i])[j]? = some v → w.cell? (Addr.add (Addr.add ad (i * L.s)) j) = some v
theorem cell_no {w w' : World} (h : Mod no w w') {ad : Addr} (hb : ad.block < w.heap.size) : w'.cell? ad = w.cell? ad := by
  have := h.keep ad.block hb id
  unfold World.cell?
  rw [this]
theorem add_block (ad : Addr) (n : Nat) : (Addr.add ad n).block = ad.block := by unfold Addr.add; split <;> rfl
theorem ArgRow.no {α : Type} {L : Lay α} {w w' : World} {a : Option Addr} {l c : Nat} {xs : List α} (h : ArgRow L w a l c xs) (hm : Mod no w w') : ArgRow L w' a l c xs := by
  refine ⟨h.len, h.lc, h.cm, fun ad had hl => Nat.lt_of_lt_of_le (h.blk ad had hl) hm.size, fun i hi => ?_⟩
  obtain ⟨ad, had, hg⟩ := h.get i hi
  refine ⟨ad, had, fun j v hj => ?_⟩
  rw [cell_no hm (by rw [add_block, add_block]; exact h.blk ad had (by have := h.len; omega))]
  exact hg j v hj
theorem cell_lt {w : World} {ad : Addr} {v : Value} (h : w.cell? ad = some v) : ad.block < w.heap.size := by
  unfold World.cell? at h
  cases hh : w.heap[ad.block]? with
  | none => rw [hh] at h; cases h
  | some o => exact lt_of_heap hh

section
variable {H : Type} {enc : TypeId × Value → H} {P : Program} {w : World} {base : Nat} {spare : Nat → Bool} {held : Bool}
theorem open_slice_fields {t e : TypeId} {fs : Array Field} {fuel : Nat} {cs : List Value} {x : DataW H × List MemPlace} (ht : P.underlying t = some (.slice e)) (he : P.underlying e = some (.struct fs))
    (hone : oneCellFields P fs = true) (hC : P.cellsOf e = fs.size) (h : DataW.trod enc P w base spare held fuel t cs = some x) :
    (cs = [.slice none 0 0] ∧ x = (.nil, [])) ∨
    ∃ (a : Addr) (len cap m : Nat) (D : Nat → DataW H) (Pl : Nat → List MemPlace), cs = [.slice (some a) len cap] ∧ base ≤ a.block ∧ len ≤ cap ∧ cap ≤ maxLen ∧ m = (if spare a.block then cap else len) ∧
      x = (.slice ((List.range len).map D) ((List.range (m - len)).map fun j => D (len + j)), MemPlace.row a (m * fs.size) ++ (List.range m).flatMap Pl) ∧
      ∀ i, i < m → ∃ (ys : List (DataW H × List MemPlace)) (n : Nat), D i = .agg (ys.map (·.1)) ∧ Pl i = ys.flatMap (·.2) ∧ ys.length = fs.size ∧
        ∀ (j : Nat) (f : Field), fs[j]? = some f → ∃ (v : Value) (y : DataW H × List MemPlace), w.cell? (a.add (i * fs.size + j)) = some v ∧ ys[j]? = some y ∧ DataW.trod enc P w base spare held n f.type [v] = some y := by
  rcases open_slice ht h with h0 | ⟨a, len, cap, m, n, D, Pl, hcs, hb, hl, hm, hmm, hx, hi⟩
  · exact .inl h0
  · refine .inr ⟨a, len, cap, m, D, Pl, hcs, hb, hl, hm, hmm, by rw [hC] at hx; exact hx, fun i him => ?_⟩
    obtain ⟨cs', hc, ht'⟩ := hi i him
    rw [hC] at hc
    obtain ⟨ys, n', hn', hy, hlen, hyl, hf⟩ := DataW.trod_struct he ht'
    obtain ⟨_, hcl, hat⟩ := World.cells?_some hc
    simp only [Prod.mk.injEq] at hy
    refine ⟨ys, n', hy.1, hy.2, hyl, fun j f hj => ?_⟩
    obtain ⟨ho, hk⟩ := hone_of hone j f hj
    have hjl : j < fs.size := (Array.getElem?_eq_some_iff.1 hj).1
    have hcell := hat j hjl
    have hv : cs'[j]? = some (cs'[j]'(by omega)) := List.getElem?_eq_getElem (by omega)
    have h1 := hf j f hj
    rw [ho, hk] at h1
    have hone' : (cs'.drop j).take 1 = [cs'[j]'(by omega)] := by
      rw [List.drop_eq_getElem_cons (by omega)]
      rfl
    rw [hone'] at h1
    have hys : ys[j]? = some (ys[j]'(by omega)) := List.getElem?_eq_getElem (by omega)
    refine ⟨_, _, ?_, hys, h1.trans hys⟩
    rw [← Go.Deep.add_add, hcell, hv]
end

/-- An argument of a slice type whose elements are such structs: each is read as Q says. -/
theorem args_row {H : Type} {enc : TypeId × Value → H} {P : Program} {w : World} {v : Value} {d : DataW H} {p : List MemPlace} {base : Nat} {r : Reach} {b0 : Nat} {t e : TypeId} {fs : Array Field} {α : Type} [Inhabited α] {L : Lay α} (Q : α → Prop) {B : Nat}
    (ht : P.underlying t = some (.slice e)) (he : P.underlying e = some (.struct fs)) (hone : oneCellFields P fs = true) (hC : P.cellsOf e = fs.size) (hs : L.s = fs.size)
    (hv : Value.okWide P w r b0 t v) (h : DataW.Trod enc P w base (fun _ => true) true t v d p) (hz : ∀ n ∈ d.weights P t, n ≤ B)
    (hx : ∀ (ys : List (DataW H × List MemPlace)) (n : Nat) (V : Nat → Value), (∀ (j : Nat) (f : Field), fs[j]? = some f → ∃ y, ys[j]? = some y ∧ DataW.trod enc P w base (fun _ => true) true n f.type [V j] = some y ∧ ∀ m ∈ y.1.weights P f.type, m ≤ B) →
      ∃ x : α, (∀ j u, (L.cs x)[j]? = some u → V j = u) ∧ Q x) :
    ∃ a l c xs, v = .slice a l c ∧ ArgRow L w a l c xs ∧ (∀ x ∈ xs, Q x) ∧ c * P.bytesOf e ≤ B := by
  obtain ⟨a, l, c, rfl⟩ := okWide_slice ht hv
  obtain ⟨fuel, hf⟩ := h
  rcases open_slice_fields ht he hone hC hf with ⟨hcs, _⟩ | ⟨ad, len, cap, m, D, Pl, hcs, _, hl, hm, hmm, hxx, hi⟩
  · simp only [Value.cells, List.cons.injEq, and_true] at hcs
    injection hcs with h1 h2 h3
    subst h1; subst h2; subst h3
    exact ⟨none, 0, 0, [], rfl, ⟨rfl, Nat.le_refl _, by decide, fun ad h => (by cases h), fun i h => (by simp at h)⟩, fun x h => (by cases h), by rw [Nat.zero_mul]; exact Nat.zero_le _⟩
  · simp only [Value.cells, List.cons.injEq, and_true] at hcs
    injection hcs with h1 h2 h3
    subst h1; subst h2; subst h3
    have hmc : m = c := by rw [hmm]; rfl
    have hd : d = .slice ((List.range l).map D) ((List.range (m - l)).map fun j => D (l + j)) := congrArg Prod.fst hxx
    have hone : ∀ i, i < l → ∃ x : α, (∀ j u, (L.cs x)[j]? = some u → w.cell? (Addr.add ad (i * L.s + j)) = some u) ∧ Q x := by
      intro i hil
      obtain ⟨ys, n, hD, _, _, hg⟩ := hi i (by omega)
      have hDz : ∀ n ∈ (D i).weights P e, n ≤ B := by
        rw [hd] at hz
        exact slice_weights ht (List.mem_append_left _ (List.mem_map.2 ⟨i, List.mem_range.2 hil, rfl⟩)) hz
      have hch : ∀ j, ∃ v : Value, ∀ f, fs[j]? = some f → w.cell? (ad.add (i * fs.size + j)) = some v ∧ ∃ y, ys[j]? = some y ∧ DataW.trod enc P w base (fun _ => true) true n f.type [v] = some y := by
        intro j
        cases hj : fs[j]? with
        | none => exact ⟨.tuple #[], fun f hf => by cases hf⟩
        | some f =>
          obtain ⟨v, y, q1, q2, q3⟩ := hg j f hj
          exact ⟨v, fun f' hf' => by cases hf'; exact ⟨q1, y, q2, q3⟩⟩
      obtain ⟨V, hV⟩ := Classical.axiomOfChoice hch
      obtain ⟨x, hx1, hx2⟩ := hx ys n V fun j f hj => by
        obtain ⟨_, y, q2, q3⟩ := hV j f hj
        rw [hD] at hDz
        exact ⟨y, q2, q3, agg_weights he hj q2 hDz⟩
      refine ⟨x, fun j u hj => ?_, hx2⟩
      have hjs : j < fs.size := by
        have := (List.getElem?_eq_some_iff.1 hj).1
        rw [L.len] at this
        omega
      have := (hV j _ (Array.getElem?_eq_getElem hjs)).1
      rw [hs, this, hx1 j u hj]
    have hall : ∀ i, ∃ x : α, i < l → (∀ j u, (L.cs x)[j]? = some u → w.cell? (Addr.add ad (i * L.s + j)) = some u) ∧ Q x := by
      intro i
      by_cases h : i < l
      · obtain ⟨x, hx⟩ := hone i h
        exact ⟨x, fun _ => hx⟩
      · exact ⟨default, fun h' => absurd h' h⟩
    obtain ⟨f, hf⟩ := Classical.axiomOfChoice hall
    refine ⟨some ad, l, c, (List.range l).map f, rfl, ⟨by simp, hl, by simpa [maxLen] using hm, fun ad' had hl0 => ?_, fun i h => ?_⟩, fun x hx => ?_, ?_⟩
    · cases had
      have hp := (hf 0 hl0).1 0 ((L.cs (f 0))[0]'(by rw [L.len]; exact L.pos)) (List.getElem?_eq_getElem _)
      have := cell_lt hp
      rwa [add_block] at this
    · refine ⟨ad, rfl, fun j v hj => ?_⟩
      rw [List.getElem_map, List.getElem_range] at hj
      have := (hf i (by simpa using h)).1 j v hj
      rwa [← Go.Deep.add_add] at this
    · obtain ⟨i, hi, rfl⟩ := List.mem_map.1 hx
      exact (hf i (List.mem_range.1 hi)).2
    · rw [hd] at hz
      have := slice_size ht hz
      rw [List.length_map, List.length_map, List.length_range, List.length_range, show l + (m - l) = c by omega] at this
      exact this
end Go.Proofs.Ytemklabamlifdaa.St

/- The store laws' acts, as they lie; whether a list of them is light. -/
namespace Go.Proofs.Ytemklabamlifdaa
open Go Go.ChangeShapes Go.WideShapes Go.Deep Go.Proofs.Ytemklabamlifdaa.St

structure ActS where
  kind : Int
  a : ByteArray
  b : ByteArray
  da : Option Addr
  dl : Nat
  dc : Nat
  data : Bs
  n : Int
  m : Int
instance actInh : Inhabited ActS := ⟨⟨0, ByteArray.empty, ByteArray.empty, none, 0, 0, [], 0, 0⟩⟩
def actL : Lay ActS where
  cs x := [.int .i64 x.kind, .string x.a, .string x.b, .slice x.da x.dl x.dc, .int .i64 x.n, .int .i64 x.m]
  s := 6
  pos := by decide
  len _ := rfl
  one x v hv := by simp at hv; rcases hv with rfl | rfl | rfl | rfl | rfl | rfl <;> rfl
/-- An act's bytes lie there; nothing is longer than a machine can hold. -/
structure ActOk (w : World) (x : ActS) : Prop where
  rd : Rd w x.da x.dl x.dc x.data
  dc : x.dc ≤ 140737488355328
  na : x.a.size ≤ 140737488355328
  nb : x.b.size ≤ 140737488355328
  nn : x.n ≤ 9223372036854775807
theorem ActOk.no {w w' : World} {x : ActS} (h : ActOk w x) (hm : Mod no w w') : ActOk w' x := ⟨h.rd.no hm, h.dc, h.na, h.nb, h.nn⟩
structure Acts (w : World) (a : Option Addr) (l c : Nat) (xs : List ActS) : Prop where
  row : ArgRow actL w a l c xs
  ok : ∀ x ∈ xs, ActOk w x
theorem Acts.no {w w' : World} {a : Option Addr} {l c : Nat} {xs : List ActS} (h : Acts w a l c xs) (hm : Mod no w w') : Acts w' a l c xs := ⟨h.row.no hm, fun x hx => (h.ok x hx).no hm⟩

theorem cellsAct : Try.prog.cellsOf 48 = 6 := by kernel_rfl
set_option maxRecDepth 100000 in
theorem args_acts {H : Type} {enc : TypeId × Value → H} {w : World} {v : Value} {d : DataW H} {p : List MemPlace} {base : Nat} {r : Reach} {b0 : Nat} (hv : Value.okWide Try.prog w r b0 45 v) (h : DataW.Trod enc Try.prog w base (fun _ => true) true 45 v d p)
    (hz : ∀ n ∈ d.weights Try.prog 45, n ≤ reachBytes) : ∃ a l c xs, v = .slice a l c ∧ Acts w a l c xs := by
  obtain ⟨a, l, c, xs, rfl, h1, h2, _⟩ := args_row (L := actL) (ActOk w) Try.underlying45 Try.underlying48 (by kernel_rfl) cellsAct rfl hv h hz (by
    intro ys n V hg
    obtain ⟨y0, _, t0, _⟩ := hg 0 _ rfl
    obtain ⟨y1, _, t1, z1⟩ := hg 1 _ rfl
    obtain ⟨y2, _, t2, z2⟩ := hg 2 _ rfl
    obtain ⟨y3, _, t3, z3⟩ := hg 3 _ rfl
    obtain ⟨y4, _, t4, _⟩ := hg 4 _ rfl
    obtain ⟨y5, _, t5, _⟩ := hg 5 _ rfl
    obtain ⟨a0, e0, _, _⟩ := DataW.trod_int Try.underlying3 t0
    obtain ⟨a1, e1, d1, x1⟩ := DataW.trod_string Try.underlying9 t1
    obtain ⟨a2, e2, d2, x2⟩ := DataW.trod_string Try.underlying9 t2
    obtain ⟨da, dl, dc, bs, e3, hr, hdc⟩ := bytes_of_trod t3 z3
    obtain ⟨a4, e4, _, wf4⟩ := DataW.trod_int Try.underlying3 t4
    obtain ⟨a5, e5, _, _⟩ := DataW.trod_int Try.underlying3 t5
    simp only [List.cons.injEq, and_true] at e0 e1 e2 e3 e4 e5
    have hb : reachBytes ≤ 140737488355328 := by decide
    refine ⟨⟨a0, a1, a2, da, dl, dc, bs, a4, a5⟩, fun j u hj => ?_, hr, hdc, ?_, ?_, ?_⟩
    · match j, hj with
      | 0, hj => cases hj; exact e0
      | 1, hj => cases hj; exact e1
      | 2, hj => cases hj; exact e2
      | 3, hj => cases hj; exact e3
      | 4, hj => cases hj; exact e4
      | 5, hj => cases hj; exact e5
      | j + 6, hj => simp [actL] at hj
    · rw [d1] at z1
      exact Nat.le_trans (z1 _ (by simp [DataW.weights])) hb
    · rw [d2] at z2
      exact Nat.le_trans (z2 _ (by simp [DataW.weights])) hb
    · have wf4 : (decide ((-9223372036854775808 : Int) ≤ a4) && decide (a4 ≤ 9223372036854775807)) = true := wf4
      rw [Bool.and_eq_true, decide_eq_true_iff, decide_eq_true_iff] at wf4
      exact wf4.2)
  exact ⟨a, l, c, xs, rfl, h1, h2⟩

/-- One of the acts is copied into a place of its own. -/
theorem copyAct {w : World} {a : Option Addr} {l c : Nat} {xs : List ActS} (hr : Acts w a l c xs) {x : Int} (i : Nat) (hx : x = i) (hi : i < xs.length) {K : World → Prop}
    (hk : ∀ w', w'.heap[w.heap.size]? = some (.cells (actL.cs xs[i]).toArray 48 (0, 0)) → Mod no w w' → K w') :
    ∃ ad : Addr, a = some ad ∧ (0 : Int) ≤ x ∧ x < (↑l : Int) ∧ ∃ x0 : Int, w.cell? (Addr.add (Addr.add ad (Int.toNat x * 6)) 0) = some (.int .i64 x0) ∧
      ∃ x1 : ByteArray, w.cell? (Addr.add (Addr.add ad (Int.toNat x * 6)) 1) = some (.string x1) ∧ ∃ x2 : ByteArray, w.cell? (Addr.add (Addr.add ad (Int.toNat x * 6)) 2) = some (.string x2) ∧
      ∃ (p3 : Option Addr) (l3 c3 : Nat), w.cell? (Addr.add (Addr.add ad (Int.toNat x * 6)) 3) = some (.slice p3 l3 c3) ∧ ∃ x4 : Int, w.cell? (Addr.add (Addr.add ad (Int.toNat x * 6)) 4) = some (.int .i64 x4) ∧
      ∃ x5 : Int, w.cell? (Addr.add (Addr.add ad (Int.toNat x * 6)) 5) = some (.int .i64 x5) ∧
      atW (w.alloc (.cells ⟨[.int .i64 0, .string ⟨#[]⟩, .string ⟨#[]⟩, .slice none 0 0, .int .i64 0, .int .i64 0]⟩ 48 (0, 0))) fun w1 => fillC w.heap.size [.int .i64 x0, .string x1, .string x2, .slice p3 l3 c3, .int .i64 x4, .int .i64 x5] 0 w1 K := by
  subst hx
  obtain ⟨ad, had, hg⟩ := hr.row.get i hi
  have hl := hr.row.len
  have hg : ∀ j v, (actL.cs xs[i])[j]? = some v → w.cell? (Addr.add (Addr.add ad (Int.toNat (i : Int) * 6)) j) = some v := hg
  refine ⟨_, had, by omega, by omega, _, hg 0 _ rfl, _, hg 1 _ rfl, _, hg 2 _ rfl, _, _, _, hg 3 _ rfl, _, hg 4 _ rfl, _, hg 5 _ rfl, ?_⟩
  intro w2 e2
  have m2 : Mod no w w2 := by subst e2; exact Mod.alloc _ _
  have b2 : w2.heap[w.heap.size]? = some (.cells #[.int .i64 0, .string (ByteArray.mk #[]), .string (ByteArray.mk #[]), .slice none 0 0, .int .i64 0, .int .i64 0] 48 (0, 0)) := by subst e2; exact new_at _ _
  clear e2
  refine fillC_ok (vs := actL.cs xs[i]) b2 rfl fun w3 b3 m3 _ => hk w3 b3 (m2.new m3 fun k hk => by cases hk; exact Nat.le_refl _)

theorem light_ok (a : Option Addr) (l c : Nat) (xs : List ActS) (w : World) (hr : Acts w a l c xs) (R : Value → World → Prop) (h : ∀ w' b, Mod no w w' → (b = true → l ≤ 250 ∧ ∀ x ∈ xs, x.dl ≤ 20000) → R (.bool b) w') : Ca Try.prog 27 #[.slice a l c] w R := by
  have hl := hr.row.len
  refine ca27 a l c w R ?_
  refine ⟨fun n x w' => ∃ (i k : Nat), x = i ∧ n = k ∧ i ≤ k ∧ k ≤ 250 ∧ i ≤ l ∧ Mod no w w' ∧ ∀ j (hj : j < xs.length), j < i → xs[j].dl ≤ 20000, fun _ x _ => ((l : Int) - x).toNat, ⟨0, 0, rfl, rfl, Nat.zero_le _, by decide, Nat.zero_le _, Mod.refl _ _, fun j _ h => by omega⟩, ?_⟩
  rintro _ _ _ w1 ⟨i, k, rfl, rfl, hik, hk, hi, m1, hall⟩
  refine ifK_dec (fun hlt => ?_) (fun hge => h w1 true m1 fun _ => ⟨by omega, fun x hx => by
    obtain ⟨j, hj, rfl⟩ := List.getElem_of_mem hx
    exact hall j hj (by omega)⟩)
  have hil : i < xs.length := by omega
  refine copyAct (hr.no m1) i rfl hil fun w2 b2 m2 => ?_
  have hok := hr.ok xs[i] (List.getElem_mem hil)
  have h1 := hok.rd.le
  have h2 := hok.dc
  have h3 := hok.na
  have h4 := hok.nb
  refine ⟨_, _, _, by rw [cl1 b2]; rfl, _, by rw [cl1 b2]; rfl, _, by rw [cl1 b2]; rfl, by decide, ?_⟩
  obtain ⟨q1, hq1⟩ : ∃ q1, (xs[i]).dl = q1 := ⟨_, rfl⟩
  rw [hq1] at h1 ⊢
  generalize (xs[i]).dc = q2 at h1 h2
  generalize (xs[i]).a.size = q3 at h3
  generalize (xs[i]).b.size = q4 at h4
  clear hok b2
  have e1 : IntKind.i64.wrap (IntKind.i64.wrap ((q1 : Int) + (q3 : Int)) + (q4 : Int)) = ((q1 + q3 + q4 : Nat) : Int) := by rw [wrap64 (x := (q1 : Int) + (q3 : Int)) (by omega) (by omega), wrap64 (by omega) (by omega)]; omega
  have e2 : Int.tdiv ((q1 + q3 + q4 : Nat) : Int) 50 = ((q1 + q3 + q4) / 50 : Nat) := by rw [Int.tdiv_eq_ediv_of_nonneg (by omega)]; omega
  rw [e1, e2]
  have e3 : IntKind.i64.wrap (((q1 + q3 + q4) / 50 : Nat) : Int) = ((q1 + q3 + q4) / 50 : Nat) := wrap64 (by omega) (by omega)
  rw [e3]
  have e4 : IntKind.i64.wrap (1 + (((q1 + q3 + q4) / 50 : Nat) : Int)) = (1 + (q1 + q3 + q4) / 50 : Nat) := by rw [wrap64 (by omega) (by omega)]; omega
  rw [e4]
  have e5 : IntKind.i64.wrap ((k : Int) + ((1 + (q1 + q3 + q4) / 50 : Nat) : Int)) = (k + (1 + (q1 + q3 + q4) / 50) : Nat) := by rw [wrap64 (by omega) (by omega)]; omega
  rw [e5]
  have e6 : IntKind.i64.wrap ((i : Int) + 1) = ((i + 1 : Nat) : Int) := by rw [wrap64 (by omega) (by omega)]; rfl
  rw [e6]
  have hz1 : q1 / 50 ≤ (q1 + q3 + q4) / 50 := Nat.div_le_div_right (by omega)
  generalize (q1 + q3 + q4) / 50 = z at hz1
  refine ifK_dec (fun _ => h w2 false (m1.trans m2) fun h => by cases h) (fun hz => ?_)
  refine ⟨⟨i + 1, k + (1 + z), rfl, rfl, by omega, by omega, by omega, m1.trans m2, fun j hj hji => ?_⟩, by simp only; omega⟩
  by_cases e : j = i
  · subst e; omega
  · exact hall j hj (by omega)
end Go.Proofs.Ytemklabamlifdaa

/- The walk of StoreKeeps. -/
namespace Go.Proofs.Ytemklabamlifdaa
open Go Go.Proofs.Ytemklabamlifdaa.St

/-! ### The plain law -/
def kp (all : List (Bs × Bs)) (dir sure : List (ByteArray × Nat)) (dark : Bool) (n : Int) : AS := ⟨100000, all, dir, sure, dark, n, 0, 0⟩
section
variable (x y : Bs)
theorem kp1 : (AS.new 100000).make nA = (kp [([], [])] [(nA, 0)] [] false 1, 0) := rfl
theorem kp2 (h : x.length ≤ 5000) : (kp [([], [])] [(nA, 0)] [] false 1).write nA x = (kp [(x, [])] [(nA, 0)] [] false 2, 0) := by
  rw [AS.write, if_pos (show (kp [([], [])] [(nA, 0)] [] false 1).known nA = 0 from rfl), if_neg (by show ¬ (100000 : Int) - ((16 + 0 + 0 : Nat) : Int) < x.length; omega)]; rfl
theorem kp3 : (kp [(x, [])] [(nA, 0)] [] false 2).sync nA = (kp [(x, x)] [(nA, 0)] [] false 3, 0) := rfl
theorem kp4 : (kp [(x, x)] [(nA, 0)] [] false 3).commit = (kp [(x, x)] [(nA, 0)] [(nA, 0)] false 4, 0) := rfl
theorem kp5 (h : x.length + y.length ≤ 5000) : (kp [(x, x)] [(nA, 0)] [(nA, 0)] false 4).write nA y = (kp [(x ++ y, x)] [(nA, 0)] [(nA, 0)] false 5, 0) := by
  rw [AS.write, if_pos (show (kp [(x, x)] [(nA, 0)] [(nA, 0)] false 4).known nA = 0 from rfl), if_neg (by show ¬ (100000 : Int) - ((16 + x.length + 0 : Nat) : Int) < y.length; omega)]; rfl
theorem kp6 (h : x.length + y.length ≤ 5000) : (kp [(x ++ y, x)] [(nA, 0)] [(nA, 0)] false 5).make nB = (kp [(x ++ y, x), ([], [])] [(nA, 0), (nB, 1)] [(nA, 0)] false 6, 0) := by
  have e : (kp [(x ++ y, x)] [(nA, 0)] [(nA, 0)] false 5).known nB = 3 := rfl
  rw [AS.make, if_neg (by rw [e]; decide), if_pos e, if_neg (by show ¬ (100000 : Int) - ((16 + (x ++ y).length + 0 : Nat) : Int) < 16; rw [List.length_append]; omega)]
  have : dset nB 1 [(nA, 0)] = [(nA, 0), (nB, 1)] := by decide +kernel
  show (kp ([(x ++ y, x)] ++ [([], [])]) (dset nB 1 [(nA, 0)]) [(nA, 0)] false 6, (0 : Int)) = _
  rw [this]; rfl
theorem kp7 : (kp [(x ++ y, x), ([], [])] [(nA, 0), (nB, 1)] [(nA, 0)] false 6).sync nB = (kp [(x ++ y, x), ([], [])] [(nA, 0), (nB, 1)] [(nA, 0)] false 7, 0) := by
  have e : (kp [(x ++ y, x), ([], [])] [(nA, 0), (nB, 1)] [(nA, 0)] false 6).known nB = 0 := by
    show (if goodB nB = false then (2 : Int) else if dget [(nA, 0), (nB, 1)] nB = none then 3 else 0) = 0
    have h1 : goodB nB = true := by decide +kernel
    have h2 : dget [(nA, 0), (nB, 1)] nB = some 1 := by decide +kernel
    rw [h1, h2]; rfl
  rw [AS.sync, if_pos e]
  have h2 : (dget [(nA, 0), (nB, 1)] nB).getD 0 = 1 := by decide +kernel
  show (kp ([(x ++ y, x), ([], [])].modify ((dget [(nA, 0), (nB, 1)] nB).getD 0) fun f => (f.1, f.1)) [(nA, 0), (nB, 1)] [(nA, 0)] false 7, (0 : Int)) = _
  rw [h2]; rfl
theorem take_keep (k : Nat) : (x ++ y).take (x.length + min k ((x ++ y).length - x.length)) = x ++ y.take (min k y.length) := by
  rw [List.take_append, List.length_append, List.take_of_length_le (by omega)]
  congr 2
  omega
theorem kp8 (keep : Int) : ((kp [(x ++ y, x), ([], [])] [(nA, 0), (nB, 1)] [(nA, 0)] false 7).fail keep).power = kp [(x ++ y.take (min keep.toNat y.length), x ++ y.take (min keep.toNat y.length)), ([], [])] [(nA, 0)] [(nA, 0)] false 7 := by
  have h : failF keep (x ++ y, x) = (x ++ y.take (min keep.toNat y.length), x ++ y.take (min keep.toNat y.length)) := by
    rw [failF, if_pos ⟨by simp, by simp⟩]
    simp only [take_keep]
  show kp [failF keep (x ++ y, x), failF keep ([], [])] _ _ _ _ = _
  rw [h]
  have h0 : failF keep ([], []) = ([], []) := by simp [failF]
  rw [h0]; rfl
theorem kp9 (z : Bs) : (kp [(z, z), ([], [])] [(nA, 0)] [(nA, 0)] false 7).read nA = (z, 0) := rfl
theorem kp10 (z : Bs) : (kp [(z, z), ([], [])] [(nA, 0)] [(nA, 0)] false 7).names = [nA] := rfl
end

/-! ### The walk -/
theorem boxS (w : World) (n : ByteArray) (K : World → Prop) (hK : ∀ w', Strs w' (some ⟨w.heap.size, 0, none⟩) 1 1 [n] → Mod no w w' → K w') : atW (w.alloc (.cells #[.string n] 9)) K := by
  intro w' e
  have m : Mod no w w' := by subst e; exact Mod.alloc _ _
  have b : w'.heap[w.heap.size]? = some (.cells #[.string n] 9 (0, 0)) := by subst e; exact new_at _ _
  exact hK w' (Els.lit (fun _ => rfl) b [n] rfl (by show 1 ≤ maxLen; decide)) m

theorem Strs.no {w w' : World} {a : Option Addr} {l c : Nat} {xs : List ByteArray} (h : Strs w a l c xs) (hm : Mod no w w') : Strs w' a l c xs := row_mod h hm fun _ _ => id

/-- append(append([]byte{}, first...), more[:n]...). -/
theorem glue {w37 : World} {fa ma : Option Addr} {fl fc ml mc n : Nat} {x y : Bs} (hx : Rd w37 fa fl fc x) (hy : Rd w37 ma ml mc y) (hn : n ≤ ml) (hl : fl + ml ≤ 1099511627776) (K : Option Addr → Nat → Nat → World → Prop)
    (hK : ∀ w45 p l c, Rd w45 p l c (x ++ y.take n) → Mod no w37 w45 → K p l c w45) :
    atW (w37.alloc (.cells #[] 5)) fun w38 => ∃ v39 w40, (Builtin.append_ #[24, 24] 24 #[.slice (some ⟨w37.heap.size, 0, none⟩) 0 0, .slice fa fl fc]).run Try.prog w38 = .ok v39 w40 ∧ ∃ p41 n42 n43, v39 = .slice p41 n42 n43 ∧
      ∃ v44 w45, (Builtin.append_ #[24, 24] 24 #[.slice p41 n42 n43, .slice (if mc = 0 then ma else Option.map (fun x => Addr.add x 0) ma) n mc]).run Try.prog w40 = .ok v44 w45 ∧ ∃ p46 n47 n48, v44 = .slice p46 n47 n48 ∧ K p46 n47 n48 w45 := by
  intro w38 e38
  have m38 : Mod no w37 w38 := by subst e38; exact Mod.alloc _ _
  have b38 : w38.heap[w37.heap.size]? = some (.cells #[] 5 (0, 0)) := by subst e38; exact new_at _ _
  clear e38
  have r0 : Els u8v 5 w38 (some ⟨w37.heap.size, 0, none⟩) 0 0 [] := Els.lit u8one b38 [] rfl (Nat.zero_le _)
  have hx1 := hx.no m38
  have hxl := hx.len
  have hyl := hy.len
  obtain ⟨a', c', w40, hrun, h2, h3, h4⟩ := r0.push (P := Try.prog) (ty := 24) u8one bytesLaid (ys := x) (m := fl) (cc := fc) hx1.len hx1.all hx1.nil (by omega)
  have m40 : Mod no w37 w40 := m38.new h3 fun k hk => by simp [rowB] at hk; omega
  refine ⟨_, w40, hrun, _, _, _, rfl, ?_⟩
  rw [sub0]
  have hy1 := (hy.no m40).take hn
  obtain ⟨a2, c2, w45, hrun2, g2, g3, g4⟩ := h2.push (P := Try.prog) (ty := 24) u8one bytesLaid (ys := y.take n) (m := n) (cc := mc) hy1.len hy1.all hy1.nil (by omega)
  refine ⟨_, w45, hrun2, _, _, _, rfl, hK w45 _ _ _ (Rd.of_els g2) (m40.new g3 fun k hk => ?_)⟩
  rcases h4 k hk with h | h
  · simp [rowB] at h; omega
  · exact Nat.le_trans m38.size h

theorem keeps_end {w w50 : World} {s : Nat} {F : Nat → Prop} {a : AS} (hs : SB w w50 s F a) (hn : a.names = [nA]) (R : Value → World → Prop) (hR : ∀ w', Mod no w w' → R (.bool true) w') :
    (Ca Try.prog 23 #[.pointer (some ⟨s, 0, none⟩)] w50 fun v52 w53 => ∃ p54 n55 n56, v52 = .slice p54 n55 n56 ∧ atW (w53.alloc (.cells #[.string nA] 9)) fun w57 =>
      Ca Try.prog 22 #[.slice p54 n55 n56, .slice (some ⟨w53.heap.size, 0, none⟩) 1 1] w57 fun v58 w59 => ∃ b60, v58 = .bool b60 ∧ ifK b60 (Ca Try.prog 12 #[] w59 fun v61 w62 => ∃ b63, v61 = .bool b63 ∧ R (.bool b63) w62) (R (.bool false) w59)) ∧
    atW (w50.alloc (.cells #[.string nA] 9)) fun w64 => Ca Try.prog 23 #[.pointer (some ⟨s, 0, none⟩)] w64 fun v65 w66 => ∃ p67 n68 n69, v65 = .slice p67 n68 n69 ∧
      Ca Try.prog 22 #[.slice p67 n68 n69, .slice (some ⟨w50.heap.size, 0, none⟩) 1 1] w66 fun v70 w71 => ∃ b72, v70 = .bool b72 ∧ ifK b72 (Ca Try.prog 12 #[] w71 fun v73 w74 => ∃ b75, v73 = .bool b75 ∧ R (.bool b75) w74) (R (.bool false) w71) := by
  have fin : ∀ w59, Mod no w w59 → ∃ b60, Value.bool (decide (([nA] : List ByteArray) = [nA])) = .bool b60 ∧ ifK b60 (Ca Try.prog 12 #[] w59 fun v61 w62 => ∃ b63, v61 = .bool b63 ∧ R (.bool b63) w62) (R (.bool false) w59) := by
    intro w59 m59
    refine ⟨_, rfl, ?_⟩
    rw [decide_eq_true rfl]
    refine (ifK_of (fun _ => ?_) (fun h => by cases h) : ifK true _ _)
    exact lives_ok w59 _ fun w62 m62 => ⟨_, rfl, hR w62 (m59.trans m62)⟩
  constructor
  · refine names_ok hs.st _ fun w53 p l c hp m53 _ => ⟨p, l, c, rfl, ?_⟩
    rw [hn] at hp
    refine boxS w53 nA _ fun w57 hb m57 => ?_
    have hl := hp.len.1
    simp only [List.length_singleton] at hl
    exact texts_ok (hp.no m57) hb (by omega) _ fun w59 m59 => fin w59 (((hs.mod.trans m53).trans m57).trans m59)
  · refine boxS w50 nA _ fun w64 hb m64 => ?_
    refine names_ok (hs.no m64).st _ fun w66 p l c hp m66 _ => ⟨p, l, c, rfl, ?_⟩
    have hn' : a.names = [nA] := hn
    rw [hn'] at hp
    have hl := hp.len.1
    simp only [List.length_singleton] at hl
    exact texts_ok hp (hb.no m66) (by omega) _ fun w59 m59 => fin w59 (((hs.mod.trans m64).trans m66).trans m59)

theorem keeps_walk (fa : Option Addr) (fl fc : Nat) (x : Bs) (ma : Option Addr) (ml mc : Nat) (y : Bs) (keep : Int) (w : World) (hx : RdA w fa fl fc x) (hy : RdA w ma ml mc y) (R : Value → World → Prop) (hR : ∀ w', Mod no w w' → R (.bool true) w') :
    Ca Try.prog 4 #[.slice fa fl fc, .slice ma ml mc, .int .i64 keep] w R := by
  refine ca4 fa fl fc ma ml mc keep w R ?_
  obtain ⟨hx, hxm⟩ := hx
  obtain ⟨hy, hym⟩ := hy
  have hxl := hx.len
  have hyl := hy.len
  have hxc := hx.le
  have hyc := hy.le
  refine ifK_dec (fun _ => lives_ok w _ fun w1 m1 => ⟨_, rfl, hR w1 m1⟩) (fun hle => ?_)
  have hle : x.length + y.length ≤ 5000 := by
    rw [wrap64 (by omega) (by omega)] at hle
    omega
  have hn : nA.size < 4611686018427387904 := by decide
  have hnb : nB.size < 4611686018427387904 := by decide
  have apart : ∀ {w' : World} {s : Nat} {F : Nat → Prop} {a : AS} {p : Option Addr} {l c : Nat} {z : Bs}, SB w w' s F a → Rd w p l c z → 0 < l → ∀ k, rowB p k → ¬ F k := fun hs hz h0 k hk hf => by
    have := hs.lo k hf
    have := hz.lt h0 k hk
    omega
  refine new_ok 100000 w _ (fun h => by rcases h with h | h <;> exact absurd h (by decide)) fun _ _ w1 s h1 m1 => ⟨_, rfl, (ifK_of (fun h => by cases h) (fun _ => ?_) : ifK false _ _)⟩
  obtain ⟨F, h1⟩ := SB.new h1 m1
  refine make_ok h1.st nA hn _ fun w2 hp => ?_
  rw [kp1] at hp ⊢
  obtain ⟨F, h2, _, _⟩ := h1.step hp
  refine ⟨_, rfl, (ifK_of (fun h => by cases h) (fun _ => ?_) : ifK false _ _)⟩
  refine write_ok h2.st nA hn (hx.no h2.mod) (apart h2 hx) _ fun w3 hp => ?_
  rw [kp2 x (by omega)] at hp ⊢
  obtain ⟨F, h3, _, _⟩ := h2.step hp
  refine ⟨_, rfl, (ifK_of (fun h => by cases h) (fun _ => ?_) : ifK false _ _)⟩
  refine sync_ok h3.st nA hn _ fun w4 hp => ?_
  rw [kp3] at hp ⊢
  obtain ⟨F, h4, _, _⟩ := h3.step hp
  refine ⟨_, rfl, (ifK_of (fun h => by cases h) (fun _ => ?_) : ifK false _ _)⟩
  refine commit_ok h4.st _ fun w5 hp => ?_
  rw [kp4] at hp ⊢
  obtain ⟨F, h5, _, _⟩ := h4.step hp
  refine ⟨_, rfl, (ifK_of (fun h => by cases h) (fun _ => ?_) : ifK false _ _)⟩
  refine write_ok h5.st nA hn (hy.no h5.mod) (apart h5 hy) _ fun w6 hp => ?_
  rw [kp5 x y hle] at hp ⊢
  obtain ⟨F, h6, _, _⟩ := h5.step hp
  refine ⟨_, rfl, (ifK_of (fun h => by cases h) (fun _ => ?_) : ifK false _ _)⟩
  refine make_ok h6.st nB hnb _ fun w7 hp => ?_
  rw [kp6 x y hle] at hp ⊢
  obtain ⟨F, h7, _, _⟩ := h6.step hp
  refine ⟨_, rfl, (ifK_of (fun h => by cases h) (fun _ => ?_) : ifK false _ _)⟩
  refine sync_ok h7.st nB hnb _ fun w8 hp => ?_
  rw [kp7] at hp ⊢
  obtain ⟨F, h8, _, _⟩ := h7.step hp
  refine ⟨_, rfl, (ifK_of (fun h => by cases h) (fun _ => ?_) : ifK false _ _)⟩
  refine fail2_ok h8.st keep _ fun w9 hp => ⟨rfl, ?_⟩
  obtain ⟨F, h9, _, _⟩ := h8.step hp
  refine power3_ok h9.st _ fun w10 hp => ⟨rfl, ?_⟩
  rw [kp8] at hp
  obtain ⟨F, h10, _, _⟩ := h9.step hp
  refine read_ok h10.st nA hn _ fun w11 p l c hr m11 _ => ?_
  rw [kp9] at hr ⊢
  have h11 := h10.no m11
  refine ⟨p, l, c, 0, rfl, ?_⟩
  have rest : ∀ (n : Nat), n ≤ ml → n = min keep.toNat y.length → ∀ w50 w45 : World, Mod no w11 w45 → Mod no w45 w50 →
      ∃ b51, Value.bool (decide (x ++ y.take (min keep.toNat y.length) = x ++ y.take n)) = .bool b51 ∧ (b51 = true ∧ SB w w50 s F (kp [(x ++ y.take (min keep.toNat y.length), x ++ y.take (min keep.toNat y.length)), ([], [])] [(nA, 0)] [(nA, 0)] false 7)) := by
    intro n _ hn w50 w45 m45 m50
    exact ⟨_, rfl, by rw [hn]; simp, (h11.no m45).no m50⟩
  have hx11 := hx.no h11.mod
  have hy11 := hy.no h11.mod
  refine ifK_dec (fun hneg => ?_) (fun hneg => ifK_dec (fun hbig => ?_) (fun hbig => ?_))
  · intro w37 e37
    have m37 : Mod no w11 w37 := by subst e37; exact Mod.drew _
    clear e37
    refine (ifK_of (fun _ => ?_) (fun h => by cases h) : ifK true _ _)
    refine ⟨by decide, by decide, by omega, ?_⟩
    refine glue (n := 0) (hx11.no m37) (hy11.no m37) (Nat.zero_le _) (by omega) _ fun w45 q l' c' hq m45 => ?_
    refine same_ok ((Rd.of_els hr).no (m37.trans m45)) hq _ ?_
    obtain ⟨b, hb, hbt, h50⟩ := rest 0 (by omega) (by omega) w45 w45 (m37.trans m45) (Mod.refl _ _)
    refine ⟨b, hb, ?_⟩
    subst hbt
    refine (ifK_of (fun _ => ?_) (fun h => by cases h) : ifK true _ _)
    exact keeps_end h50 (kp10 _) R hR
  · intro w37 e37
    have m37 : Mod no w11 w37 := by subst e37; exact Mod.drew _
    clear e37
    refine (ifK_of (fun _ => ?_) (fun h => by cases h) : ifK true _ _)
    refine ⟨by decide, by omega, by omega, ?_⟩
    rw [Int.toNat_natCast]
    refine glue (n := ml) (hx11.no m37) (hy11.no m37) (Nat.le_refl _) (by omega) _ fun w45 q l' c' hq m45 => ?_
    refine same_ok ((Rd.of_els hr).no (m37.trans m45)) hq _ ?_
    obtain ⟨b, hb, hbt, h50⟩ := rest ml (by omega) (by omega) w45 w45 (m37.trans m45) (Mod.refl _ _)
    refine ⟨b, hb, ?_⟩
    subst hbt
    refine (ifK_of (fun _ => ?_) (fun h => by cases h) : ifK true _ _)
    exact keeps_end h50 (kp10 _) R hR
  · intro w37 e37
    have m37 : Mod no w11 w37 := by subst e37; exact Mod.drew _
    clear e37
    refine (ifK_of (fun _ => ?_) (fun h => by cases h) : ifK true _ _)
    refine ⟨by decide, by omega, by omega, ?_⟩
    refine glue (n := keep.toNat) (hx11.no m37) (hy11.no m37) (by omega) (by omega) _ fun w45 q l' c' hq m45 => ?_
    refine same_ok ((Rd.of_els hr).no (m37.trans m45)) hq _ ?_
    obtain ⟨b, hb, hbt, h50⟩ := rest keep.toNat (by omega) (by omega) w45 w45 (m37.trans m45) (Mod.refl _ _)
    refine ⟨b, hb, ?_⟩
    subst hbt
    refine (ifK_of (fun _ => ?_) (fun h => by cases h) : ifK true _ _)
    exact keeps_end h50 (kp10 _) R hR
end Go.Proofs.Ytemklabamlifdaa

/- The formulas of functions, printed by a program of mine (gen.py) out of the translation. -/
namespace Go.Proofs.Ytemklabamlifdaa
open Go Go.Proofs.Ytemklabamlifdaa.St
set_option maxRecDepth 100000

/-- staith/staithlaw11.StoreRoom -/
noncomputable def C6 : Code := (Try.f6.body).getD .skip
def pl6 : Nat → Plan := fun _ => .done
def ls6 : Nat → List (Nat × LT)
  | 8 => [(34, (.one (.int .i64)))]
  | 18 => [(0, .agg []), (12, (.one (.int .i64)))]
  | 31 => [(142, (.one (.int .i64)))]
  | _ => []
def W6 (room : Int) (actsa : Option Addr) (actsl : Nat) (actsc : Nat) (w : World) (R : Value → World → Prop) : Prop :=
  (((200 : Int) ≠ 0) ∧ (Ca Try.prog (13) (Array.mk [Value.int IntKind.i64 (IntKind.wrap IntKind.i64 (Int.tmod room 200))]) (w) (fun v0 => (fun w1 =>
    (∃ p2 : Option Addr, ((v0 = Value.pointer p2) ∧ (ifK (Option.isNone p2)
      (ifK (!Option.isNone p2)
        (Ca Try.prog (12) (Array.mk []) (w1) (fun v3 => (fun w4 =>
          (∃ b5 : Bool, ((v3 = Value.bool b5) ∧ (R (Value.bool b5) (w4)))))))
        (R (Value.bool false) (w1)))
      (Ca Try.prog (27) (Array.mk [Value.slice actsa actsl actsc]) (w1) (fun v6 => (fun w7 =>
        (∃ b8 : Bool, ((v6 = Value.bool b8) ∧ (ifK (!b8)
          (ifK (!Option.isNone p2)
            (Ca Try.prog (12) (Array.mk []) (w7) (fun v9 => (fun w10 =>
              (∃ b11 : Bool, ((v9 = Value.bool b11) ∧ (R (Value.bool b11) (w10)))))))
            (R (Value.bool false) (w7)))
          (∃ z12 : Int → World → Prop, (∃ z13 : Int → World → Nat, ((z12 (0) (w7)) ∧ (∀ (_ : Nat → Value), (∀ (x15 : Int), (∀ (w16 : World), ((z12 (x15) (w16)) → (ifK (decide (x15 < (↑actsl : Int)))
            (∃ a17 : Addr, ((actsa = some a17) ∧ (((0 : Int) ≤ x15) ∧ (((x15 : Int) < (↑actsl : Int)) ∧ (∃ x18 : Int, ((World.cell? w16 (Addr.add (Addr.add a17 (Int.toNat x15 * 6)) 0) = some (Value.int IntKind.i64 x18)) ∧ (∃ s19 : ByteArray, ((World.cell? w16 (Addr.add (Addr.add a17 (Int.toNat x15 * 6)) 1) = some (Value.string s19)) ∧ (∃ s20 : ByteArray, ((World.cell? w16 (Addr.add (Addr.add a17 (Int.toNat x15 * 6)) 2) = some (Value.string s20)) ∧ (∃ p21 : Option Addr, (∃ n22 : Nat, (∃ n23 : Nat, ((World.cell? w16 (Addr.add (Addr.add a17 (Int.toNat x15 * 6)) 3) = some (Value.slice p21 n22 n23)) ∧ (∃ x24 : Int, ((World.cell? w16 (Addr.add (Addr.add a17 (Int.toNat x15 * 6)) 4) = some (Value.int IntKind.i64 x24)) ∧ (∃ x25 : Int, ((World.cell? w16 (Addr.add (Addr.add a17 (Int.toNat x15 * 6)) 5) = some (Value.int IntKind.i64 x25)) ∧ (atW (World.alloc w16 (Obj.cells (Array.mk [Value.int IntKind.i64 0, Value.string (ByteArray.mk #[]), Value.string (ByteArray.mk #[]), Value.slice none 0 0, Value.int IntKind.i64 0, Value.int IntKind.i64 0]) 48 (0, 0))) (fun w26 =>
              ((∃ v27 : Value, (World.cell? w26 (Addr.add (Addr.mk (Array.size (World.heap w16)) 0 none) 0) = some v27)) ∧ ((World.frozen? w26 (Addr.add (Addr.mk (Array.size (World.heap w16)) 0 none) 0) = false) ∧ (atW (World.setCell w26 (Addr.add (Addr.mk (Array.size (World.heap w16)) 0 none) 0) (Value.int IntKind.i64 x18)) (fun w28 =>
                ((∃ v29 : Value, (World.cell? w28 (Addr.add (Addr.mk (Array.size (World.heap w16)) 0 none) 1) = some v29)) ∧ ((World.frozen? w28 (Addr.add (Addr.mk (Array.size (World.heap w16)) 0 none) 1) = false) ∧ (atW (World.setCell w28 (Addr.add (Addr.mk (Array.size (World.heap w16)) 0 none) 1) (Value.string s19)) (fun w30 =>
                  ((∃ v31 : Value, (World.cell? w30 (Addr.add (Addr.mk (Array.size (World.heap w16)) 0 none) 2) = some v31)) ∧ ((World.frozen? w30 (Addr.add (Addr.mk (Array.size (World.heap w16)) 0 none) 2) = false) ∧ (atW (World.setCell w30 (Addr.add (Addr.mk (Array.size (World.heap w16)) 0 none) 2) (Value.string s20)) (fun w32 =>
                    ((∃ v33 : Value, (World.cell? w32 (Addr.add (Addr.mk (Array.size (World.heap w16)) 0 none) 3) = some v33)) ∧ ((World.frozen? w32 (Addr.add (Addr.mk (Array.size (World.heap w16)) 0 none) 3) = false) ∧ (atW (World.setCell w32 (Addr.add (Addr.mk (Array.size (World.heap w16)) 0 none) 3) (Value.slice p21 n22 n23)) (fun w34 =>
                      ((∃ v35 : Value, (World.cell? w34 (Addr.add (Addr.mk (Array.size (World.heap w16)) 0 none) 4) = some v35)) ∧ ((World.frozen? w34 (Addr.add (Addr.mk (Array.size (World.heap w16)) 0 none) 4) = false) ∧ (atW (World.setCell w34 (Addr.add (Addr.mk (Array.size (World.heap w16)) 0 none) 4) (Value.int IntKind.i64 x24)) (fun w36 =>
                        ((∃ v37 : Value, (World.cell? w36 (Addr.add (Addr.mk (Array.size (World.heap w16)) 0 none) 5) = some v37)) ∧ ((World.frozen? w36 (Addr.add (Addr.mk (Array.size (World.heap w16)) 0 none) 5) = false) ∧ (atW (World.setCell w36 (Addr.add (Addr.mk (Array.size (World.heap w16)) 0 none) 5) (Value.int IntKind.i64 x25)) (fun w38 =>
                          (∃ x39 : Int, ((World.cell? w38 (Addr.add (Addr.mk (Array.size (World.heap w16)) 0 none) 0) = some (Value.int IntKind.i64 x39)) ∧ (ifK (decide (x39 < 0))
                            ((z12 (IntKind.wrap IntKind.i64 (x15 + 1)) (w38)) ∧ (z13 (IntKind.wrap IntKind.i64 (x15 + 1)) w38 < z13 x15 w16))
                            (∃ x40 : Int, ((World.cell? w38 (Addr.add (Addr.mk (Array.size (World.heap w16)) 0 none) 0) = some (Value.int IntKind.i64 x40)) ∧ (ifK (decide (x40 > 6))
                              ((z12 (IntKind.wrap IntKind.i64 (x15 + 1)) (w38)) ∧ (z13 (IntKind.wrap IntKind.i64 (x15 + 1)) w38 < z13 x15 w16))
                              (Ca Try.prog (28) (Array.mk [Value.pointer p2]) (w38) (fun v41 => (fun w42 =>
                                (∃ x43 : Int, ((v41 = Value.int IntKind.i64 x43) ∧ (Ca Try.prog (29) (Array.mk [Value.pointer p2]) (w42) (fun v44 => (fun w45 =>
                                  (∃ x46 : Int, ((v44 = Value.int IntKind.i64 x46) ∧ (Ca Try.prog (23) (Array.mk [Value.pointer p2]) (w45) (fun v47 => (fun w48 =>
                                    (∃ p49 : Option Addr, (∃ n50 : Nat, (∃ n51 : Nat, ((v47 = Value.slice p49 n50 n51) ∧ (∃ z52 : Int → World → Prop, ((∃ x53 : Int, ((World.cell? w48 (Addr.add (Addr.mk (Array.size (World.heap w16)) 0 none) 0) = some (Value.int IntKind.i64 x53)) ∧ (ifK (x53 == 0)
                                      (∃ s54 : ByteArray, ((World.cell? w48 (Addr.add (Addr.mk (Array.size (World.heap w16)) 0 none) 1) = some (Value.string s54)) ∧ (Ca Try.prog (14) (Array.mk [Value.pointer p2, Value.string s54]) (w48) (fun v55 => (fun w56 =>
                                        (∃ x57 : Int, ((v55 = Value.int IntKind.i64 x57) ∧ (z52 (x57) (w56)))))))))
                                      (ifK (x53 == 1)
                                        (∃ s58 : ByteArray, ((World.cell? w48 (Addr.add (Addr.mk (Array.size (World.heap w16)) 0 none) 1) = some (Value.string s58)) ∧ (∃ p59 : Option Addr, (∃ n60 : Nat, (∃ n61 : Nat, ((World.cell? w48 (Addr.add (Addr.mk (Array.size (World.heap w16)) 0 none) 3) = some (Value.slice p59 n60 n61)) ∧ (Ca Try.prog (15) (Array.mk [Value.pointer p2, Value.string s58, Value.slice p59 n60 n61]) (w48) (fun v62 => (fun w63 =>
                                          (∃ x64 : Int, ((v62 = Value.int IntKind.i64 x64) ∧ (z52 (x64) (w63)))))))))))))
                                        (ifK (x53 == 2)
                                          (∃ s65 : ByteArray, ((World.cell? w48 (Addr.add (Addr.mk (Array.size (World.heap w16)) 0 none) 1) = some (Value.string s65)) ∧ (∃ x66 : Int, ((World.cell? w48 (Addr.add (Addr.mk (Array.size (World.heap w16)) 0 none) 4) = some (Value.int IntKind.i64 x66)) ∧ (Ca Try.prog (30) (Array.mk [Value.pointer p2, Value.string s65, Value.int IntKind.i64 x66]) (w48) (fun v67 => (fun w68 =>
                                            (∃ x69 : Int, ((v67 = Value.int IntKind.i64 x69) ∧ (z52 (x69) (w68)))))))))))
                                          (ifK (x53 == 3)
                                            (∃ s70 : ByteArray, ((World.cell? w48 (Addr.add (Addr.mk (Array.size (World.heap w16)) 0 none) 1) = some (Value.string s70)) ∧ (Ca Try.prog (16) (Array.mk [Value.pointer p2, Value.string s70]) (w48) (fun v71 => (fun w72 =>
                                              (∃ x73 : Int, ((v71 = Value.int IntKind.i64 x73) ∧ (z52 (x73) (w72)))))))))
                                            (ifK (x53 == 4)
                                              (∃ s74 : ByteArray, ((World.cell? w48 (Addr.add (Addr.mk (Array.size (World.heap w16)) 0 none) 1) = some (Value.string s74)) ∧ (∃ s75 : ByteArray, ((World.cell? w48 (Addr.add (Addr.mk (Array.size (World.heap w16)) 0 none) 2) = some (Value.string s75)) ∧ (Ca Try.prog (25) (Array.mk [Value.pointer p2, Value.string s74, Value.string s75]) (w48) (fun v76 => (fun w77 =>
                                                (∃ x78 : Int, ((v76 = Value.int IntKind.i64 x78) ∧ (z52 (x78) (w77)))))))))))
                                              (ifK (x53 == 5)
                                                (∃ s79 : ByteArray, ((World.cell? w48 (Addr.add (Addr.mk (Array.size (World.heap w16)) 0 none) 1) = some (Value.string s79)) ∧ (Ca Try.prog (31) (Array.mk [Value.pointer p2, Value.string s79]) (w48) (fun v80 => (fun w81 =>
                                                  (∃ x82 : Int, ((v80 = Value.int IntKind.i64 x82) ∧ (z52 (x82) (w81)))))))))
                                                (ifK (x53 == 6)
                                                  (Ca Try.prog (17) (Array.mk [Value.pointer p2]) (w48) (fun v83 => (fun w84 =>
                                                    (∃ x85 : Int, ((v83 = Value.int IntKind.i64 x85) ∧ (z52 (x85) (w84)))))))
                                                  (z52 (0) (w48))))))))))) ∧ (∀ (_ : Nat → Value), (∀ (x87 : Int), (∀ (w88 : World), ((z52 (x87) (w88)) → (Ca Try.prog (28) (Array.mk [Value.pointer p2]) (w88) (fun v89 => (fun w90 =>
                                      (∃ x91 : Int, ((v89 = Value.int IntKind.i64 x91) ∧ (ifK (decide (x91 > IntKind.wrap IntKind.i64 (Int.tmod room 200)))
                                        (R (Value.bool false) (w90))
                                        (ifK (x87 != 0)
                                          (Ca Try.prog (28) (Array.mk [Value.pointer p2]) (w90) (fun v92 => (fun w93 =>
                                            (∃ x94 : Int, ((v92 = Value.int IntKind.i64 x94) ∧ (ifK (x94 != x43)
                                              (R (Value.bool false) (w93))
                                              (Ca Try.prog (29) (Array.mk [Value.pointer p2]) (w93) (fun v95 => (fun w96 =>
                                                (∃ x97 : Int, ((v95 = Value.int IntKind.i64 x97) ∧ (ifK (x97 != x46)
                                                  (R (Value.bool false) (w96))
                                                  (Ca Try.prog (23) (Array.mk [Value.pointer p2]) (w96) (fun v98 => (fun w99 =>
                                                    (∃ p100 : Option Addr, (∃ n101 : Nat, (∃ n102 : Nat, ((v98 = Value.slice p100 n101 n102) ∧ (Ca Try.prog (22) (Array.mk [Value.slice p100 n101 n102, Value.slice p49 n50 n51]) (w99) (fun v103 => (fun w104 =>
                                                      (∃ b105 : Bool, ((v103 = Value.bool b105) ∧ (ifK (!b105)
                                                        (R (Value.bool false) (w104))
                                                        (ifK (x87 == 0)
                                                          (Ca Try.prog (29) (Array.mk [Value.pointer p2]) (w104) (fun v106 => (fun w107 =>
                                                            (∃ x108 : Int, ((v106 = Value.int IntKind.i64 x108) ∧ (ifK (x108 != IntKind.wrap IntKind.i64 (x46 + 1))
                                                              (R (Value.bool false) (w107))
                                                              ((z12 (IntKind.wrap IntKind.i64 (x15 + 1)) (w107)) ∧ (z13 (IntKind.wrap IntKind.i64 (x15 + 1)) w107 < z13 x15 w16))))))))
                                                          ((z12 (IntKind.wrap IntKind.i64 (x15 + 1)) (w104)) ∧ (z13 (IntKind.wrap IntKind.i64 (x15 + 1)) w104 < z13 x15 w16))))))))))))))))))))))))))))
                                          (ifK (x87 == 0)
                                            (Ca Try.prog (29) (Array.mk [Value.pointer p2]) (w90) (fun v109 => (fun w110 =>
                                              (∃ x111 : Int, ((v109 = Value.int IntKind.i64 x111) ∧ (ifK (x111 != IntKind.wrap IntKind.i64 (x46 + 1))
                                                (R (Value.bool false) (w110))
                                                ((z12 (IntKind.wrap IntKind.i64 (x15 + 1)) (w110)) ∧ (z13 (IntKind.wrap IntKind.i64 (x15 + 1)) w110 < z13 x15 w16))))))))
                                            ((z12 (IntKind.wrap IntKind.i64 (x15 + 1)) (w90)) ∧ (z13 (IntKind.wrap IntKind.i64 (x15 + 1)) w90 < z13 x15 w16)))))))))))))))))))))))))))))))))))))))))))))))))))))))))))))))))))))))))))))))))))
            (Ca Try.prog (23) (Array.mk [Value.pointer p2]) (w16) (fun v112 => (fun w113 =>
              (∃ p114 : Option Addr, (∃ n115 : Nat, (∃ n116 : Nat, ((v112 = Value.slice p114 n115 n116) ∧ (∃ z117 : Int → World → Prop, (∃ z118 : Int → World → Nat, ((z117 (0) (w113)) ∧ (∀ (_ : Nat → Value), (∀ (x120 : Int), (∀ (w121 : World), ((z117 (x120) (w121)) → (ifK (decide (x120 < (↑n115 : Int)))
                (∃ a122 : Addr, ((p114 = some a122) ∧ (((0 : Int) ≤ x120) ∧ (((x120 : Int) < (↑n115 : Int)) ∧ (∃ s123 : ByteArray, ((World.cell? w121 (Addr.add a122 (Int.toNat x120 * 1)) = some (Value.string s123)) ∧ (Ca Try.prog (31) (Array.mk [Value.pointer p2, Value.string s123]) (w121) (fun v124 => (fun w125 =>
                  (∃ x126 : Int, ((v124 = Value.int IntKind.i64 x126) ∧ (ifK (x126 != 0)
                    (R (Value.bool false) (w125))
                    ((z117 (IntKind.wrap IntKind.i64 (x120 + 1)) (w125)) ∧ (z118 (IntKind.wrap IntKind.i64 (x120 + 1)) w125 < z118 x120 w121))))))))))))))
                (Ca Try.prog (28) (Array.mk [Value.pointer p2]) (w121) (fun v127 => (fun w128 =>
                  (∃ x129 : Int, ((v127 = Value.int IntKind.i64 x129) ∧ (ifK (x129 == 0)
                    (Ca Try.prog (12) (Array.mk []) (w128) (fun v130 => (fun w131 =>
                      (∃ b132 : Bool, ((v130 = Value.bool b132) ∧ (R (Value.bool b132) (w131)))))))
                    (R (Value.bool false) (w128))))))))))))))))))))))))))))))))))))))))))))
theorem ca6 (room : Int) (actsa : Option Addr) (actsl : Nat) (actsc : Nat) (w : World) (R : Value → World → Prop) (h : W6 room actsa actsl actsc w R) : Ca Try.prog 6 ⟨[(.int .u64 room), (.slice actsa actsl actsc)]⟩ w R := by
  have h1 : Try.prog.follows .mixedOrders = true := by kernel_rfl
  have h2 : Try.f6.body = some C6 := by kernel_rfl
  have h3 : (Try.f6.name == "runtime.NumGoroutine") = false := by kernel_rfl
  have h6 : Try.f6.results.toList = [.tmp 4] := by kernel_rfl
  have h4 : Nat.ble 2 157 = true := by kernel_rfl
  have h5 : okCode 157 pl6 ls6 C6 0 = true := by kernel_rfl
  have e : W6 room actsa actsl actsc w R = wpC none Try.prog 157 pl6 ls6 C6 0 (endP Try.prog [.tmp 4] R) (fr0 [(.int .u64 room), (.slice actsa actsl actsc)]) [] w := by kernel_rfl
  exact ca_of' (P := Try.prog) (g := 6) (fn := Try.f6) (c := C6) (m := 157) (rs := [.tmp 4]) (args := [(.int .u64 room), (.slice actsa actsl actsc)]) (pl := pl6) (ls := ls6) (w := w) (R := R) h1 Try.func6 h2 Try.ntmps6 h6 h3 h4 h5 (Eq.mp e h)

/-- staith/staithlaw11.StoreTwice -/
noncomputable def C7 : Code := (Try.f7.body).getD .skip
def pl7 : Nat → Plan := fun _ => .done
def ls7 : Nat → List (Nat × LT)
  | 8 => [(37, (.one (.int .i64)))]
  | 20 => [(12, (.one .slice)), (57, (.one (.int .i64)))]
  | 33 => [(84, (.one (.int .i64)))]
  | _ => []
def W7 (actsa : Option Addr) (actsl : Nat) (actsc : Nat) (a_ : Int) (b : Int) (w : World) (R : Value → World → Prop) : Prop :=
  (Ca Try.prog (13) (Array.mk [Value.int IntKind.i64 10000]) (w) (fun v0 => (fun w1 =>
    (∃ p2 : Option Addr, ((v0 = Value.pointer p2) ∧ (Ca Try.prog (32) (Array.mk [Value.int IntKind.i64 10000]) (w1) (fun v3 => (fun w4 =>
      (∃ p5 : Option Addr, ((v3 = Value.pointer p5) ∧ (ifK (Option.isNone p2)
        (ifK (!Option.isNone p2)
          (Ca Try.prog (12) (Array.mk []) (w4) (fun v6 => (fun w7 =>
            (∃ b8 : Bool, ((v6 = Value.bool b8) ∧ (R (Value.bool b8) (w7)))))))
          (R (Value.bool false) (w4)))
        (Ca Try.prog (27) (Array.mk [Value.slice actsa actsl actsc]) (w4) (fun v9 => (fun w10 =>
          (∃ b11 : Bool, ((v9 = Value.bool b11) ∧ (ifK (!b11)
            (ifK (!Option.isNone p2)
              (Ca Try.prog (12) (Array.mk []) (w10) (fun v12 => (fun w13 =>
                (∃ b14 : Bool, ((v12 = Value.bool b14) ∧ (R (Value.bool b14) (w13)))))))
              (R (Value.bool false) (w10)))
            (∃ z15 : Int → World → Prop, (∃ z16 : Int → World → Nat, ((z15 (0) (w10)) ∧ (∀ (_ : Nat → Value), (∀ (x18 : Int), (∀ (w19 : World), ((z15 (x18) (w19)) → (ifK (decide (x18 < (↑actsl : Int)))
              (∃ a20 : Addr, ((actsa = some a20) ∧ (((0 : Int) ≤ x18) ∧ (((x18 : Int) < (↑actsl : Int)) ∧ (∃ x21 : Int, ((World.cell? w19 (Addr.add (Addr.add a20 (Int.toNat x18 * 6)) 0) = some (Value.int IntKind.i64 x21)) ∧ (∃ s22 : ByteArray, ((World.cell? w19 (Addr.add (Addr.add a20 (Int.toNat x18 * 6)) 1) = some (Value.string s22)) ∧ (∃ s23 : ByteArray, ((World.cell? w19 (Addr.add (Addr.add a20 (Int.toNat x18 * 6)) 2) = some (Value.string s23)) ∧ (∃ p24 : Option Addr, (∃ n25 : Nat, (∃ n26 : Nat, ((World.cell? w19 (Addr.add (Addr.add a20 (Int.toNat x18 * 6)) 3) = some (Value.slice p24 n25 n26)) ∧ (∃ x27 : Int, ((World.cell? w19 (Addr.add (Addr.add a20 (Int.toNat x18 * 6)) 4) = some (Value.int IntKind.i64 x27)) ∧ (∃ x28 : Int, ((World.cell? w19 (Addr.add (Addr.add a20 (Int.toNat x18 * 6)) 5) = some (Value.int IntKind.i64 x28)) ∧ (atW (World.alloc w19 (Obj.cells (Array.mk [Value.int IntKind.i64 0, Value.string (ByteArray.mk #[]), Value.string (ByteArray.mk #[]), Value.slice none 0 0, Value.int IntKind.i64 0, Value.int IntKind.i64 0]) 48 (0, 0))) (fun w29 =>
                ((∃ v30 : Value, (World.cell? w29 (Addr.add (Addr.mk (Array.size (World.heap w19)) 0 none) 0) = some v30)) ∧ ((World.frozen? w29 (Addr.add (Addr.mk (Array.size (World.heap w19)) 0 none) 0) = false) ∧ (atW (World.setCell w29 (Addr.add (Addr.mk (Array.size (World.heap w19)) 0 none) 0) (Value.int IntKind.i64 x21)) (fun w31 =>
                  ((∃ v32 : Value, (World.cell? w31 (Addr.add (Addr.mk (Array.size (World.heap w19)) 0 none) 1) = some v32)) ∧ ((World.frozen? w31 (Addr.add (Addr.mk (Array.size (World.heap w19)) 0 none) 1) = false) ∧ (atW (World.setCell w31 (Addr.add (Addr.mk (Array.size (World.heap w19)) 0 none) 1) (Value.string s22)) (fun w33 =>
                    ((∃ v34 : Value, (World.cell? w33 (Addr.add (Addr.mk (Array.size (World.heap w19)) 0 none) 2) = some v34)) ∧ ((World.frozen? w33 (Addr.add (Addr.mk (Array.size (World.heap w19)) 0 none) 2) = false) ∧ (atW (World.setCell w33 (Addr.add (Addr.mk (Array.size (World.heap w19)) 0 none) 2) (Value.string s23)) (fun w35 =>
                      ((∃ v36 : Value, (World.cell? w35 (Addr.add (Addr.mk (Array.size (World.heap w19)) 0 none) 3) = some v36)) ∧ ((World.frozen? w35 (Addr.add (Addr.mk (Array.size (World.heap w19)) 0 none) 3) = false) ∧ (atW (World.setCell w35 (Addr.add (Addr.mk (Array.size (World.heap w19)) 0 none) 3) (Value.slice p24 n25 n26)) (fun w37 =>
                        ((∃ v38 : Value, (World.cell? w37 (Addr.add (Addr.mk (Array.size (World.heap w19)) 0 none) 4) = some v38)) ∧ ((World.frozen? w37 (Addr.add (Addr.mk (Array.size (World.heap w19)) 0 none) 4) = false) ∧ (atW (World.setCell w37 (Addr.add (Addr.mk (Array.size (World.heap w19)) 0 none) 4) (Value.int IntKind.i64 x27)) (fun w39 =>
                          ((∃ v40 : Value, (World.cell? w39 (Addr.add (Addr.mk (Array.size (World.heap w19)) 0 none) 5) = some v40)) ∧ ((World.frozen? w39 (Addr.add (Addr.mk (Array.size (World.heap w19)) 0 none) 5) = false) ∧ (atW (World.setCell w39 (Addr.add (Addr.mk (Array.size (World.heap w19)) 0 none) 5) (Value.int IntKind.i64 x28)) (fun w41 =>
                            (∃ x42 : Int, ((World.cell? w41 (Addr.add (Addr.mk (Array.size (World.heap w19)) 0 none) 0) = some (Value.int IntKind.i64 x42)) ∧ (∃ s43 : ByteArray, ((World.cell? w41 (Addr.add (Addr.mk (Array.size (World.heap w19)) 0 none) 1) = some (Value.string s43)) ∧ (∃ s44 : ByteArray, ((World.cell? w41 (Addr.add (Addr.mk (Array.size (World.heap w19)) 0 none) 2) = some (Value.string s44)) ∧ (∃ p45 : Option Addr, (∃ n46 : Nat, (∃ n47 : Nat, ((World.cell? w41 (Addr.add (Addr.mk (Array.size (World.heap w19)) 0 none) 3) = some (Value.slice p45 n46 n47)) ∧ (∃ x48 : Int, ((World.cell? w41 (Addr.add (Addr.mk (Array.size (World.heap w19)) 0 none) 4) = some (Value.int IntKind.i64 x48)) ∧ (∃ x49 : Int, ((World.cell? w41 (Addr.add (Addr.mk (Array.size (World.heap w19)) 0 none) 5) = some (Value.int IntKind.i64 x49)) ∧ (Ca Try.prog (33) (Array.mk [Value.pointer p2, Value.pointer p5, Value.agg (Array.mk (List.reverse [Value.int IntKind.i64 x49, Value.int IntKind.i64 x48, Value.slice p45 n46 n47, Value.string s44, Value.string s43, Value.int IntKind.i64 x42]))]) (w41) (fun v50 => (fun w51 =>
                              (∃ b52 : Bool, ((v50 = Value.bool b52) ∧ ((z15 (IntKind.wrap IntKind.i64 (x18 + 1)) (w51)) ∧ (z16 (IntKind.wrap IntKind.i64 (x18 + 1)) w51 < z16 x18 w19)))))))))))))))))))))))))))))))))))))))))))))))))))))))))))))))))
              (Ca Try.prog (19) (Array.mk [Value.pointer p2]) (w19) (fun v53 => (fun w54 =>
                ((v53 = Value.tuple (Array.mk (List.reverse []))) ∧ (Ca Try.prog (18) (Array.mk [Value.pointer p2, Value.int IntKind.i64 a_]) (w54) (fun v55 => (fun w56 =>
                  ((v55 = Value.tuple (Array.mk (List.reverse []))) ∧ (Ca Try.prog (19) (Array.mk [Value.pointer p2]) (w56) (fun v57 => (fun w58 =>
                    ((v57 = Value.tuple (Array.mk (List.reverse []))) ∧ (Ca Try.prog (23) (Array.mk [Value.pointer p2]) (w58) (fun v59 => (fun w60 =>
                      (∃ p61 : Option Addr, (∃ n62 : Nat, (∃ n63 : Nat, ((v59 = Value.slice p61 n62 n63) ∧ (∃ z64 : Option Addr → Nat → Nat → Int → World → Prop, (∃ z65 : Option Addr → Nat → Nat → Int → World → Nat, ((z64 (none) (0) (0) (0) (w60)) ∧ (∀ (_ : Nat → Value), (∀ (p67 : Option Addr), (∀ (n68 : Nat), (∀ (n69 : Nat), (∀ (x70 : Int), (∀ (w71 : World), ((z64 (p67) (n68) (n69) (x70) (w71)) → (ifK (decide (x70 < (↑n62 : Int)))
                        (∃ a72 : Addr, ((p61 = some a72) ∧ (((0 : Int) ≤ x70) ∧ (((x70 : Int) < (↑n62 : Int)) ∧ (∃ s73 : ByteArray, ((World.cell? w71 (Addr.add a72 (Int.toNat x70 * 1)) = some (Value.string s73)) ∧ (Ca Try.prog (20) (Array.mk [Value.pointer p2, Value.string s73]) (w71) (fun v74 => (fun w75 =>
                          (∃ p76 : Option Addr, (∃ n77 : Nat, (∃ n78 : Nat, (∃ x79 : Int, ((v74 = Value.tuple (Array.mk (List.reverse [Value.int IntKind.i64 x79, Value.slice p76 n77 n78]))) ∧ (atW (World.alloc w75 (Obj.cells (Array.mk [Value.slice p76 n77 n78]) 24 (0, 0))) (fun w80 =>
                            (∃ v81 : Value, (∃ w82 : World, ((Sem.run Try.prog (Builtin.append_ (Array.mk [55, 55]) 55 (Array.mk [Value.slice p67 n68 n69, Value.slice (some (Addr.mk (Array.size (World.heap w75)) 0 none)) 1 1])) w80 = Result.ok v81 w82) ∧ (∃ p83 : Option Addr, (∃ n84 : Nat, (∃ n85 : Nat, ((v81 = Value.slice p83 n84 n85) ∧ ((z64 (p83) (n84) (n85) (IntKind.wrap IntKind.i64 (x70 + 1)) (w82)) ∧ (z65 p83 n84 n85 (IntKind.wrap IntKind.i64 (x70 + 1)) w82 < z65 p67 n68 n69 x70 w71)))))))))))))))))))))))))
                        (Ca Try.prog (18) (Array.mk [Value.pointer p2, Value.int IntKind.i64 b]) (w71) (fun v86 => (fun w87 =>
                          ((v86 = Value.tuple (Array.mk (List.reverse []))) ∧ (Ca Try.prog (19) (Array.mk [Value.pointer p2]) (w87) (fun v88 => (fun w89 =>
                            ((v88 = Value.tuple (Array.mk (List.reverse []))) ∧ (Ca Try.prog (23) (Array.mk [Value.pointer p2]) (w89) (fun v90 => (fun w91 =>
                              (∃ p92 : Option Addr, (∃ n93 : Nat, (∃ n94 : Nat, ((v90 = Value.slice p92 n93 n94) ∧ (Ca Try.prog (22) (Array.mk [Value.slice p92 n93 n94, Value.slice p61 n62 n63]) (w91) (fun v95 => (fun w96 =>
                                (∃ b97 : Bool, ((v95 = Value.bool b97) ∧ (ifK (!b97)
                                  (R (Value.bool false) (w96))
                                  (∃ z98 : Int → World → Prop, (∃ z99 : Int → World → Nat, ((z98 (0) (w96)) ∧ (∀ (_ : Nat → Value), (∀ (x101 : Int), (∀ (w102 : World), ((z98 (x101) (w102)) → (ifK (decide (x101 < (↑n62 : Int)))
                                    (∃ a103 : Addr, ((p61 = some a103) ∧ (((0 : Int) ≤ x101) ∧ (((x101 : Int) < (↑n62 : Int)) ∧ (∃ s104 : ByteArray, ((World.cell? w102 (Addr.add a103 (Int.toNat x101 * 1)) = some (Value.string s104)) ∧ (Ca Try.prog (20) (Array.mk [Value.pointer p2, Value.string s104]) (w102) (fun v105 => (fun w106 =>
                                      (∃ p107 : Option Addr, (∃ n108 : Nat, (∃ n109 : Nat, (∃ x110 : Int, ((v105 = Value.tuple (Array.mk (List.reverse [Value.int IntKind.i64 x110, Value.slice p107 n108 n109]))) ∧ (ifK (x110 != 0)
                                        (R (Value.bool false) (w106))
                                        (∃ a111 : Addr, ((p67 = some a111) ∧ (((0 : Int) ≤ x101) ∧ (((x101 : Int) < (↑n68 : Int)) ∧ (∃ p112 : Option Addr, (∃ n113 : Nat, (∃ n114 : Nat, ((World.cell? w106 (Addr.add a111 (Int.toNat x101 * 1)) = some (Value.slice p112 n113 n114)) ∧ (Ca Try.prog (21) (Array.mk [Value.slice p107 n108 n109, Value.slice p112 n113 n114]) (w106) (fun v115 => (fun w116 =>
                                          (∃ b117 : Bool, ((v115 = Value.bool b117) ∧ (ifK (!b117)
                                            (R (Value.bool false) (w116))
                                            ((z98 (IntKind.wrap IntKind.i64 (x101 + 1)) (w116)) ∧ (z99 (IntKind.wrap IntKind.i64 (x101 + 1)) w116 < z99 x101 w102)))))))))))))))))))))))))))))))
                                    (Ca Try.prog (12) (Array.mk []) (w102) (fun v118 => (fun w119 =>
                                      (∃ b120 : Bool, ((v118 = Value.bool b120) ∧ (R (Value.bool b120) (w119)))))))))))))))))))))))))))))))))))))))))))))))))))))))))))))))))))))))))))))))))))))))))))
theorem ca7 (actsa : Option Addr) (actsl : Nat) (actsc : Nat) (a_ : Int) (b : Int) (w : World) (R : Value → World → Prop) (h : W7 actsa actsl actsc a_ b w R) : Ca Try.prog 7 ⟨[(.slice actsa actsl actsc), (.int .i64 a_), (.int .i64 b)]⟩ w R := by
  have h1 : Try.prog.follows .mixedOrders = true := by kernel_rfl
  have h2 : Try.f7.body = some C7 := by kernel_rfl
  have h3 : (Try.f7.name == "runtime.NumGoroutine") = false := by kernel_rfl
  have h6 : Try.f7.results.toList = [.tmp 6] := by kernel_rfl
  have h4 : Nat.ble 3 108 = true := by kernel_rfl
  have h5 : okCode 108 pl7 ls7 C7 0 = true := by kernel_rfl
  have e : W7 actsa actsl actsc a_ b w R = wpC none Try.prog 108 pl7 ls7 C7 0 (endP Try.prog [.tmp 6] R) (fr0 [(.slice actsa actsl actsc), (.int .i64 a_), (.int .i64 b)]) [] w := by kernel_rfl
  exact ca_of' (P := Try.prog) (g := 7) (fn := Try.f7) (c := C7) (m := 108) (rs := [.tmp 6]) (args := [(.slice actsa actsl actsc), (.int .i64 a_), (.int .i64 b)]) (pl := pl7) (ls := ls7) (w := w) (R := R) h1 Try.func7 h2 Try.ntmps7 h6 h3 h4 h5 (Eq.mp e h)

/-- staith/staithlaw11.StoreActs -/
noncomputable def C8 : Code := (Try.f8.body).getD .skip
def pl8 : Nat → Plan
  | 9 => (.quiet 0 (.quiet 1 (.quiet 2 (.eff 3 [] (.quiet 4 (.quiet 5 (.quiet 6 (.quiet 8 (.eff 7 [] (.eff 9 [] (.eff 10 [] (.quiet 11 (.quiet 12 (.quiet 13 (.quiet 14 (.quiet 16 (.eff 15 [] (.eff 17 [] (.quiet 18 (.quiet 19 (.quiet 20 (.quiet 21 (.quiet 23 (.quiet 24 (.quiet 25 (.quiet 26 (.eff 22 [26] (.quiet 27 (.quiet 28 (.quiet 29 (.quiet 30 (.quiet 32 (.quiet 33 (.quiet 34 (.quiet 35 (.eff 31 [35] (.quiet 36 (.quiet 37 .done))))))))))))))))))))))))))))))))))))))
  | _ => .done
def ls8 : Nat → List (Nat × LT)
  | 10 => [(28, (.one (.int .i64)))]
  | _ => []
def W8 (room : Int) (actsa : Option Addr) (actsl : Nat) (actsc : Nat) (w : World) (R : Value → World → Prop) : Prop :=
  (Ca Try.prog (13) (Array.mk [Value.int IntKind.i64 room]) (w) (fun v0 => (fun w1 =>
    (∃ p2 : Option Addr, ((v0 = Value.pointer p2) ∧ (Ca Try.prog (32) (Array.mk [Value.int IntKind.i64 room]) (w1) (fun v3 => (fun w4 =>
      (∃ p5 : Option Addr, ((v3 = Value.pointer p5) ∧ (ifK (!Option.isNone p2 == Option.isNone p5)
        (R (Value.bool false) (w4))
        (ifK (Option.isNone p5)
          (Ca Try.prog (12) (Array.mk []) (w4) (fun v6 => (fun w7 =>
            (∃ b8 : Bool, ((v6 = Value.bool b8) ∧ (R (Value.bool b8) (w7)))))))
          (Ca Try.prog (27) (Array.mk [Value.slice actsa actsl actsc]) (w4) (fun v9 => (fun w10 =>
            (∃ b11 : Bool, ((v9 = Value.bool b11) ∧ (ifK (!b11)
              (Ca Try.prog (12) (Array.mk []) (w10) (fun v12 => (fun w13 =>
                (∃ b14 : Bool, ((v12 = Value.bool b14) ∧ (R (Value.bool b14) (w13)))))))
              (∃ z15 : Int → World → Prop, (∃ z16 : Int → World → Nat, ((z15 (0) (w10)) ∧ (∀ (_ : Nat → Value), (∀ (x18 : Int), (∀ (w19 : World), ((z15 (x18) (w19)) → (ifK (decide (x18 < (↑actsl : Int)))
                (∃ a20 : Addr, ((actsa = some a20) ∧ (((0 : Int) ≤ x18) ∧ (((x18 : Int) < (↑actsl : Int)) ∧ (∃ x21 : Int, ((World.cell? w19 (Addr.add (Addr.add a20 (Int.toNat x18 * 6)) 0) = some (Value.int IntKind.i64 x21)) ∧ (∃ s22 : ByteArray, ((World.cell? w19 (Addr.add (Addr.add a20 (Int.toNat x18 * 6)) 1) = some (Value.string s22)) ∧ (∃ s23 : ByteArray, ((World.cell? w19 (Addr.add (Addr.add a20 (Int.toNat x18 * 6)) 2) = some (Value.string s23)) ∧ (∃ p24 : Option Addr, (∃ n25 : Nat, (∃ n26 : Nat, ((World.cell? w19 (Addr.add (Addr.add a20 (Int.toNat x18 * 6)) 3) = some (Value.slice p24 n25 n26)) ∧ (∃ x27 : Int, ((World.cell? w19 (Addr.add (Addr.add a20 (Int.toNat x18 * 6)) 4) = some (Value.int IntKind.i64 x27)) ∧ (∃ x28 : Int, ((World.cell? w19 (Addr.add (Addr.add a20 (Int.toNat x18 * 6)) 5) = some (Value.int IntKind.i64 x28)) ∧ (atW (World.alloc w19 (Obj.cells (Array.mk [Value.int IntKind.i64 0, Value.string (ByteArray.mk #[]), Value.string (ByteArray.mk #[]), Value.slice none 0 0, Value.int IntKind.i64 0, Value.int IntKind.i64 0]) 48 (0, 0))) (fun w29 =>
                  ((∃ v30 : Value, (World.cell? w29 (Addr.add (Addr.mk (Array.size (World.heap w19)) 0 none) 0) = some v30)) ∧ ((World.frozen? w29 (Addr.add (Addr.mk (Array.size (World.heap w19)) 0 none) 0) = false) ∧ (atW (World.setCell w29 (Addr.add (Addr.mk (Array.size (World.heap w19)) 0 none) 0) (Value.int IntKind.i64 x21)) (fun w31 =>
                    ((∃ v32 : Value, (World.cell? w31 (Addr.add (Addr.mk (Array.size (World.heap w19)) 0 none) 1) = some v32)) ∧ ((World.frozen? w31 (Addr.add (Addr.mk (Array.size (World.heap w19)) 0 none) 1) = false) ∧ (atW (World.setCell w31 (Addr.add (Addr.mk (Array.size (World.heap w19)) 0 none) 1) (Value.string s22)) (fun w33 =>
                      ((∃ v34 : Value, (World.cell? w33 (Addr.add (Addr.mk (Array.size (World.heap w19)) 0 none) 2) = some v34)) ∧ ((World.frozen? w33 (Addr.add (Addr.mk (Array.size (World.heap w19)) 0 none) 2) = false) ∧ (atW (World.setCell w33 (Addr.add (Addr.mk (Array.size (World.heap w19)) 0 none) 2) (Value.string s23)) (fun w35 =>
                        ((∃ v36 : Value, (World.cell? w35 (Addr.add (Addr.mk (Array.size (World.heap w19)) 0 none) 3) = some v36)) ∧ ((World.frozen? w35 (Addr.add (Addr.mk (Array.size (World.heap w19)) 0 none) 3) = false) ∧ (atW (World.setCell w35 (Addr.add (Addr.mk (Array.size (World.heap w19)) 0 none) 3) (Value.slice p24 n25 n26)) (fun w37 =>
                          ((∃ v38 : Value, (World.cell? w37 (Addr.add (Addr.mk (Array.size (World.heap w19)) 0 none) 4) = some v38)) ∧ ((World.frozen? w37 (Addr.add (Addr.mk (Array.size (World.heap w19)) 0 none) 4) = false) ∧ (atW (World.setCell w37 (Addr.add (Addr.mk (Array.size (World.heap w19)) 0 none) 4) (Value.int IntKind.i64 x27)) (fun w39 =>
                            ((∃ v40 : Value, (World.cell? w39 (Addr.add (Addr.mk (Array.size (World.heap w19)) 0 none) 5) = some v40)) ∧ ((World.frozen? w39 (Addr.add (Addr.mk (Array.size (World.heap w19)) 0 none) 5) = false) ∧ (atW (World.setCell w39 (Addr.add (Addr.mk (Array.size (World.heap w19)) 0 none) 5) (Value.int IntKind.i64 x28)) (fun w41 =>
                              (atW (World.drew w41) (fun w42 =>
                                (∃ x43 : Int, ((World.cell? w42 (Addr.add (Addr.mk (Array.size (World.heap w19)) 0 none) 0) = some (Value.int IntKind.i64 x43)) ∧ (∃ s44 : ByteArray, ((World.cell? w42 (Addr.add (Addr.mk (Array.size (World.heap w19)) 0 none) 1) = some (Value.string s44)) ∧ (∃ s45 : ByteArray, ((World.cell? w42 (Addr.add (Addr.mk (Array.size (World.heap w19)) 0 none) 2) = some (Value.string s45)) ∧ (∃ p46 : Option Addr, (∃ n47 : Nat, (∃ n48 : Nat, ((World.cell? w42 (Addr.add (Addr.mk (Array.size (World.heap w19)) 0 none) 3) = some (Value.slice p46 n47 n48)) ∧ (∃ x49 : Int, ((World.cell? w42 (Addr.add (Addr.mk (Array.size (World.heap w19)) 0 none) 4) = some (Value.int IntKind.i64 x49)) ∧ (∃ x50 : Int, ((World.cell? w42 (Addr.add (Addr.mk (Array.size (World.heap w19)) 0 none) 5) = some (Value.int IntKind.i64 x50)) ∧ (Ca Try.prog (33) (Array.mk [Value.pointer p2, Value.pointer p5, Value.agg (Array.mk (List.reverse [Value.int IntKind.i64 x50, Value.int IntKind.i64 x49, Value.slice p46 n47 n48, Value.string s45, Value.string s44, Value.int IntKind.i64 x43]))]) (w42) (fun v51 => (fun w52 =>
                                  (∃ b53 : Bool, ((v51 = Value.bool b53) ∧ (ifK (!b53)
                                    (R (Value.bool false) (w52))
                                    (Ca Try.prog (23) (Array.mk [Value.pointer p2]) (w52) (fun v54 => (fun w55 =>
                                      (∃ p56 : Option Addr, (∃ n57 : Nat, (∃ n58 : Nat, ((v54 = Value.slice p56 n57 n58) ∧ (Ca Try.prog (34) (Array.mk [Value.pointer p5]) (w55) (fun v59 => (fun w60 =>
                                        (∃ p61 : Option Addr, (∃ n62 : Nat, (∃ n63 : Nat, ((v59 = Value.slice p61 n62 n63) ∧ (Ca Try.prog (22) (Array.mk [Value.slice p56 n57 n58, Value.slice p61 n62 n63]) (w60) (fun v64 => (fun w65 =>
                                          (∃ b66 : Bool, ((v64 = Value.bool b66) ∧ (ifK (!b66)
                                            (R (Value.bool false) (w65))
                                            (Ca Try.prog (28) (Array.mk [Value.pointer p2]) (w65) (fun v67 => (fun w68 =>
                                              (∃ x69 : Int, ((v67 = Value.int IntKind.i64 x69) ∧ (Ca Try.prog (35) (Array.mk [Value.pointer p5]) (w68) (fun v70 => (fun w71 =>
                                                (∃ x72 : Int, ((v70 = Value.int IntKind.i64 x72) ∧ (ifK (x69 != x72)
                                                  (R (Value.bool false) (w71))
                                                  (onP (p5) (fun a73 =>
                                                    (∃ x74 : Int, ((World.cell? w71 (Addr.add a73 5) = some (Value.int IntKind.i64 x74)) ∧ (Ca Try.prog (29) (Array.mk [Value.pointer p2]) (w71) (fun v75 => (fun w76 =>
                                                      (∃ x77 : Int, ((v75 = Value.int IntKind.i64 x77) ∧ ((World.cell? w76 (Addr.add (Addr.add a73 5) 0) = some (Value.int IntKind.i64 x74)) ∧ (ifK (x77 != x74)
                                                        (R (Value.bool false) (w76))
                                                        (onP (p5) (fun a78 =>
                                                          (∃ b79 : Bool, ((World.cell? w76 (Addr.add a78 4) = some (Value.bool b79)) ∧ (Ca Try.prog (26) (Array.mk [Value.pointer p2]) (w76) (fun v80 => (fun w81 =>
                                                            (∃ b82 : Bool, ((v80 = Value.bool b82) ∧ ((World.cell? w81 (Addr.add (Addr.add a78 4) 0) = some (Value.bool b79)) ∧ (ifK (b82 == b79)
                                                              (R (Value.bool false) (w81))
                                                              ((z15 (IntKind.wrap IntKind.i64 (x18 + 1)) (w81)) ∧ (z16 (IntKind.wrap IntKind.i64 (x18 + 1)) w81 < z16 x18 w19)))))))))))))))))))))))))))))))))))))))))))))))))))))))))))))))))))))))))))))))))))))))))))))))))))))))))))))))))))))))))
                (Ca Try.prog (12) (Array.mk []) (w19) (fun v83 => (fun w84 =>
                  (∃ b85 : Bool, ((v83 = Value.bool b85) ∧ (R (Value.bool b85) (w84)))))))))))))))))))))))))))))))))
theorem ca8 (room : Int) (actsa : Option Addr) (actsl : Nat) (actsc : Nat) (w : World) (R : Value → World → Prop) (h : W8 room actsa actsl actsc w R) : Ca Try.prog 8 ⟨[(.int .i64 room), (.slice actsa actsl actsc)]⟩ w R := by
  have h1 : Try.prog.follows .mixedOrders = true := by kernel_rfl
  have h2 : Try.f8.body = some C8 := by kernel_rfl
  have h3 : (Try.f8.name == "runtime.NumGoroutine") = false := by kernel_rfl
  have h6 : Try.f8.results.toList = [.tmp 4] := by kernel_rfl
  have h4 : Nat.ble 2 72 = true := by kernel_rfl
  have h5 : okCode 72 pl8 ls8 C8 0 = true := by kernel_rfl
  have e : W8 room actsa actsl actsc w R = wpC none Try.prog 72 pl8 ls8 C8 0 (endP Try.prog [.tmp 4] R) (fr0 [(.int .i64 room), (.slice actsa actsl actsc)]) [] w := by kernel_rfl
  exact ca_of' (P := Try.prog) (g := 8) (fn := Try.f8) (c := C8) (m := 72) (rs := [.tmp 4]) (args := [(.int .i64 room), (.slice actsa actsl actsc)]) (pl := pl8) (ls := ls8) (w := w) (R := R) h1 Try.func8 h2 Try.ntmps8 h6 h3 h4 h5 (Eq.mp e h)

/-- staith/staithlaw11.act -/
noncomputable def C33 : Code := (Try.f33.body).getD .skip
def pl33 : Nat → Plan
  | 3 => (.quiet 0 (.quiet 1 (.quiet 2 (.quiet 4 (.quiet 5 (.quiet 6 (.eff 3 [6] (.eff 7 [] (.quiet 8 (.quiet 9 .done))))))))))
  | 6 => (.quiet 0 (.quiet 1 (.quiet 2 (.quiet 3 (.quiet 5 (.quiet 6 (.quiet 7 (.quiet 8 (.quiet 9 (.eff 4 [7, 9] (.eff 10 [] (.quiet 11 (.quiet 12 (.quiet 13 (.quiet 14 (.quiet 15 (.eff 16 [] (.quiet 17 (.quiet 18 .done)))))))))))))))))))
  | 8 => (.quiet 0 (.quiet 1 (.quiet 2 (.quiet 3 (.quiet 4 (.quiet 6 (.quiet 7 (.quiet 8 (.quiet 9 (.quiet 10 (.eff 5 [8, 10] (.eff 11 [] (.quiet 12 (.quiet 13 .done))))))))))))))
  | 10 => (.quiet 0 (.quiet 1 (.quiet 2 (.quiet 4 (.quiet 5 (.quiet 6 (.eff 3 [6] (.eff 7 [] (.quiet 8 (.quiet 9 .done))))))))))
  | 12 => (.quiet 0 (.quiet 1 (.quiet 2 (.quiet 3 (.quiet 4 (.quiet 6 (.quiet 7 (.quiet 8 (.quiet 9 (.quiet 10 (.eff 5 [8, 10] (.eff 11 [] (.quiet 12 (.quiet 13 .done))))))))))))))
  | 14 => (.quiet 0 (.quiet 1 (.quiet 2 (.quiet 4 (.quiet 5 (.quiet 6 (.eff 3 [6] (.eff 7 [] (.quiet 8 (.quiet 9 .done))))))))))
  | 22 => (.quiet 0 (.quiet 1 (.quiet 2 (.quiet 3 (.quiet 4 (.quiet 6 (.quiet 7 (.quiet 8 (.quiet 9 (.quiet 10 (.eff 5 [8, 10] (.eff 11 [] (.quiet 12 (.quiet 13 .done))))))))))))))
  | _ => .done
def ls33 : Nat → List (Nat × LT) := fun _ => []
def W33 (s : Option Addr) (r : Option Addr) (a0_ : Int) (a1_ : ByteArray) (a2_ : ByteArray) (a3_a : Option Addr) (a3_l : Nat) (a3_c : Nat) (a4_ : Int) (a5_ : Int) (w : World) (R : Value → World → Prop) : Prop :=
  (atW (World.alloc w (Obj.cells (Array.mk [Value.int IntKind.i64 a0_, Value.string a1_, Value.string a2_, Value.slice a3_a a3_l a3_c, Value.int IntKind.i64 a4_, Value.int IntKind.i64 a5_]) 48 (0, 0))) (fun w0 =>
    (∃ x1 : Int, ((World.cell? w0 (Addr.add (Addr.mk (Array.size (World.heap w)) 0 none) 0) = some (Value.int IntKind.i64 x1)) ∧ (ifK (x1 == 0)
      (atW (World.drew w0) (fun w2 =>
        (∃ s3 : ByteArray, ((World.cell? w2 (Addr.add (Addr.mk (Array.size (World.heap w)) 0 none) 1) = some (Value.string s3)) ∧ (∃ s4 : ByteArray, ((World.cell? w2 (Addr.add (Addr.mk (Array.size (World.heap w)) 0 none) 1) = some (Value.string s4)) ∧ (Ca Try.prog (14) (Array.mk [Value.pointer s, Value.string s3]) (w2) (fun v5 => (fun w6 =>
          (∃ x7 : Int, ((v5 = Value.int IntKind.i64 x7) ∧ ((World.cell? w6 (Addr.add (Addr.add (Addr.mk (Array.size (World.heap w)) 0 none) 1) 0) = some (Value.string s4)) ∧ (Ca Try.prog (54) (Array.mk [Value.pointer r, Value.string s4]) (w6) (fun v8 => (fun w9 =>
            (∃ x10 : Int, ((v8 = Value.int IntKind.i64 x10) ∧ (R (Value.bool (x7 == x10)) (w9)))))))))))))))))))
      (ifK (x1 == 1)
        (∃ p11 : Option Addr, (∃ n12 : Nat, (∃ n13 : Nat, ((World.cell? w0 (Addr.add (Addr.mk (Array.size (World.heap w)) 0 none) 3) = some (Value.slice p11 n12 n13)) ∧ (Ca Try.prog (55) (Array.mk [Value.slice p11 n12 n13]) (w0) (fun v14 => (fun w15 =>
          (∃ p16 : Option Addr, (∃ n17 : Nat, (∃ n18 : Nat, (∃ p19 : Option Addr, (∃ n20 : Nat, (∃ n21 : Nat, ((v14 = Value.tuple (Array.mk (List.reverse [Value.slice p19 n20 n21, Value.slice p16 n17 n18]))) ∧ (atW (World.drew w15) (fun w22 =>
            (∃ s23 : ByteArray, ((World.cell? w22 (Addr.add (Addr.mk (Array.size (World.heap w)) 0 none) 1) = some (Value.string s23)) ∧ (∃ s24 : ByteArray, ((World.cell? w22 (Addr.add (Addr.mk (Array.size (World.heap w)) 0 none) 1) = some (Value.string s24)) ∧ (∃ p25 : Option Addr, (∃ n26 : Nat, (∃ n27 : Nat, ((World.cell? w22 (Addr.add (Addr.mk (Array.size (World.heap w)) 0 none) 3) = some (Value.slice p25 n26 n27)) ∧ (Ca Try.prog (15) (Array.mk [Value.pointer s, Value.string s23, Value.slice p19 n20 n21]) (w22) (fun v28 => (fun w29 =>
              (∃ x30 : Int, ((v28 = Value.int IntKind.i64 x30) ∧ ((World.cell? w29 (Addr.add (Addr.add (Addr.mk (Array.size (World.heap w)) 0 none) 1) 0) = some (Value.string s24)) ∧ ((World.cell? w29 (Addr.add (Addr.add (Addr.mk (Array.size (World.heap w)) 0 none) 3) 0) = some (Value.slice p25 n26 n27)) ∧ (Ca Try.prog (56) (Array.mk [Value.pointer r, Value.string s24, Value.slice p25 n26 n27]) (w29) (fun v31 => (fun w32 =>
                (∃ x33 : Int, ((v31 = Value.int IntKind.i64 x33) ∧ (ifK (x30 == x33)
                  (∃ p34 : Option Addr, (∃ n35 : Nat, (∃ n36 : Nat, ((World.cell? w32 (Addr.add (Addr.mk (Array.size (World.heap w)) 0 none) 3) = some (Value.slice p34 n35 n36)) ∧ (Ca Try.prog (57) (Array.mk [Value.slice p16 n17 n18, Value.slice p34 n35 n36]) (w32) (fun v37 => (fun w38 =>
                    (∃ b39 : Bool, ((v37 = Value.bool b39) ∧ (R (Value.bool b39) (w38)))))))))))
                  (R (Value.bool false) (w32)))))))))))))))))))))))))))))))))))))))
        (ifK (x1 == 2)
          (atW (World.drew w0) (fun w40 =>
            (∃ s41 : ByteArray, ((World.cell? w40 (Addr.add (Addr.mk (Array.size (World.heap w)) 0 none) 1) = some (Value.string s41)) ∧ (∃ x42 : Int, ((World.cell? w40 (Addr.add (Addr.mk (Array.size (World.heap w)) 0 none) 4) = some (Value.int IntKind.i64 x42)) ∧ (∃ s43 : ByteArray, ((World.cell? w40 (Addr.add (Addr.mk (Array.size (World.heap w)) 0 none) 1) = some (Value.string s43)) ∧ (∃ x44 : Int, ((World.cell? w40 (Addr.add (Addr.mk (Array.size (World.heap w)) 0 none) 4) = some (Value.int IntKind.i64 x44)) ∧ (Ca Try.prog (30) (Array.mk [Value.pointer s, Value.string s41, Value.int IntKind.i64 x42]) (w40) (fun v45 => (fun w46 =>
              (∃ x47 : Int, ((v45 = Value.int IntKind.i64 x47) ∧ ((World.cell? w46 (Addr.add (Addr.add (Addr.mk (Array.size (World.heap w)) 0 none) 1) 0) = some (Value.string s43)) ∧ ((World.cell? w46 (Addr.add (Addr.add (Addr.mk (Array.size (World.heap w)) 0 none) 4) 0) = some (Value.int IntKind.i64 x44)) ∧ (Ca Try.prog (58) (Array.mk [Value.pointer r, Value.string s43, Value.int IntKind.i64 x44]) (w46) (fun v48 => (fun w49 =>
                (∃ x50 : Int, ((v48 = Value.int IntKind.i64 x50) ∧ (R (Value.bool (x47 == x50)) (w49))))))))))))))))))))))))
          (ifK (x1 == 3)
            (atW (World.drew w0) (fun w51 =>
              (∃ s52 : ByteArray, ((World.cell? w51 (Addr.add (Addr.mk (Array.size (World.heap w)) 0 none) 1) = some (Value.string s52)) ∧ (∃ s53 : ByteArray, ((World.cell? w51 (Addr.add (Addr.mk (Array.size (World.heap w)) 0 none) 1) = some (Value.string s53)) ∧ (Ca Try.prog (16) (Array.mk [Value.pointer s, Value.string s52]) (w51) (fun v54 => (fun w55 =>
                (∃ x56 : Int, ((v54 = Value.int IntKind.i64 x56) ∧ ((World.cell? w55 (Addr.add (Addr.add (Addr.mk (Array.size (World.heap w)) 0 none) 1) 0) = some (Value.string s53)) ∧ (Ca Try.prog (59) (Array.mk [Value.pointer r, Value.string s53]) (w55) (fun v57 => (fun w58 =>
                  (∃ x59 : Int, ((v57 = Value.int IntKind.i64 x59) ∧ (R (Value.bool (x56 == x59)) (w58)))))))))))))))))))
            (ifK (x1 == 4)
              (atW (World.drew w0) (fun w60 =>
                (∃ s61 : ByteArray, ((World.cell? w60 (Addr.add (Addr.mk (Array.size (World.heap w)) 0 none) 1) = some (Value.string s61)) ∧ (∃ s62 : ByteArray, ((World.cell? w60 (Addr.add (Addr.mk (Array.size (World.heap w)) 0 none) 2) = some (Value.string s62)) ∧ (∃ s63 : ByteArray, ((World.cell? w60 (Addr.add (Addr.mk (Array.size (World.heap w)) 0 none) 1) = some (Value.string s63)) ∧ (∃ s64 : ByteArray, ((World.cell? w60 (Addr.add (Addr.mk (Array.size (World.heap w)) 0 none) 2) = some (Value.string s64)) ∧ (Ca Try.prog (25) (Array.mk [Value.pointer s, Value.string s61, Value.string s62]) (w60) (fun v65 => (fun w66 =>
                  (∃ x67 : Int, ((v65 = Value.int IntKind.i64 x67) ∧ ((World.cell? w66 (Addr.add (Addr.add (Addr.mk (Array.size (World.heap w)) 0 none) 1) 0) = some (Value.string s63)) ∧ ((World.cell? w66 (Addr.add (Addr.add (Addr.mk (Array.size (World.heap w)) 0 none) 2) 0) = some (Value.string s64)) ∧ (Ca Try.prog (60) (Array.mk [Value.pointer r, Value.string s63, Value.string s64]) (w66) (fun v68 => (fun w69 =>
                    (∃ x70 : Int, ((v68 = Value.int IntKind.i64 x70) ∧ (R (Value.bool (x67 == x70)) (w69))))))))))))))))))))))))
              (ifK (x1 == 5)
                (atW (World.drew w0) (fun w71 =>
                  (∃ s72 : ByteArray, ((World.cell? w71 (Addr.add (Addr.mk (Array.size (World.heap w)) 0 none) 1) = some (Value.string s72)) ∧ (∃ s73 : ByteArray, ((World.cell? w71 (Addr.add (Addr.mk (Array.size (World.heap w)) 0 none) 1) = some (Value.string s73)) ∧ (Ca Try.prog (31) (Array.mk [Value.pointer s, Value.string s72]) (w71) (fun v74 => (fun w75 =>
                    (∃ x76 : Int, ((v74 = Value.int IntKind.i64 x76) ∧ ((World.cell? w75 (Addr.add (Addr.add (Addr.mk (Array.size (World.heap w)) 0 none) 1) 0) = some (Value.string s73)) ∧ (Ca Try.prog (61) (Array.mk [Value.pointer r, Value.string s73]) (w75) (fun v77 => (fun w78 =>
                      (∃ x79 : Int, ((v77 = Value.int IntKind.i64 x79) ∧ (R (Value.bool (x76 == x79)) (w78)))))))))))))))))))
                (ifK (x1 == 6)
                  (Ca Try.prog (17) (Array.mk [Value.pointer s]) (w0) (fun v80 => (fun w81 =>
                    (∃ x82 : Int, ((v80 = Value.int IntKind.i64 x82) ∧ (Ca Try.prog (62) (Array.mk [Value.pointer r]) (w81) (fun v83 => (fun w84 =>
                      (∃ x85 : Int, ((v83 = Value.int IntKind.i64 x85) ∧ (R (Value.bool (x82 == x85)) (w84))))))))))))
                  (ifK (x1 == 7)
                    (∃ s86 : ByteArray, ((World.cell? w0 (Addr.add (Addr.mk (Array.size (World.heap w)) 0 none) 1) = some (Value.string s86)) ∧ (Ca Try.prog (20) (Array.mk [Value.pointer s, Value.string s86]) (w0) (fun v87 => (fun w88 =>
                      (∃ p89 : Option Addr, (∃ n90 : Nat, (∃ n91 : Nat, (∃ x92 : Int, ((v87 = Value.tuple (Array.mk (List.reverse [Value.int IntKind.i64 x92, Value.slice p89 n90 n91]))) ∧ (∃ s93 : ByteArray, ((World.cell? w88 (Addr.add (Addr.mk (Array.size (World.heap w)) 0 none) 1) = some (Value.string s93)) ∧ (Ca Try.prog (63) (Array.mk [Value.pointer r, Value.string s93]) (w88) (fun v94 => (fun w95 =>
                        (∃ p96 : Option Addr, (∃ n97 : Nat, (∃ n98 : Nat, (∃ x99 : Int, ((v94 = Value.tuple (Array.mk (List.reverse [Value.int IntKind.i64 x99, Value.slice p96 n97 n98]))) ∧ (Ca Try.prog (21) (Array.mk [Value.slice p89 n90 n91, Value.slice p96 n97 n98]) (w95) (fun v100 => (fun w101 =>
                          (∃ b102 : Bool, ((v100 = Value.bool b102) ∧ (ifK (b102)
                            (R (Value.bool (x92 == x99)) (w101))
                            (R (Value.bool false) (w101))))))))))))))))))))))))))))
                    (ifK (x1 == 8)
                      (atW (World.drew w0) (fun w103 =>
                        (∃ x104 : Int, ((World.cell? w103 (Addr.add (Addr.mk (Array.size (World.heap w)) 0 none) 4) = some (Value.int IntKind.i64 x104)) ∧ (∃ x105 : Int, ((World.cell? w103 (Addr.add (Addr.mk (Array.size (World.heap w)) 0 none) 5) = some (Value.int IntKind.i64 x105)) ∧ (∃ x106 : Int, ((World.cell? w103 (Addr.add (Addr.mk (Array.size (World.heap w)) 0 none) 4) = some (Value.int IntKind.i64 x106)) ∧ (∃ x107 : Int, ((World.cell? w103 (Addr.add (Addr.mk (Array.size (World.heap w)) 0 none) 5) = some (Value.int IntKind.i64 x107)) ∧ (Ca Try.prog (24) (Array.mk [Value.pointer s, Value.int IntKind.i64 x104, Value.int IntKind.i64 x105]) (w103) (fun v108 => (fun w109 =>
                          (∃ x110 : Int, ((v108 = Value.int IntKind.i64 x110) ∧ ((World.cell? w109 (Addr.add (Addr.add (Addr.mk (Array.size (World.heap w)) 0 none) 4) 0) = some (Value.int IntKind.i64 x106)) ∧ ((World.cell? w109 (Addr.add (Addr.add (Addr.mk (Array.size (World.heap w)) 0 none) 5) 0) = some (Value.int IntKind.i64 x107)) ∧ (Ca Try.prog (64) (Array.mk [Value.pointer r, Value.int IntKind.i64 x106, Value.int IntKind.i64 x107]) (w109) (fun v111 => (fun w112 =>
                            (∃ x113 : Int, ((v111 = Value.int IntKind.i64 x113) ∧ (R (Value.bool (x110 == x113)) (w112))))))))))))))))))))))))
                      (ifK (x1 == 9)
                        (∃ x114 : Int, ((World.cell? w0 (Addr.add (Addr.mk (Array.size (World.heap w)) 0 none) 4) = some (Value.int IntKind.i64 x114)) ∧ (Ca Try.prog (18) (Array.mk [Value.pointer s, Value.int IntKind.i64 x114]) (w0) (fun v115 => (fun w116 =>
                          ((v115 = Value.tuple (Array.mk (List.reverse []))) ∧ (∃ x117 : Int, ((World.cell? w116 (Addr.add (Addr.mk (Array.size (World.heap w)) 0 none) 4) = some (Value.int IntKind.i64 x117)) ∧ (Ca Try.prog (65) (Array.mk [Value.pointer r, Value.int IntKind.i64 x117]) (w116) (fun v118 => (fun w119 =>
                            ((v118 = Value.tuple (Array.mk (List.reverse []))) ∧ (R (Value.bool true) (w119))))))))))))))
                        (ifK (x1 == 10)
                          (Ca Try.prog (19) (Array.mk [Value.pointer s]) (w0) (fun v120 => (fun w121 =>
                            ((v120 = Value.tuple (Array.mk (List.reverse []))) ∧ (Ca Try.prog (66) (Array.mk [Value.pointer r]) (w121) (fun v122 => (fun w123 =>
                              ((v122 = Value.tuple (Array.mk (List.reverse []))) ∧ (R (Value.bool true) (w123))))))))))
                          (R (Value.bool true) (w0)))))))))))))))))
theorem ca33 (s : Option Addr) (r : Option Addr) (a0_ : Int) (a1_ : ByteArray) (a2_ : ByteArray) (a3_a : Option Addr) (a3_l : Nat) (a3_c : Nat) (a4_ : Int) (a5_ : Int) (w : World) (R : Value → World → Prop) (h : W33 s r a0_ a1_ a2_ a3_a a3_l a3_c a4_ a5_ w R) : Ca Try.prog 33 ⟨[(.pointer s), (.pointer r), (.agg ⟨[(.int .i64 a0_), (.string a1_), (.string a2_), (.slice a3_a a3_l a3_c), (.int .i64 a4_), (.int .i64 a5_)]⟩)]⟩ w R := by
  have h1 : Try.prog.follows .mixedOrders = true := by kernel_rfl
  have h2 : Try.f33.body = some C33 := by kernel_rfl
  have h3 : (Try.f33.name == "runtime.NumGoroutine") = false := by kernel_rfl
  have h6 : Try.f33.results.toList = [.tmp 6] := by kernel_rfl
  have h4 : Nat.ble 3 166 = true := by kernel_rfl
  have h5 : okCode 166 pl33 ls33 C33 0 = true := by kernel_rfl
  have e : W33 s r a0_ a1_ a2_ a3_a a3_l a3_c a4_ a5_ w R = wpC none Try.prog 166 pl33 ls33 C33 0 (endP Try.prog [.tmp 6] R) (fr0 [(.pointer s), (.pointer r), (.agg ⟨[(.int .i64 a0_), (.string a1_), (.string a2_), (.slice a3_a a3_l a3_c), (.int .i64 a4_), (.int .i64 a5_)]⟩)]) [] w := by kernel_rfl
  exact ca_of' (P := Try.prog) (g := 33) (fn := Try.f33) (c := C33) (m := 166) (rs := [.tmp 6]) (args := [(.pointer s), (.pointer r), (.agg ⟨[(.int .i64 a0_), (.string a1_), (.string a2_), (.slice a3_a a3_l a3_c), (.int .i64 a4_), (.int .i64 a5_)]⟩)]) (pl := pl33) (ls := ls33) (w := w) (R := R) h1 Try.func33 h2 Try.ntmps33 h6 h3 h4 h5 (Eq.mp e h)
end Go.Proofs.Ytemklabamlifdaa

/- One act, on the store and on the reference's. -/
namespace Go.Proofs.Ytemklabamlifdaa
open Go Go.Proofs.Ytemklabamlifdaa.St

/-- The store is b, the reference's is a; both were made since w0, apart from one another. -/
structure TB (w0 w : World) (s r : Nat) (F G : Nat → Prop) (b a : AS) : Prop where
  sb : SB w0 w s F b
  rt : Rt w r G a
  lo : ∀ k, G k → w0.heap.size ≤ k
  hi : ∀ k, G k → k < w.heap.size
  dj : ∀ k, F k → ¬ G k
section
variable {w0 w w' : World} {s r : Nat} {F G : Nat → Prop} {a b c : AS}
theorem FR.small {x : RF} {f : Bs × Bs} (h : FR w G x f) : FR w (fun k => G k ∧ k < w.heap.size) x f :=
  ⟨h.1, h.2.1, fun k hk => ⟨h.2.2.1 k hk, let ⟨_, hc⟩ := els_row h.1 hk; lt_of_heap hc⟩, fun k hk => ⟨h.2.2.2 k hk, let ⟨_, hc⟩ := els_row h.2.1 hk; lt_of_heap hc⟩⟩
theorem Rt.small (h : Rt w r G a) : Rt w r (fun k => G k ∧ k < w.heap.size) a := by
  obtain ⟨x, h⟩ := h
  exact ⟨x, h.cell, h.all, h.dir, h.sure, h.files.imp fun _ _ q => q.small, ⟨h.gr, lt_of_heap h.cell⟩, fun k hk => ⟨h.ga k hk, h.all.lt k hk⟩, fun k hk => ⟨h.gd k hk, h.dir.lt k hk⟩, fun k hk => ⟨h.gs k hk, h.sure.lt k hk⟩⟩
theorem TB.stepS (h : TB w0 w s r F G b a) (hp : StP s F w c w') : ∃ F', TB w0 w' s r F' G c a ∧ (∀ k, F' k → F k ∨ w.heap.size ≤ k) ∧ Mod F w w' := by
  obtain ⟨F', h1, h2, h3⟩ := h.sb.step hp
  refine ⟨F', ⟨h1, Rt.mod h.rt h3 fun k hk hf => h.dj k hf hk, h.lo, fun k hk => Nat.lt_of_lt_of_le (h.hi k hk) h3.size, fun k hf hg => ?_⟩, h2, h3⟩
  rcases h2 k hf with h' | h'
  · exact h.dj k h' hg
  · have := h.hi k hg; omega
theorem TB.stepR (h : TB w0 w s r F G b a) (hp : RP r G w c w') : ∃ G', TB w0 w' s r F G' b c ∧ (∀ k, G' k → G k ∨ w.heap.size ≤ k) ∧ Mod G w w' := by
  obtain ⟨G', h1, h2, h3⟩ := hp
  have hg : ∀ k, G' k ∧ k < w'.heap.size → G k ∨ w.heap.size ≤ k := fun k hk => h2 k hk.1
  refine ⟨_, ⟨⟨Stt.mod h.sb.st h3 h.dj, h.sb.mod.new h3 h.lo, h.sb.lo, fun k hk => Nat.lt_of_lt_of_le (h.sb.hi k hk) h3.size⟩, h1.small, fun k hk => ?_, fun k hk => hk.2, fun k hf hk => ?_⟩, hg, h3⟩
  · rcases hg k hk with h' | h'
    · exact h.lo k h'
    · exact Nat.le_trans h.sb.mod.size h'
  · rcases hg k hk with h' | h'
    · exact h.dj k hf h'
    · have := h.sb.hi k hf; omega
theorem TB.no (h : TB w0 w s r F G b a) (hm : Mod no w w') : TB w0 w' s r F G b a :=
  ⟨h.sb.no hm, Rt.no h.rt hm, h.lo, fun k hk => Nat.lt_of_lt_of_le (h.hi k hk) hm.size, h.dj⟩
end

/-- There are few files, and few calls are left up to a failure. -/
structure Lim (i : Nat) (a : AS) : Prop where
  all : a.all.length ≤ i
  left : a.left ≤ 9223372036854775807
theorem wrap_le (x : Int) : IntKind.i64.wrap x ≤ 9223372036854775807 := by rw [IntKind.wrap_i64]; omega
section
variable {i : Nat} {a : AS}
theorem Lim.fail (h : Lim i a) (k : Int) : Lim i (a.fail k) := by
  unfold AS.fail
  split
  · exact h
  · exact ⟨by simp only [List.length_map]; exact h.all, h.left⟩
theorem Lim.tick (h : Lim i a) : Lim i a.tick := ⟨h.all, h.left⟩
theorem Lim.less (h : Lim i a) : Lim i a.less := ⟨h.all, wrap_le _⟩
theorem Lim.mono {j : Nat} (h : Lim i a) (hj : i ≤ j) : Lim j a := ⟨Nat.le_trans h.all hj, h.left⟩
theorem Lim.counted (h : Lim i a) {f : AS → AS} (hf : ∀ b : AS, Lim i b → Lim (i + 1) (f b)) : Lim (i + 1) (a.counted f).1 := by
  unfold AS.counted
  split
  · split
    · exact ((h.tick.less).fail _).mono (Nat.le_succ _)
    · exact hf _ h.tick.less
  · exact hf _ h.tick
theorem Lim.upd (h : Lim i a) (j : Nat) (g : Bs × Bs → Bs × Bs) : Lim (i + 1) (a.upd j g) := ⟨by simp only [AS.upd, List.length_modify]; exact Nat.le_succ_of_le h.all, h.left⟩
theorem Lim.same (h : Lim i a) : Lim (i + 1) a := h.mono (Nat.le_succ _)
theorem Lim.make (h : Lim i a) (n : ByteArray) : Lim (i + 1) (a.make n).1 := by
  unfold AS.make
  split
  · exact h.same
  · split
    · split
      · exact h.same
      · exact h.counted fun b hb => ⟨by simp only [List.length_append, List.length_singleton]; exact Nat.succ_le_succ hb.all, hb.left⟩
    · exact h.same
theorem Lim.write (h : Lim i a) (n : ByteArray) (b : Bs) : Lim (i + 1) (a.write n b).1 := by
  unfold AS.write
  split
  · split
    · exact h.same
    · exact h.counted fun b hb => hb.upd _ _
  · exact h.same
theorem Lim.cut (h : Lim i a) (n : ByteArray) (k : Int) : Lim (i + 1) (a.cut n k).1 := by
  unfold AS.cut
  split
  · split
    · exact h.same
    · exact h.counted fun b hb => hb.upd _ _
  · exact h.same
theorem Lim.sync (h : Lim i a) (n : ByteArray) : Lim (i + 1) (a.sync n).1 := by
  unfold AS.sync
  split
  · exact h.counted fun b hb => hb.upd _ _
  · exact h.same
theorem Lim.move (h : Lim i a) (n to : ByteArray) : Lim (i + 1) (a.move n to).1 := by
  unfold AS.move
  split
  · exact h.same
  · split
    · exact h.same
    · split
      · exact h.same
      · exact h.counted fun b hb => ⟨Nat.le_succ_of_le hb.all, hb.left⟩
theorem Lim.drop (h : Lim i a) (n : ByteArray) : Lim (i + 1) (a.drop n).1 := by
  unfold AS.drop
  split
  · exact h.counted fun b hb => ⟨Nat.le_succ_of_le hb.all, hb.left⟩
  · exact h.same
theorem Lim.commit (h : Lim i a) : Lim (i + 1) a.commit.1 := by
  unfold AS.commit
  split
  · exact h.same
  · exact h.counted fun b hb => ⟨Nat.le_succ_of_le hb.all, hb.left⟩
theorem Lim.plan (h : Lim i a) {n : Int} (hn : n ≤ 9223372036854775807) (k : Int) : Lim (i + 1) (a.plan n k).1 := by
  unfold AS.plan
  split
  · exact h.same
  · split
    · exact h.same
    · exact ⟨Nat.le_succ_of_le h.all, hn⟩
theorem Lim.power (h : Lim i a) : Lim (i + 1) a.power := ⟨Nat.le_succ_of_le h.all, by show (0 : Int) ≤ 9223372036854775807; decide⟩
end

set_option maxRecDepth 100000 in
theorem act_ok {w0 w : World} {s r : Nat} {F G : Nat → Prop} {a : AS} {i : Nat} (h : TB w0 w s r F G a a) (hl : Lim i a) (hi : i ≤ 1000) {x : ActS} (hx : ActOk w0 x) (hxl : x.dl ≤ 20000) (R : Value → World → Prop)
    (hR : ∀ w' F' G' a', TB w0 w' s r F' G' a' a' → Lim (i + 1) a' → R (.bool true) w') : Ca Try.prog 33 #[.pointer (some ⟨s, 0, none⟩), .pointer (some ⟨r, 0, none⟩), .agg #[.int .i64 x.kind, .string x.a, .string x.b, .slice x.da x.dl x.dc, .int .i64 x.n, .int .i64 x.m]] w R := by
  refine ca33 _ _ x.kind x.a x.b x.da x.dl x.dc x.n x.m w R ?_
  intro v0 e0
  have m0 : Mod no w v0 := by subst e0; exact Mod.alloc _ _
  have b0 : v0.heap[w.heap.size]? = some (.cells #[.int .i64 x.kind, .string x.a, .string x.b, .slice x.da x.dl x.dc, .int .i64 x.n, .int .i64 x.m] 48 (0, 0)) := by subst e0; exact new_at _ _
  clear e0
  have h0 := h.no m0
  have kF : ¬ F w.heap.size := fun hf => by have := h.sb.hi _ hf; omega
  have kG : ¬ G w.heap.size := fun hg => by have := h.hi _ hg; omega
  have hal : a.all.length ≤ 1073741823 := by have := hl.all; omega
  have na : x.a.size < 4611686018427387904 := by have := hx.na; omega
  have nb : x.b.size < 4611686018427387904 := by have := hx.nb; omega
  have hdr : ∀ {w'}, Mod no w0 w' → Rd w' x.da x.dl x.dc x.data := fun hm => hx.rd.no hm
  have hok := h.sb.st.ok
  -- both do it, the store first
  have both : ∀ {w1 : World} {p : AS × Int} {gS gR : Nat} {aS aR : Array Value} {K : Value → World → Prop}, Mod no v0 w1 → Lim (i + 1) p.1 →
      (∀ R : Value → World → Prop, (∀ w', StP s F w1 p.1 w' → R (.int .i64 p.2) w') → Ca Try.prog gS aS w1 R) →
      (∀ (w' : World) (x' : RA), RS w' r G a x' → ∀ R : Value → World → Prop, (∀ w'', RP r G w' p.1 w'' → R (.int .i64 p.2) w'') → Ca Try.prog gR aR w' R) →
      (∀ w', w'.heap[w.heap.size]? = some (.cells #[.int .i64 x.kind, .string x.a, .string x.b, .slice x.da x.dl x.dc, .int .i64 x.n, .int .i64 x.m] 48 (0, 0)) → Ca Try.prog gR aR w' (fun v w'' => ∃ e, v = .int .i64 e ∧ R (.bool (p.2 == e)) w'') → K (.int .i64 p.2) w') → Ca Try.prog gS aS w1 K := by
    intro w1 p gS gR aS aR K m1 hlim hS hRf hK
    refine hS _ fun w2 hp => hK w2 ?_ ?_
    · obtain ⟨F', h2, hF, mF⟩ := (h0.no m1).stepS hp
      exact mF.at (m1.at' b0) kF
    · obtain ⟨F', h2, hF, mF⟩ := (h0.no m1).stepS hp
      obtain ⟨x', hx'⟩ := h2.rt
      refine hRf w2 x' hx' _ fun w3 hp3 => ⟨_, rfl, ?_⟩
      obtain ⟨G', h3, _, _⟩ := h2.stepR hp3
      rw [beq_self_eq_true]
      exact hR w3 F' G' _ h3 hlim
  refine ⟨x.kind, by rw [cl1 b0]; rfl, ?_⟩
  refine ifK_eq (fun _ => ?_) (fun k0 => ?_)
  · intro w2 e2
    have m2 : Mod no v0 w2 := by subst e2; exact Mod.drew _
    clear e2
    have b2 := m2.at' b0
    refine ⟨x.a, by rw [cl1 b2]; rfl, x.a, by rw [cl1 b2]; rfl, ?_⟩
    exact both m2 (hl.make x.a) (fun R => make_ok (h0.no m2).sb.st x.a na R) (fun w' x' hx' R => makeR_ok hx' hok hal hl.left x.a na R) fun w' b' hc => ⟨_, rfl, by rw [cl2 b']; rfl, hc⟩
  refine ifK_eq (fun _ => ?_) (fun k1 => ?_)
  · refine ⟨x.da, x.dl, x.dc, by rw [cl1 b0]; rfl, ?_⟩
    have hdc := hx.dc
    have hle := hx.rd.le
    refine lend_ok (hdr h0.sb.mod) (by omega) _ fun w2 p l c q d r1 r2 m2 n1 n2 => ⟨_, _, _, _, _, _, rfl, fun w3 e3 => ?_⟩
    have m3 : Mod no v0 w3 := by subst e3; exact m2.trans (Mod.drew _)
    have r1 : Rd w3 p l c (lent x.data) := by subst e3; exact r1.no (Mod.drew _)
    have r2 : Rd w3 q x.dl d x.data := by subst e3; exact r2.no (Mod.drew _)
    clear e3
    have b3 := m3.at' b0
    have h3 := h0.no m3
    refine ⟨x.a, by rw [cl1 b3]; rfl, x.a, by rw [cl1 b3]; rfl, x.da, x.dl, x.dc, by rw [cl1 b3]; rfl, ?_⟩
    refine write_ok h3.sb.st x.a na r2 (fun _ k hk hf => by have := n2 k hk; have := h0.sb.hi k hf; omega) _ fun w4 hp => ⟨_, rfl, ?_⟩
    obtain ⟨F', h4, hF', m4⟩ := h3.stepS hp
    have b4 := m4.at b3 kF
    have r4 : Rd w4 p l c (lent x.data) := r1.mod m4 fun k hk hf => by have := n1 k hk; have := h0.sb.hi k hf; omega
    refine ⟨by rw [cl2 b4]; rfl, by rw [cl2 b4]; rfl, ?_⟩
    obtain ⟨x', hx'⟩ := h4.rt
    refine writeR_ok hx' hok hal hl.left x.a na (hdr h4.sb.mod) (fun h0' k hk hg => by have := h4.lo k hg; have := hx.rd.lt h0' k hk; omega) _ fun w5 hp5 => ⟨_, rfl, ?_⟩
    obtain ⟨G', h5, hG', m5⟩ := h4.stepR hp5
    rw [beq_self_eq_true]
    refine (ifK_of (fun _ => ?_) (fun h => by cases h) : ifK true _ _)
    have b5 := m5.at b4 kG
    have r5 : Rd w5 p l c (lent x.data) := r4.mod m5 fun k hk hg => by have := n1 k hk; have := h0.hi k hg; omega
    refine ⟨x.da, x.dl, x.dc, by rw [cl1 b5]; rfl, ?_⟩
    refine kept_ok r5 (hdr h5.sb.mod) (by omega) _ fun w6 m6 => ⟨_, rfl, ?_⟩
    rw [decide_eq_true rfl]
    exact hR w6 F' G' _ (h5.no m6) (hl.write x.a x.data)
  refine ifK_eq (fun _ => ?_) (fun k2 => ?_)
  · intro w2 e2
    have m2 : Mod no v0 w2 := by subst e2; exact Mod.drew _
    clear e2
    have b2 := m2.at' b0
    refine ⟨x.a, by rw [cl1 b2]; rfl, x.n, by rw [cl1 b2]; rfl, x.a, by rw [cl1 b2]; rfl, x.n, by rw [cl1 b2]; rfl, ?_⟩
    exact both m2 (hl.cut x.a x.n) (fun R => cut_ok (h0.no m2).sb.st x.a na x.n R) (fun w' x' hx' R => cutR_ok hx' hok hal hl.left x.a na x.n R) fun w' b' hc => ⟨_, rfl, by rw [cl2 b']; rfl, by rw [cl2 b']; rfl, hc⟩
  refine ifK_eq (fun _ => ?_) (fun k3 => ?_)
  · intro w2 e2
    have m2 : Mod no v0 w2 := by subst e2; exact Mod.drew _
    clear e2
    have b2 := m2.at' b0
    refine ⟨x.a, by rw [cl1 b2]; rfl, x.a, by rw [cl1 b2]; rfl, ?_⟩
    exact both m2 (hl.sync x.a) (fun R => sync_ok (h0.no m2).sb.st x.a na R) (fun w' x' hx' R => syncR_ok hx' hok hal hl.left x.a na R) fun w' b' hc => ⟨_, rfl, by rw [cl2 b']; rfl, hc⟩
  refine ifK_eq (fun _ => ?_) (fun k4 => ?_)
  · intro w2 e2
    have m2 : Mod no v0 w2 := by subst e2; exact Mod.drew _
    clear e2
    have b2 := m2.at' b0
    refine ⟨x.a, by rw [cl1 b2]; rfl, x.b, by rw [cl1 b2]; rfl, x.a, by rw [cl1 b2]; rfl, x.b, by rw [cl1 b2]; rfl, ?_⟩
    exact both m2 (hl.move x.a x.b) (fun R => move_ok (h0.no m2).sb.st x.a x.b na nb R) (fun w' x' hx' R => moveR_ok hx' hok hal hl.left x.a x.b na nb R) fun w' b' hc => ⟨_, rfl, by rw [cl2 b']; rfl, by rw [cl2 b']; rfl, hc⟩
  refine ifK_eq (fun _ => ?_) (fun k5 => ?_)
  · intro w2 e2
    have m2 : Mod no v0 w2 := by subst e2; exact Mod.drew _
    clear e2
    have b2 := m2.at' b0
    refine ⟨x.a, by rw [cl1 b2]; rfl, x.a, by rw [cl1 b2]; rfl, ?_⟩
    exact both m2 (hl.drop x.a) (fun R => drop_ok (h0.no m2).sb.st x.a na R) (fun w' x' hx' R => dropR_ok hx' hok hal hl.left x.a na R) fun w' b' hc => ⟨_, rfl, by rw [cl2 b']; rfl, hc⟩
  refine ifK_eq (fun _ => ?_) (fun k6 => ?_)
  · exact both (Mod.refl _ _) hl.commit (fun R => commit_ok h0.sb.st R) (fun w' x' hx' R => commitR_ok hx' hok hal hl.left R) fun w' b' hc => ⟨_, rfl, hc⟩
  refine ifK_eq (fun _ => ?_) (fun k7 => ?_)
  · refine ⟨x.a, by rw [cl1 b0]; rfl, read_ok h0.sb.st x.a na _ fun w2 p l c hp m2 hpn => ⟨p, l, c, _, rfl, x.a, by rw [cl1 (m2.at' b0)]; rfl, ?_⟩⟩
    have h2 := h0.no m2
    obtain ⟨x', hx'⟩ := h2.rt
    refine readR_ok hx' hok x.a na _ fun w3 p3 l3 c3 hp3 m3 _ => ⟨p3, l3, c3, _, rfl, ?_⟩
    refine same_ok ((Rd.of_els hp).no m3) (Rd.of_els hp3) _ ⟨_, rfl, ?_⟩
    rw [decide_eq_true rfl, beq_self_eq_true]
    exact (ifK_of (fun _ => hR w3 F G a (h2.no m3) hl.same) (fun h => by cases h) : ifK true _ _)
  refine ifK_eq (fun _ => ?_) (fun k8 => ?_)
  · intro w2 e2
    have m2 : Mod no v0 w2 := by subst e2; exact Mod.drew _
    clear e2
    have b2 := m2.at' b0
    refine ⟨x.n, by rw [cl1 b2]; rfl, x.m, by rw [cl1 b2]; rfl, x.n, by rw [cl1 b2]; rfl, x.m, by rw [cl1 b2]; rfl, ?_⟩
    exact both m2 (hl.plan hx.nn x.m) (fun R => plan_ok (h0.no m2).sb.st x.n x.m R) (fun w' x' hx' R => planR_ok hx' x.n x.m R) fun w' b' hc => ⟨_, rfl, by rw [cl2 b']; rfl, by rw [cl2 b']; rfl, hc⟩
  refine ifK_eq (fun _ => ?_) (fun k9 => ?_)
  · refine ⟨x.n, by rw [cl1 b0]; rfl, fail2_ok h0.sb.st x.n _ fun w2 hp => ⟨rfl, ?_⟩⟩
    obtain ⟨F', h2, _, m2⟩ := h0.stepS hp
    obtain ⟨x', hx'⟩ := h2.rt
    refine ⟨x.n, by rw [cl1 (m2.at b0 kF)]; rfl, failR_ok hx' hok (by omega) x.n _ fun w3 hp3 => ⟨rfl, ?_⟩⟩
    obtain ⟨G', h3, _, _⟩ := h2.stepR hp3
    exact hR w3 F' G' _ h3 (hl.fail x.n).same
  refine ifK_eq (fun _ => ?_) (fun k10 => hR v0 F G a h0 hl.same)
  refine power3_ok h0.sb.st _ fun w2 hp => ⟨rfl, ?_⟩
  obtain ⟨F', h2, _, m2⟩ := h0.stepS hp
  obtain ⟨x', hx'⟩ := h2.rt
  refine powerR_ok hx' _ fun w3 hp3 => ⟨rfl, ?_⟩
  obtain ⟨G', h3, _, _⟩ := h2.stepR hp3
  exact hR w3 F' G' _ h3 hl.power
end Go.Proofs.Ytemklabamlifdaa
