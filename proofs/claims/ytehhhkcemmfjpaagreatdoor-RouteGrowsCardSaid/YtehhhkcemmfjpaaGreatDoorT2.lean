/- Parts of the proof of RouteGrowsCard. -/
import Derived.Test.YtehhhkcemmfjpaaGreatDoorCore9
import Derived.Test.YtehhhkcemmfjpaaGreatDoorProg
import Derived.Test.YtehhhkcemmfjpaaGreatDoorT1
/- The formulas of functions, printed by a program of mine (gen.py) out of the translation. -/
namespace Go.Proofs.YtehhhkcemmfjpaaGreatDoor
open Go Go.Proofs.YtehhhkcemmfjpaaGreatDoor.St
open _root_.Go.Value (string int bool slice pointer agg tuple map func nilFunc iface)
open _root_.Go.World (cell? frozen? setCell alloc drew)
open _root_.Go.Addr (add)
open _root_.Go.Obj (cells)
open _root_.Go.IntKind (wrap i64 u64 i32 u32 u8)
set_option maxRecDepth 100000

/-- slices.pdqsortCmpFunc[staith/api.Binding] -/
noncomputable def C102 : Code := (Tryz.f102.body).getD .skip
def pl102 : Nat → Plan
  | 17 => (.quiet 0 (.quiet 1 (.quiet 2 (.quiet 3 (.quiet 4 (.quiet 5 (.quiet 6 (.quiet 7 (.quiet 8 (.quiet 9 (.quiet 10 (.quiet 11 (.quiet 12 (.eff 13 [] (.quiet 14 (.quiet 15 (.quiet 16 .done)))))))))))))))))
  | _ => .done
def ls102 : Nat → List (Nat × LT)
  | 2 => [(1, (.one (.int .i64))), (2, (.one (.int .i64))), (3, (.one (.int .i64))), (10, (.one .bool)), (11, (.one .bool))]
  | 10 => [(0, .agg []), (3, (.one (.int .i64)))]
  | 14 => [(0, .agg []), (13, (.one (.int .i64))), (14, (.one (.int .i64)))]
  | 18 => [(0, .agg [])]
  | 21 => [(0, .agg []), (1, (.one (.int .i64)))]
  | _ => []
def W102 (dataa : Option Addr) (datal : Nat) (datac : Nat) (a_ : Int) (b : Int) (limit : Int) (cmp : Value) (w : World) (R : Value → World → Prop) : Prop :=
  (∃ z0 : Int → Int → Int → Bool → Bool → World → Prop, (∃ z1 : Int → Int → Int → Bool → Bool → World → Nat, ((z0 (a_) (b) (limit) (true) (true) (w)) ∧ (∀ (_ : Nat → Value), (∀ (x3 : Int), (∀ (x4 : Int), (∀ (x5 : Int), (∀ (b6 : Bool), (∀ (b7 : Bool), (∀ (w8 : World), ((z0 (x3) (x4) (x5) (b6) (b7) (w8)) → (ifK (decide (wrap i64 (x4 - x3) ≤ 12))
(Ca Tryz.prog (120) (Array.mk [slice dataa datal datac, int i64 x3, int i64 x4, cmp]) (w8) (fun v9 => (fun w10 =>
((v9 = tuple (Array.mk (List.reverse []))) ∧ (R (tuple (Array.mk (List.reverse []))) (w10))))))
(ifK (x5 == 0)
(Ca Tryz.prog (121) (Array.mk [slice dataa datal datac, int i64 x3, int i64 x4, cmp]) (w8) (fun v11 => (fun w12 =>
((v11 = tuple (Array.mk (List.reverse []))) ∧ (R (tuple (Array.mk (List.reverse []))) (w12))))))
(∃ z13 : Int → World → Prop, ((ifK (!b6)
(Ca Tryz.prog (122) (Array.mk [slice dataa datal datac, int i64 x3, int i64 x4, cmp]) (w8) (fun v14 => (fun w15 =>
((v14 = tuple (Array.mk (List.reverse []))) ∧ (z13 (wrap i64 (x5 - 1)) (w15))))))
(z13 (x5) (w8))) ∧ (∀ (_ : Nat → Value), (∀ (x17 : Int), (∀ (w18 : World), ((z13 (x17) (w18)) → (Ca Tryz.prog (123) (Array.mk [slice dataa datal datac, int i64 x3, int i64 x4, cmp]) (w18) (fun v19 => (fun w20 =>
(∃ x21 : Int, (∃ x22 : Int, ((v19 = tuple (Array.mk (List.reverse [int i64 x22, int i64 x21]))) ∧ (∃ z23 : Int → Int → World → Prop, ((ifK (x22 == 2)
(Ca Tryz.prog (124) (Array.mk [slice dataa datal datac, int i64 x3, int i64 x4, cmp]) (w20) (fun v24 => (fun w25 =>
((v24 = tuple (Array.mk (List.reverse []))) ∧ (z23 (wrap i64 (wrap i64 (x4 - 1) - wrap i64 (x21 - x3))) (1) (w25))))))
(z23 (x21) (x22) (w20))) ∧ (∀ (_ : Nat → Value), (∀ (x27 : Int), (∀ (x28 : Int), (∀ (w29 : World), ((z23 (x27) (x28) (w29)) → (∃ z30 : World → Prop, ((ifK (b6)
(ifK (b7)
(ifK (x28 == 1)
(Ca Tryz.prog (125) (Array.mk [slice dataa datal datac, int i64 x3, int i64 x4, cmp]) (w29) (fun v31 => (fun w32 =>
(∃ b33 : Bool, ((v31 = bool b33) ∧ (ifK (b33)
(R (tuple (Array.mk (List.reverse []))) (w32))
(z30 (w32))))))))
(z30 (w29)))
(z30 (w29)))
(z30 (w29))) ∧ (∀ (_ : Nat → Value), (∀ (w35 : World), ((z30 (w35)) → (∃ z36 : Int → World → Prop, ((atW (drew w35) (fun w37 =>
(ifK (decide (x3 > 0))
(∃ a38 : Addr, ((dataa = some a38) ∧ (((0 : Int) ≤ wrap i64 (x3 - 1)) ∧ (((wrap i64 (x3 - 1) : Int) < (↑datal : Int)) ∧ (ldW Tryz.prog 35 (pointer (some (add a38 (Int.toNat (wrap i64 (x3 - 1)) * 3)))) (w37) (fun v39 =>
(∃ a40 : Addr, ((dataa = some a40) ∧ (((0 : Int) ≤ x27) ∧ (((x27 : Int) < (↑datal : Int)) ∧ (ldW Tryz.prog 35 (pointer (some (add a40 (Int.toNat x27 * 3)))) (w37) (fun v41 =>
(CaV Tryz.prog (cmp) (Array.mk [v39, v41]) (w37) (fun v42 => (fun w43 =>
(∃ x44 : Int, ((v42 = int i64 x44) ∧ (ifK (!decide (x44 < 0))
(Ca Tryz.prog (126) (Array.mk [slice dataa datal datac, int i64 x3, int i64 x4, int i64 x27, cmp]) (w43) (fun v45 => (fun w46 =>
(∃ x47 : Int, ((v45 = int i64 x47) ∧ ((z0 (x47) (x4) (x17) (b6) (b7) (w46)) ∧ (z1 x47 x4 x17 b6 b7 w46 < z1 x3 x4 x5 b6 b7 w8)))))))
(z36 (x3) (w43))))))))))))))))))))
(z36 (x3) (w37))))) ∧ (∀ (_ : Nat → Value), (∀ (x49 : Int), (∀ (w50 : World), ((z36 (x49) (w50)) → (Ca Tryz.prog (127) (Array.mk [slice dataa datal datac, int i64 x49, int i64 x4, int i64 x27, cmp]) (w50) (fun v51 => (fun w52 =>
(∃ x53 : Int, (∃ b54 : Bool, ((v51 = tuple (Array.mk (List.reverse [bool b54, int i64 x53]))) ∧ (((8 : Int) ≠ 0) ∧ (ifK (decide (wrap i64 (x53 - x49) < wrap i64 (x4 - x53)))
(Ca Tryz.prog (102) (Array.mk [slice dataa datal datac, int i64 x49, int i64 x53, int i64 x17, cmp]) (w52) (fun v55 => (fun w56 =>
((v55 = tuple (Array.mk (List.reverse []))) ∧ ((z0 (wrap i64 (x53 + 1)) (x4) (x17) (decide (wrap i64 (x53 - x49) ≥ wrap i64 (Int.tdiv (wrap i64 (x4 - x3)) 8))) (b54) (w56)) ∧ (z1 (wrap i64 (x53 + 1)) x4 x17 (decide (wrap i64 (x53 - x49) ≥ wrap i64 (Int.tdiv (wrap i64 (x4 - x3)) 8))) b54 w56 < z1 x3 x4 x5 b6 b7 w8))))))
(Ca Tryz.prog (102) (Array.mk [slice dataa datal datac, int i64 (wrap i64 (x53 + 1)), int i64 x4, int i64 x17, cmp]) (w52) (fun v57 => (fun w58 =>
((v57 = tuple (Array.mk (List.reverse []))) ∧ ((z0 (x49) (x53) (x17) (decide (wrap i64 (x4 - x53) ≥ wrap i64 (Int.tdiv (wrap i64 (x4 - x3)) 8))) (b54) (w58)) ∧ (z1 x49 x53 x17 (decide (wrap i64 (x4 - x53) ≥ wrap i64 (Int.tdiv (wrap i64 (x4 - x3)) 8))) b54 w58 < z1 x3 x4 x5 b6 b7 w8)))))))))))))))))))))))))))))))))))))))))))))))))))))))))
theorem ca102 (dataa : Option Addr) (datal : Nat) (datac : Nat) (a_ : Int) (b : Int) (limit : Int) (cmp : Value) (w : World) (R : Value → World → Prop) (h : W102 dataa datal datac a_ b limit cmp w R) : Ca Tryz.prog 102 ⟨[(.slice dataa datal datac), (.int .i64 a_), (.int .i64 b), (.int .i64 limit), cmp]⟩ w R :=
  caB (fn := Tryz.f102) (pl := pl102) (ls := ls102) Tryz.func102 (by kernel_rfl) (by kernel_rfl) h

/-- slices.SortFunc[[]staith/api.Binding,staith/api.Binding] -/
noncomputable def C80 : Code := (Tryz.f80.body).getD .skip
def pl80 : Nat → Plan := fun _ => .done
def ls80 : Nat → List (Nat × LT) := fun _ => []
def W80 (xa : Option Addr) (xl : Nat) (xc : Nat) (cmp : Value) (w : World) (R : Value → World → Prop) : Prop :=
  (Ca Tryz.prog (100) (Array.mk [int u64 (wrap u64 (↑xl : Int))]) (w) (fun v0 => (fun w1 =>
(∃ x2 : Int, ((v0 = int i64 x2) ∧ (Ca Tryz.prog (102) (Array.mk [slice xa xl xc, int i64 0, int i64 (↑xl : Int), int i64 x2, cmp]) (w1) (fun v3 => (fun w4 =>
((v3 = tuple (Array.mk (List.reverse []))) ∧ (R (tuple (Array.mk (List.reverse []))) (w4)))))))))))
theorem ca80 (xa : Option Addr) (xl : Nat) (xc : Nat) (cmp : Value) (w : World) (R : Value → World → Prop) (h : W80 xa xl xc cmp w R) : Ca Tryz.prog 80 ⟨[(.slice xa xl xc), cmp]⟩ w R :=
  caB (fn := Tryz.f80) (pl := pl80) (ls := ls80) Tryz.func80 (by kernel_rfl) (by kernel_rfl) h
end Go.Proofs.YtehhhkcemmfjpaaGreatDoor

/- The library's general sort, at one type: sorting what is nearly sorted; the sort itself. -/
namespace Go.Proofs.YtehhhkcemmfjpaaGreatDoor.SrtB
open Go Go.Proofs.YtehhhkcemmfjpaaGreatDoor Go.Proofs.YtehhhkcemmfjpaaGreatDoor.St

theorem wS {i : Nat} (h : i < 4611686018427387904) : IntKind.i64.wrap ((i : Int) + 1) = ((i + 1 : Nat) : Int) := by rw [wrap64 (by omega) (by omega)]; rfl
theorem wP {i : Nat} (h : i < 4611686018427387904) (h0 : 0 < i) : IntKind.i64.wrap ((i : Int) - 1) = ((i - 1 : Nat) : Int) := by rw [wrap64 (by omega) (by omega)]; omega
theorem wD {i j : Nat} (h : i < 4611686018427387904) (h0 : j ≤ i) : IntKind.i64.wrap ((i : Int) - (j : Int)) = ((i - j : Nat) : Int) := by rw [wrap64 (by omega) (by omega)]; omega

section
variable (cv : Value) (hc : Cmp cv) (d : Option Addr) (l c : Nat) (xs : List Bnd) (w : World) (hd : Rx bndL 35 w d l c xs) (hl : l < 4611686018427387904)
include hc hd hl

theorem partial_ok (a b : Nat) (hab : a < b) (hb : b ≤ l) (hbel : Bel xs a b) (R : Value → World → Prop)
    (h : ∀ w' ys (q : Bool), Rx bndL 35 w' d l c ys → Seg a b xs ys → (q = true → Srt ys a b) → Mod (rowB d) w w' → R (.bool q) w') :
    Ca Tryz.prog 125 #[.slice d l c, .int .i64 a, .int .i64 b, cv] w R := by
  refine ca125 d l c a b cv w R ?_
  rw [W125, wS (by omega)]
  refine ⟨fun x y w' => ∃ (i j : Nat) (ys : List Bnd), x = i ∧ y = j ∧ a < i ∧ i ≤ b ∧ j ≤ 5 ∧ Rx bndL 35 w' d l c ys ∧ Seg a b xs ys ∧ Srt ys a i ∧ Mod (rowB d) w w', fun _ y _ => (5 - y).toNat,
    ⟨a + 1, 0, xs, rfl, rfl, by omega, by omega, by omega, hd, Seg.refl _ _ _, Srt.nil _ _ _ (Nat.le_refl _), Mod.refl _ _⟩, ?_⟩
  rintro _ _ _ w1 ⟨i0, j0, ys, rfl, rfl, hi1, hi2, hj5, h1, s1, srt1, m1⟩
  refine ifK_dec (fun hlt => ?_) (fun _ => h w1 ys false h1 s1 (fun h => by cases h) m1)
  have hj : (j0 : Int) < 5 := hlt
  clear hlt
  -- as long as it rises
  refine ⟨fun x w' => ∃ i : Nat, x = i ∧ a < i ∧ i ≤ b ∧ Rx bndL 35 w' d l c ys ∧ Srt ys a i ∧ (i < b → at0 ys i < at0 ys (i - 1)) ∧ Mod (rowB d) w w', ⟨fun x w' => ∃ i : Nat, x = i ∧ a < i ∧ i ≤ b ∧ Rx bndL 35 w' d l c ys ∧ Srt ys a i ∧ Mod (rowB d) w w',
    fun x _ => ((b : Int) - x).toNat, ⟨i0, rfl, hi1, hi2, h1, srt1, m1⟩, ?_⟩, ?_⟩
  · rintro _ _ w2 ⟨i, rfl, h3, h4, h2, srt2, m2⟩ w3 e3
    have m3 : Mod no w2 w3 := by subst e3; exact Mod.drew _
    clear e3
    refine ifK_dec (fun hib => ?_) (fun hib => ⟨i, rfl, h3, h4, h2.no m3, srt2, fun h => by omega, m2.trans_no m3⟩)
    have hib : i < b := by omega
    rw [wS (i := i) (by omega), wP (i := i) (by omega) (by omega)]
    refine nls hc (h2.no m3) i (i - 1) rfl rfl (by omega) (by omega) (fun hge wc mc => ⟨⟨i + 1, rfl, by omega, by omega, (h2.no m3).no mc, (Ins.start srt2).done (.inr (Lin.nlt hge)), (m2.trans_no m3).trans_no mc⟩, by simp only; omega⟩)
      (fun hls wc mc => ⟨i, rfl, h3, h4, (h2.no m3).no mc, srt2, fun _ => hls, (m2.trans_no m3).trans_no mc⟩)
  rintro _ _ w4 ⟨i, rfl, h3, h4, h2, srt2, hls, m2⟩
  refine ifK_eq (fun hib => ?_) (fun hib => ?_)
  · have hib : i = b := by omega
    subst hib
    exact h w4 ys true h2 s1 (fun _ => srt2) m2
  have hib : i < b := by omega
  have hls := hls hib
  rw [wD (i := b) (j := a) (by omega) (by omega), wD (i := i) (j := a) (by omega) (by omega), wD (i := b) (j := i) (by omega) (by omega), wS (i := i) (by omega), wS (i := j0) (by omega), wP (i := i) (by omega) (by omega)]
  refine ifK_of (fun _ => h w4 ys false h2 s1 (fun h => by cases h) m2) (fun _ => ?_)
  intro w5 e5
  have m5 : Mod no w4 w5 := by subst e5; exact Mod.drew _
  clear e5
  refine (h2.no m5).swp hc.ho hc.hs i (i - 1) rfl rfl (by omega) (by omega) fun w6 h6 m6 => ?_
  have s6 : Seg a b xs (swapL ys i (i - 1)) := s1.trans (h2.seg (by omega) (by omega) (by omega) (by omega) (by omega) (by omega))
  have m6 := (m2.trans_no m5).trans m6
  have srt6 : Srt (swapL ys i (i - 1)) a (i - 1) := by
    intro p q h7 h8 h9
    rw [at0_swapL (h2.lt (by omega)) (h2.lt (by omega)), at0_swapL (h2.lt (by omega)) (h2.lt (by omega)), if_neg (by omega), if_neg (by omega), if_neg (by omega), if_neg (by omega)]
    exact srt2 p q h7 h8 (by omega)
  -- the smaller one to the left
  refine ⟨fun w' => ∃ zs, Rx bndL 35 w' d l c zs ∧ Seg a b xs zs ∧ Srt zs a i ∧ Mod (rowB d) w w', ?_, ?_⟩
  · refine ifK_dec (fun hge => ?_) (fun hlt => ⟨_, h6, s6, Srt.nil _ _ _ (by omega), m6⟩)
    refine ⟨fun x w' => ∃ (j : Nat) (zs : List Bnd), x = j ∧ a ≤ j ∧ j + 1 ≤ i ∧ Rx bndL 35 w' d l c zs ∧ Seg a b xs zs ∧ Ins zs a (i - 1) j ∧ Mod (rowB d) w w', fun x _ => x.toNat,
      ⟨i - 1, _, rfl, by omega, by omega, h6, s6, Ins.start srt6, m6⟩, ?_⟩
    rintro _ _ w7 ⟨j, zs, rfl, hj1, hj2, h7, s7, ins7, m7⟩
    have fin : (j ≤ a ∨ at0 zs (j - 1) ≤ at0 zs j) → Srt zs a i := fun hh => by
      have := ins7.done hh
      rwa [Nat.sub_add_cancel (by omega)] at this
    refine ifK_dec (fun hj0 => ?_) (fun hj0 => ⟨zs, h7, s7, fin (.inl (by omega)), m7⟩)
    have hj0 : 0 < j := by omega
    intro w8 e8
    have m8 : Mod no w7 w8 := by subst e8; exact Mod.drew _
    clear e8
    rw [wP (i := j) (by omega) hj0]
    refine nls hc (h7.no m8) j (j - 1) rfl rfl (by omega) (by omega) (fun hge wc mc => ⟨zs, (h7.no m8).no mc, s7, fin (.inr (Lin.nlt hge)), (m7.trans_no m8).trans_no mc⟩) (fun hlt wc mc => ?_)
    have haj : a < j := by
      refine Nat.lt_of_le_of_ne hj1 fun e => ?_
      subst e
      exact absurd hlt (Lin.nle ((hbel.seg s7 (hd.le hb)) hj0 a (Nat.le_refl _) hab))
    intro w9 e9
    have m9 : Mod no w8 w9 := by subst e9; exact mc.trans (Mod.drew _)
    clear e9
    refine ((h7.no m8).no m9).swp hc.ho hc.hs j (j - 1) rfl rfl (by omega) (by omega) fun w10 h10 m10 => ?_
    exact ⟨⟨j - 1, _, rfl, by omega, by omega, h10, s7.trans (h7.seg (by omega) (by omega) (by omega) (by omega) (by omega) (by omega)), ins7.step (h7.lt (by omega)) haj (by omega) hlt, ((m7.trans_no m8).trans_no m9).trans m10⟩, by simp only; omega⟩
  -- the greater one to the right
  rintro _ w11 ⟨zs, h11, s11, srt11, m11⟩
  have next : ∀ (w' : World) (us : List Bnd), Rx bndL 35 w' d l c us → Seg a b xs us → Srt us a i → Mod (rowB d) w w' →
      (∃ (i' j' : Nat) (ys : List Bnd), (i : Int) = i' ∧ ((j0 + 1 : Nat) : Int) = j' ∧ a < i' ∧ i' ≤ b ∧ j' ≤ 5 ∧ Rx bndL 35 w' d l c ys ∧ Seg a b xs ys ∧ Srt ys a i' ∧ Mod (rowB d) w w') ∧ (5 - ((j0 + 1 : Nat) : Int)).toNat < (5 - (j0 : Int)).toNat := by
    intro w' us hu su srtu mu
    exact ⟨⟨i, j0 + 1, us, rfl, rfl, h3, h4, by omega, hu, su, srtu, mu⟩, by omega⟩
  refine ifK_of (fun hge => ?_) (fun _ => next w11 zs h11 s11 srt11 m11)
  refine ⟨fun x w' => ∃ (j : Nat) (us : List Bnd), x = j ∧ i < j ∧ j ≤ b ∧ Rx bndL 35 w' d l c us ∧ Seg a b xs us ∧ Srt us a i ∧ Mod (rowB d) w w', fun x _ => ((b : Int) - x).toNat,
    ⟨i + 1, zs, rfl, by omega, by omega, h11, s11, srt11, m11⟩, ?_⟩
  rintro _ _ w12 ⟨j, us, rfl, hj1, hj2, h12, s12, srt12, m12⟩
  refine ifK_dec (fun hjb => ?_) (fun _ => next w12 us h12 s12 srt12 m12)
  have hjb : j < b := by omega
  intro w13 e13
  have m13 : Mod no w12 w13 := by subst e13; exact Mod.drew _
  clear e13
  rw [wP (i := j) (by omega) (by omega), wS (i := j) (by omega)]
  refine nls hc (h12.no m13) j (j - 1) rfl rfl (by omega) (by omega) (fun _ wc mc => next wc us ((h12.no m13).no mc) s12 srt12 ((m12.trans_no m13).trans_no mc)) (fun hlt wc mc => ?_)
  intro w14 e14
  have m14 : Mod no w13 w14 := by subst e14; exact mc.trans (Mod.drew _)
  clear e14
  refine ((h12.no m13).no m14).swp hc.ho hc.hs j (j - 1) rfl rfl (by omega) (by omega) fun w15 h15 m15 => ?_
  have s15 : Seg i b us (swapL us j (j - 1)) := h12.seg (by omega) (by omega) (by omega) (by omega) (by omega) (by omega)
  exact ⟨⟨j + 1, _, rfl, by omega, by omega, h15, s12.trans (s15.mono (by omega) (Nat.le_refl _)), srt12.of_out s15 (.inl (Nat.le_refl _)), ((m12.trans_no m13).trans_no m14).trans m15⟩, by simp only; omega⟩
end

/-- The general sort. -/
theorem pdq_ok (cv : Value) (hc : Cmp cv) (d : Option Addr) (l c : Nat) (hl : l < 4611686018427387904) : ∀ (n a b : Nat) (lim : Int) (xs : List Bnd) (w : World), b - a ≤ n → Rx bndL 35 w d l c xs → a ≤ b → b ≤ l → Bel xs a b → ∀ R : Value → World → Prop,
    (∀ w' ys, Rx bndL 35 w' d l c ys → Seg a b xs ys → Srt ys a b → Mod (rowB d) w w' → R (.tuple #[]) w') →
    Ca Tryz.prog 102 #[.slice d l c, .int .i64 a, .int .i64 b, .int .i64 lim, cv] w R := by
  intro n
  induction n using Nat.strongRecOn with
  | _ n ih =>
  intro a b lim xs w hn hd hab hb hbel R h
  refine ca102 d l c a b lim cv w R ?_
  refine ⟨fun x y _ _ _ w' => ∃ (a' b' : Nat) (ys : List Bnd), x = a' ∧ y = b' ∧ a ≤ a' ∧ a' ≤ b' ∧ b' ≤ b ∧ Rx bndL 35 w' d l c ys ∧ Seg a b xs ys ∧ Alm ys a b a' b' ∧ Bel ys a' b' ∧ Mod (rowB d) w w', fun x y _ _ _ _ => (y - x).toNat,
    ⟨a, b, xs, rfl, rfl, Nat.le_refl _, hab, Nat.le_refl _, hd, Seg.refl _ _ _, Alm.start _ _ _, hbel, Mod.refl _ _⟩, ?_⟩
  rintro _ _ _ lim' b6 b7 w1 ⟨a', b', ys, rfl, rfl, ha, hab', hb', h1, s1, alm1, bel1, m1⟩
  have sorted : ∀ w' zs, Rx bndL 35 w' d l c zs → Seg a' b' ys zs → Srt zs a' b' → Mod (rowB d) w1 w' → R (.tuple #[]) w' := fun w' zs hz sz srt mz =>
    h w' zs hz (s1.trans (sz.mono ha hb')) ((alm1.seg sz ha hb' (h1.le hb)).full srt) (m1.trans mz)
  rw [wD (i := b') (j := a') (by omega) hab']
  refine ifK_dec (fun _ => ?_) (fun hlen => ?_)
  · exact insertion_ok cv hc d l c a' b' ys w1 h1 hab' (by omega) hl _ fun w2 zs h2 s2 srt2 m2 => ⟨rfl, sorted w2 zs h2 s2 srt2 m2⟩
  have hlen : a' + 12 < b' := by omega
  refine ifK_of (fun _ => ?_) (fun _ => ?_)
  · exact heapSort_ok cv hc d l c ys w1 h1 hl a' b' (by omega) (by omega) _ fun w2 zs h2 s2 srt2 m2 => ⟨rfl, sorted w2 zs h2 s2 srt2 m2⟩
  -- a part of another order is as good
  refine ⟨fun _ w' => ∃ zs, Rx bndL 35 w' d l c zs ∧ Seg a' b' ys zs ∧ Mod (rowB d) w1 w', ?_, ?_⟩
  · refine ifK_of (fun _ => ?_) (fun _ => ⟨ys, h1, Seg.refl _ _ _, Mod.refl _ _⟩)
    exact breakP_ok cv hc d l c ys w1 h1 hl a' b' (by omega) (by omega) _ fun w2 zs h2 s2 m2 => ⟨rfl, zs, h2, s2, m2⟩
  rintro _ lim2 w2 ⟨zs, h2, s2, m2⟩
  refine choosePivot_ok cv hc d l c zs w2 h2 hl a' b' (by omega) (by omega) _ fun w3 p hint hp1 hp2 m3 => ⟨_, _, rfl, ?_⟩
  refine ⟨fun x _ w' => ∃ (p : Nat) (us : List Bnd), x = p ∧ a' ≤ p ∧ p < b' ∧ Rx bndL 35 w' d l c us ∧ Seg a' b' ys us ∧ Mod (rowB d) w1 w', ?_, ?_⟩
  · refine ifK_of (fun _ => ?_) (fun _ => ⟨p, zs, rfl, hp1, hp2, h2.no m3, s2, m2.trans_no m3⟩)
    refine reverse_ok cv hc d l c zs w3 (h2.no m3) hl a' b' (by omega) (by omega) _ fun w4 us h4 s4 m4 => ⟨rfl, b' - 1 - (p - a'), us, ?_, by omega, by omega, h4, s2.trans s4, (m2.trans_no m3).trans m4⟩
    rw [wP (i := b') (by omega) (by omega), wD (i := p) (j := a') (by omega) hp1, wD (by omega) (by omega)]
  rintro _ _ hint2 w5 ⟨p, us, rfl, hp1, hp2, h5, s5, m5⟩
  refine ⟨fun w' => ∃ vs, Rx bndL 35 w' d l c vs ∧ Seg a' b' ys vs ∧ Mod (rowB d) w1 w', ?_, ?_⟩
  · refine ifK_of (fun _ => ifK_of (fun _ => ifK_of (fun _ => ?_) (fun _ => ⟨us, h5, s5, m5⟩)) (fun _ => ⟨us, h5, s5, m5⟩)) (fun _ => ⟨us, h5, s5, m5⟩)
    refine partial_ok cv hc d l c us w5 h5 hl a' b' (by omega) (by omega) (bel1.seg s5 (h1.le (by omega))) _ fun w6 vs q h6 s6 srt6 m6 => ⟨q, rfl, ?_⟩
    exact ifK_of (fun hq => sorted w6 vs h6 (s5.trans s6) (srt6 hq) (m5.trans m6)) (fun _ => ⟨vs, h6, s5.trans s6, m5.trans m6⟩)
  rintro _ w7 ⟨vs, h7, s7, m7⟩
  have s7' : Seg a b xs vs := s1.trans (s7.mono ha hb')
  have m7' := m1.trans m7
  have alm7 := alm1.seg s7 ha hb' (h1.le hb)
  have bel7 := bel1.seg s7 (h1.le (by omega))
  -- parted into less and more
  refine ⟨fun x w' => x = (a' : Int) ∧ Rx bndL 35 w' d l c vs ∧ Mod (rowB d) w w', ?_, ?_⟩
  · intro w8 e8
    have m8 : Mod no w7 w8 := by subst e8; exact Mod.drew _
    clear e8
    refine ifK_dec (fun ha0 => ?_) (fun _ => ⟨rfl, h7.no m8, m7'.trans_no m8⟩)
    have ha0 : 0 < a' := by omega
    rw [wP (i := a') (by omega) ha0]
    refine nls hc (h7.no m8) (a' - 1) p rfl rfl (by omega) (by omega) (fun hge wc mc => ?_) (fun _ wc mc => ⟨rfl, (h7.no m8).no mc, (m7'.trans_no m8).trans_no mc⟩)
    have hmin : ∀ k, a' ≤ k → k < b' → at0 vs p ≤ at0 vs k := fun k h8 h9 => Lin.tr (Lin.nlt hge) (bel7 ha0 k h8 h9)
    refine partEq_ok cv hc d l c vs wc ((h7.no m8).no mc) hl a' b' p hp1 hp2 (by omega) hmin _ fun w9 ts m h9 s9 eq9 m9 => ⟨_, rfl, ?_⟩
    have hm1 := eq9.am
    have hm2 := eq9.mb
    exact ⟨⟨m, b', ts, rfl, rfl, by omega, hm2, hb', h9, s7'.trans (s9.mono ha hb'), (alm7.seg s9 ha hb' (h7.le hb)).eqd eq9, eq9.bel, ((m7'.trans_no m8).trans_no mc).trans m9⟩, by simp only; omega⟩
  rintro _ _ w10 ⟨rfl, h10, m10⟩
  refine partition_ok cv hc d l c vs w10 h10 hl a' b' p hp1 hp2 (by omega) _ fun w11 ts m q h11 s11 pt11 m11 => ⟨_, _, rfl, by decide, ?_⟩
  have hm1 := pt11.am
  have hm2 := pt11.mb
  have s11' : Seg a b xs ts := s7'.trans (s11.mono ha hb')
  have alm11 := alm7.seg s11 ha hb' (h7.le hb)
  have bel11 := bel7.seg s11 (h7.le (by omega))
  have m11' := m10.trans m11
  rw [wS (i := m) (by omega)]
  refine ifK_of (fun _ => ?_) (fun _ => ?_)
  · refine ih (m - a') (by omega) a' m lim2 ts w11 (Nat.le_refl _) h11 hm1 (by omega) (bel11.mono (by omega)) _ fun w12 rs h12 s12 srt12 m12 => ⟨rfl, ?_⟩
    have pt12 := pt11.left (h11.le (by omega)) s12
    exact ⟨⟨m + 1, b', rs, rfl, rfl, by omega, by omega, hb', h12, s11'.trans (s12.mono (by omega) (by omega)), (alm11.seg (s12.mono (Nat.le_refl _) (by omega)) ha hb' (h11.le hb)).left pt12 srt12, pt12.bel, m11'.trans m12⟩, by simp only; omega⟩
  · refine ih (b' - (m + 1)) (by omega) (m + 1) b' lim2 ts w11 (Nat.le_refl _) h11 (by omega) (by omega) pt11.bel _ fun w12 rs h12 s12 srt12 m12 => ⟨rfl, ?_⟩
    have pt12 := pt11.right (h11.le (by omega)) s12
    exact ⟨⟨a', m, rs, rfl, rfl, ha, hm1, by omega, h12, s11'.trans (s12.mono (by omega) (by omega)), (alm11.seg (s12.mono (by omega) (Nat.le_refl _)) ha hb' (h11.le hb)).right pt12 srt12,
      (bel11.seg (s12.mono (by omega) (Nat.le_refl _)) (h11.le (by omega))).mono (by omega), m11'.trans m12⟩, by simp only; omega⟩

theorem sort_ok (cv : Value) (hc : Cmp cv) (d : Option Addr) (l c : Nat) (xs : List Bnd) (w : World) (hd : Rx bndL 35 w d l c xs) (hl : l < 4611686018427387904) (R : Value → World → Prop)
    (h : ∀ w' ys, Rx bndL 35 w' d l c ys → ys.Perm xs → Srt ys 0 l → Mod (rowB d) w w' → R (.tuple #[]) w') :
    Ca Tryz.prog 80 #[.slice d l c, cv] w R := by
  refine ca80 d l c cv w R ?_
  refine bitsLen_ok _ w _ fun n _ => ⟨n, rfl, ?_⟩
  exact pdq_ok cv hc d l c hl l 0 l n xs w (Nat.le_refl _) hd (Nat.zero_le _) (Nat.le_refl _) (fun h => absurd h (by omega)) _ fun w' ys h1 h2 h3 h4 => ⟨rfl, h w' ys h1 h2.perm h3 h4⟩
end Go.Proofs.YtehhhkcemmfjpaaGreatDoor.SrtB

/- The formulas of functions, printed by a program of mine (gen.py) out of the translation. -/
namespace Go.Proofs.YtehhhkcemmfjpaaGreatDoor
open Go Go.Proofs.YtehhhkcemmfjpaaGreatDoor.St
open _root_.Go.Value (string int bool slice pointer agg tuple map func nilFunc iface)
open _root_.Go.World (cell? frozen? setCell alloc drew)
open _root_.Go.Addr (add)
open _root_.Go.Obj (cells)
open _root_.Go.IntKind (wrap i64 u64 i32 u32 u8)
set_option maxRecDepth 100000

/-- slices.insertionSortCmpFunc[staith/api.Exchange] -/
noncomputable def C110 : Code := (Tryz.f110.body).getD .skip
def pl110 : Nat → Plan
  | 4 => (.quiet 0 (.quiet 1 (.quiet 2 (.quiet 3 (.quiet 4 (.quiet 5 (.quiet 6 (.quiet 7 (.quiet 8 (.quiet 9 (.quiet 10 (.quiet 11 (.quiet 12 (.quiet 13 (.eff 14 [] (.quiet 15 (.quiet 16 .done)))))))))))))))))
  | 6 => (.quiet 0 (.quiet 1 (.quiet 2 (.quiet 3 (.quiet 4 (.quiet 5 (.quiet 6 (.quiet 7 (.quiet 8 (.quiet 9 (.quiet 10 (.quiet 11 (.quiet 12 (.quiet 13 (.quiet 14 (.eff 15 [] (.quiet 16 (.eff 17 [] .done))))))))))))))))))
  | _ => .done
def ls110 : Nat → List (Nat × LT)
  | 1 => [(8, (.one (.int .i64)))]
  | 6 => [(9, (.one (.int .i64)))]
  | _ => []
def W110 (dataa : Option Addr) (datal : Nat) (_datac : Nat) (a_ : Int) (b : Int) (cmp : Value) (w : World) (R : Value → World → Prop) : Prop :=
  (∃ z0 : Int → World → Prop, (∃ z1 : Int → World → Nat, ((z0 (wrap i64 (a_ + 1)) (w)) ∧ (∀ (_ : Nat → Value), (∀ (x3 : Int), (∀ (w4 : World), ((z0 (x3) (w4)) → (ifK (decide (x3 < b))
(∃ z5 : Int → World → Prop, (∃ z6 : Int → World → Nat, ((z5 (x3) (w4)) ∧ (∀ (_ : Nat → Value), (∀ (x8 : Int), (∀ (w9 : World), ((z5 (x8) (w9)) → (atW (drew w9) (fun w10 =>
(ifK (decide (x8 > a_))
(∃ a11 : Addr, ((dataa = some a11) ∧ (((0 : Int) ≤ x8) ∧ (((x8 : Int) < (↑datal : Int)) ∧ (ldW Tryz.prog 33 (pointer (some (add a11 (Int.toNat x8 * 3)))) (w10) (fun v12 =>
(∃ a13 : Addr, ((dataa = some a13) ∧ (((0 : Int) ≤ wrap i64 (x8 - 1)) ∧ (((wrap i64 (x8 - 1) : Int) < (↑datal : Int)) ∧ (ldW Tryz.prog 33 (pointer (some (add a13 (Int.toNat (wrap i64 (x8 - 1)) * 3)))) (w10) (fun v14 =>
(CaV Tryz.prog (cmp) (Array.mk [v12, v14]) (w10) (fun v15 => (fun w16 =>
(∃ x17 : Int, ((v15 = int i64 x17) ∧ (ifK (decide (x17 < 0))
(atW (drew w16) (fun w18 =>
(∃ a19 : Addr, ((dataa = some a19) ∧ (((0 : Int) ≤ wrap i64 (x8 - 1)) ∧ (((wrap i64 (x8 - 1) : Int) < (↑datal : Int)) ∧ (ldW Tryz.prog 33 (pointer (some (add a19 (Int.toNat (wrap i64 (x8 - 1)) * 3)))) (w18) (fun v20 =>
(∃ a21 : Addr, ((dataa = some a21) ∧ (((0 : Int) ≤ x8) ∧ (((x8 : Int) < (↑datal : Int)) ∧ (ldW Tryz.prog 33 (pointer (some (add a21 (Int.toNat x8 * 3)))) (w18) (fun v22 =>
(∃ a23 : Addr, ((dataa = some a23) ∧ (((0 : Int) ≤ x8) ∧ (((x8 : Int) < (↑datal : Int)) ∧ (stW Tryz.prog 33 (pointer (some (add a23 (Int.toNat x8 * 3)))) (v20) (w18) (fun w24 =>
(∃ a25 : Addr, ((dataa = some a25) ∧ (((0 : Int) ≤ wrap i64 (x8 - 1)) ∧ (((wrap i64 (x8 - 1) : Int) < (↑datal : Int)) ∧ (stW Tryz.prog 33 (pointer (some (add a25 (Int.toNat (wrap i64 (x8 - 1)) * 3)))) (v22) (w24) (fun w26 =>
((z5 (wrap i64 (x8 - 1)) (w26)) ∧ (z6 (wrap i64 (x8 - 1)) w26 < z6 x8 w9))))))))))))))))))))))))))))
((z0 (wrap i64 (x3 + 1)) (w16)) ∧ (z1 (wrap i64 (x3 + 1)) w16 < z1 x3 w4))))))))))))))))))))
((z0 (wrap i64 (x3 + 1)) (w10)) ∧ (z1 (wrap i64 (x3 + 1)) w10 < z1 x3 w4))))))))))))
(R (tuple (Array.mk (List.reverse []))) (w4))))))))))
theorem ca110 (dataa : Option Addr) (datal : Nat) (datac : Nat) (a_ : Int) (b : Int) (cmp : Value) (w : World) (R : Value → World → Prop) (h : W110 dataa datal datac a_ b cmp w R) : Ca Tryz.prog 110 ⟨[(.slice dataa datal datac), (.int .i64 a_), (.int .i64 b), cmp]⟩ w R :=
  caB (fn := Tryz.f110) (pl := pl110) (ls := ls110) Tryz.func110 (by kernel_rfl) (by kernel_rfl) h
end Go.Proofs.YtehhhkcemmfjpaaGreatDoor

/- The library's sort with a comparison, at one type of elements (structs): insertion sort. -/
namespace Go.Proofs.YtehhhkcemmfjpaaGreatDoor.SrtX
open Go Go.Proofs.YtehhhkcemmfjpaaGreatDoor Go.Proofs.YtehhhkcemmfjpaaGreatDoor.St

/-- The comparison is less than nothing just where the order is. -/
structure Cmp (cv : Value) : Prop where
  ho : LayOk Tryz.prog 33 excL
  hs : (excL).s = 3
  cmp : ∀ (x y : Exc) (w : World) (R : Value → World → Prop), (∀ w' (n : Int), Mod no w w' → (n < 0 ↔ x < y) → R (.int .i64 n) w') → CaV Tryz.prog cv #[.agg ⟨(excL).cs x⟩, .agg ⟨(excL).cs y⟩] w R
theorem Rx.nblk {d : Option Addr} {l c : Nat} {xs : List Exc} {w : World} (hd : Rx excL 33 w d l c xs) : ¬ rowB d w.heap.size := fun hk => absurd (Row.lt hd _ hk) (Nat.lt_irrefl _)

section
variable {cv : Value} {d : Option Addr} {l c : Nat} {xs : List Exc} {w : World}
/-- Is the one less than the other? -/
theorem lss (hc : Cmp cv) (hd : Rx excL 33 w d l c xs) {i j : Int} (m n : Nat) (hi : i = m) (hj : j = n) (hm : m < l) (hn : n < l) {A B : World → Prop} (hA : at0 xs m < at0 xs n → ∀ w', Mod no w w' → A w') (hB : ¬ at0 xs m < at0 xs n → ∀ w', Mod no w w' → B w') :
    ∃ ad : Addr, d = some ad ∧ (0 : Int) ≤ i ∧ i < (↑l : Int) ∧ ldW Tryz.prog 33 (.pointer (some (Addr.add ad (Int.toNat i * 3)))) w fun x =>
    ∃ ad : Addr, d = some ad ∧ (0 : Int) ≤ j ∧ j < (↑l : Int) ∧ ldW Tryz.prog 33 (.pointer (some (Addr.add ad (Int.toNat j * 3)))) w fun y =>
    CaV Tryz.prog cv (Array.mk [x, y]) w (fun v w' => ∃ k : Int, v = Value.int .i64 k ∧ ifK (decide (k < 0)) (A w') (B w')) :=
  hd.rd hc.ho hc.hs m hi hm (hd.rd hc.ho hc.hs n hj hn (hc.cmp _ _ _ _ fun w' k mm h => ⟨k, rfl, ifK_dec (fun h' => hA (h.1 h') w' mm) (fun h' => hB (fun h'' => h' (h.2 h'')) w' mm)⟩))
/-- Is the one not less than the other? -/
theorem nls (hc : Cmp cv) (hd : Rx excL 33 w d l c xs) {i j : Int} (m n : Nat) (hi : i = m) (hj : j = n) (hm : m < l) (hn : n < l) {A B : World → Prop} (hA : ¬ at0 xs m < at0 xs n → ∀ w', Mod no w w' → A w') (hB : at0 xs m < at0 xs n → ∀ w', Mod no w w' → B w') :
    ∃ ad : Addr, d = some ad ∧ (0 : Int) ≤ i ∧ i < (↑l : Int) ∧ ldW Tryz.prog 33 (.pointer (some (Addr.add ad (Int.toNat i * 3)))) w fun x =>
    ∃ ad : Addr, d = some ad ∧ (0 : Int) ≤ j ∧ j < (↑l : Int) ∧ ldW Tryz.prog 33 (.pointer (some (Addr.add ad (Int.toNat j * 3)))) w fun y =>
    CaV Tryz.prog cv (Array.mk [x, y]) w (fun v w' => ∃ k : Int, v = Value.int .i64 k ∧ ifK (!decide (k < 0)) (A w') (B w')) :=
  hd.rd hc.ho hc.hs m hi hm (hd.rd hc.ho hc.hs n hj hn (hc.cmp _ _ _ _ fun w' k mm h => ⟨k, rfl, ifK_not (fun h' => hA (fun h'' => of_decide_eq_false h' (h.2 h'')) w' mm) (fun h' => hB (h.1 (of_decide_eq_true h')) w' mm)⟩))
end

theorem insertion_ok (cv : Value) (hc : Cmp cv) (d : Option Addr) (l c : Nat) (a b : Nat) (xs : List Exc) (w : World) (hd : Rx excL 33 w d l c xs) (hab : a ≤ b) (hb : b ≤ l) (hl : l < 4611686018427387904) (R : Value → World → Prop)
    (h : ∀ w' ys, Rx excL 33 w' d l c ys → Seg a b xs ys → Srt ys a b → Mod (rowB d) w w' → R (.tuple #[]) w') :
    Ca Tryz.prog 110 #[.slice d l c, .int .i64 a, .int .i64 b, cv] w R := by
  obtain ⟨hxl, hlc, hcm⟩ := hd.len
  refine ca110 d l c a b cv w R ?_
  refine ⟨fun x w' => ∃ (i : Nat) (ys : List Exc), x = i ∧ a < i ∧ (i ≤ b ∨ i = a + 1) ∧ Rx excL 33 w' d l c ys ∧ Seg a b xs ys ∧ Srt ys a (min i b) ∧ Mod (rowB d) w w',
    fun x _ => ((b : Int) - x).toNat, ⟨a + 1, xs, (by first | (simp only [IntKind.wrap_i64]; omega) | omega), by omega, .inr rfl, hd, Seg.refl _ _ _, Srt.nil _ _ _ (by omega), Mod.refl _ _⟩, ?_⟩
  rintro _ x w4 ⟨i, ys, rfl, hai, hib, hys, hseg, hsrt, hm⟩
  refine ifK_dec (fun hlt => ?_) (fun hge => ?_)
  · have hsrt : Srt ys a i := by rwa [Nat.min_eq_left (by omega)] at hsrt
    refine ⟨fun x w' => ∃ (j : Nat) (zs : List Exc), x = j ∧ a ≤ j ∧ j ≤ i ∧ Rx excL 33 w' d l c zs ∧ Seg a b xs zs ∧ Ins zs a i j ∧ Mod (rowB d) w w', fun x _ => (x - a).toNat,
      ⟨i, ys, rfl, by omega, Nat.le_refl _, hys, hseg, Ins.start hsrt, hm⟩, ?_⟩
    rintro _ x w9 ⟨j, zs, rfl, haj, hji, hzs, hsg, hins, hm9⟩
    have hzl := hzs.len.1
    intro w10 e10
    have m10 : Mod no w9 w10 := by subst e10; exact Mod.drew _
    clear e10
    have hz10 := hzs.no m10
    have hm10 := hm9.trans_no m10
    have next : ∀ w17, Mod no w10 w17 → (j ≤ a ∨ at0 zs (j - 1) ≤ at0 zs j) → (∃ (i' : Nat) (ys : List Exc), IntKind.i64.wrap ((i : Int) + 1) = i' ∧ a < i' ∧ (i' ≤ b ∨ i' = a + 1) ∧ Rx excL 33 w17 d l c ys ∧ Seg a b xs ys ∧ Srt ys a (min i' b) ∧ Mod (rowB d) w w17) ∧
        ((b : Int) - IntKind.i64.wrap ((i : Int) + 1)).toNat < ((b : Int) - i).toNat := by
      intro w17 m17 hj
      refine ⟨⟨i + 1, zs, (by first | (simp only [IntKind.wrap_i64]; omega) | omega), by omega, .inl (by omega), hz10.no m17, hsg, ?_, hm10.trans_no m17⟩, (by first | (simp only [IntKind.wrap_i64]; omega) | omega)⟩
      rw [Nat.min_eq_left (by omega)]
      exact hins.done hj
    refine ifK_dec (fun hgt => ?_) (fun hle => next w10 (Mod.refl _ _) (.inl (by omega)))
    refine lss hc hz10 j (j - 1) rfl (by first | (simp only [IntKind.wrap_i64]; omega) | omega) (by omega) (by omega) (fun hls w17 m17 => ?_) (fun hls w17 m17 => next w17 m17 (.inr (Lin.nlt hls)))
    intro w18 e18
    have m18 : Mod no w10 w18 := by subst e18; exact m17.trans (Mod.drew _)
    clear e18
    refine (hz10.no m18).swp hc.ho hc.hs j (j - 1) rfl (by first | (simp only [IntKind.wrap_i64]; omega) | omega) (by omega) (by omega) fun w28 hz28 m28 => ?_
    exact ⟨⟨j - 1, swapL zs j (j - 1), (by first | (simp only [IntKind.wrap_i64]; omega) | omega), by omega, by omega, hz28, hsg.trans (Seg.swap (by omega) (by omega) (by omega) (by omega) (by omega) (by omega)),
      hins.step (by omega) (by omega) hji hls, (hm10.trans_no m18).trans m28⟩, (by first | (simp only [IntKind.wrap_i64]; omega) | omega)⟩
  · rw [Nat.min_eq_right (by omega)] at hsrt
    exact h w4 ys hys hseg hsrt hm
end Go.Proofs.YtehhhkcemmfjpaaGreatDoor.SrtX

/- The formulas of functions, printed by a program of mine (gen.py) out of the translation. -/
namespace Go.Proofs.YtehhhkcemmfjpaaGreatDoor
open Go Go.Proofs.YtehhhkcemmfjpaaGreatDoor.St
open _root_.Go.Value (string int bool slice pointer agg tuple map func nilFunc iface)
open _root_.Go.World (cell? frozen? setCell alloc drew)
open _root_.Go.Addr (add)
open _root_.Go.Obj (cells)
open _root_.Go.IntKind (wrap i64 u64 i32 u32 u8)
set_option maxRecDepth 100000

/-- slices.order2CmpFunc[staith/api.Exchange] -/
noncomputable def C151 : Code := (Tryz.f151.body).getD .skip
def pl151 : Nat → Plan
  | 1 => (.quiet 0 (.quiet 1 (.quiet 2 (.quiet 3 (.quiet 4 (.quiet 5 (.quiet 6 (.quiet 7 (.quiet 8 (.eff 9 [] (.quiet 10 .done)))))))))))
  | _ => .done
def ls151 : Nat → List (Nat × LT) := fun _ => []
def W151 (dataa : Option Addr) (datal : Nat) (_datac : Nat) (a_ : Int) (b : Int) (swaps : Option Addr) (cmp : Value) (w : World) (R : Value → World → Prop) : Prop :=
  (atW (drew w) (fun w0 =>
(∃ a1 : Addr, ((dataa = some a1) ∧ (((0 : Int) ≤ b) ∧ (((b : Int) < (↑datal : Int)) ∧ (ldW Tryz.prog 33 (pointer (some (add a1 (Int.toNat b * 3)))) (w0) (fun v2 =>
(∃ a3 : Addr, ((dataa = some a3) ∧ (((0 : Int) ≤ a_) ∧ (((a_ : Int) < (↑datal : Int)) ∧ (ldW Tryz.prog 33 (pointer (some (add a3 (Int.toNat a_ * 3)))) (w0) (fun v4 =>
(CaV Tryz.prog (cmp) (Array.mk [v2, v4]) (w0) (fun v5 => (fun w6 =>
(∃ x7 : Int, ((v5 = int i64 x7) ∧ (ifK (decide (x7 < 0))
(onP (swaps) (fun a8 =>
(∃ x9 : Int, ((cell? w6 a8 = some (int i64 x9)) ∧ (onP (swaps) (fun a10 =>
(st1 (add a10 0) (int i64 (wrap i64 (x9 + 1))) w6 (fun w12 =>
(R (tuple (Array.mk [int i64 b, int i64 a_])) (w12))))))))))
(R (tuple (Array.mk [int i64 a_, int i64 b])) (w6))))))))))))))))))))))
theorem ca151 (dataa : Option Addr) (datal : Nat) (datac : Nat) (a_ : Int) (b : Int) (swaps : Option Addr) (cmp : Value) (w : World) (R : Value → World → Prop) (h : W151 dataa datal datac a_ b swaps cmp w R) : Ca Tryz.prog 151 ⟨[(.slice dataa datal datac), (.int .i64 a_), (.int .i64 b), (.pointer swaps), cmp]⟩ w R :=
  caB (fn := Tryz.f151) (pl := pl151) (ls := ls151) Tryz.func151 (by kernel_rfl) (by kernel_rfl) h

/-- slices.medianCmpFunc[staith/api.Exchange] -/
noncomputable def C143 : Code := (Tryz.f143.body).getD .skip
def pl143 : Nat → Plan := fun _ => .done
def ls143 : Nat → List (Nat × LT) := fun _ => []
def W143 (dataa : Option Addr) (datal : Nat) (datac : Nat) (a_ : Int) (b : Int) (c : Int) (swaps : Option Addr) (cmp : Value) (w : World) (R : Value → World → Prop) : Prop :=
  (Ca Tryz.prog (151) (Array.mk [slice dataa datal datac, int i64 a_, int i64 b, pointer swaps, cmp]) (w) (fun v0 => (fun w1 =>
(∃ x2 : Int, (∃ x3 : Int, ((v0 = tuple (Array.mk (List.reverse [int i64 x3, int i64 x2]))) ∧ (Ca Tryz.prog (151) (Array.mk [slice dataa datal datac, int i64 x3, int i64 c, pointer swaps, cmp]) (w1) (fun v4 => (fun w5 =>
(∃ x6 : Int, (∃ x7 : Int, ((v4 = tuple (Array.mk (List.reverse [int i64 x7, int i64 x6]))) ∧ (Ca Tryz.prog (151) (Array.mk [slice dataa datal datac, int i64 x2, int i64 x6, pointer swaps, cmp]) (w5) (fun v8 => (fun w9 =>
(∃ x10 : Int, (∃ x11 : Int, ((v8 = tuple (Array.mk (List.reverse [int i64 x11, int i64 x10]))) ∧ (R (int i64 x11) (w9))))))))))))))))))))
theorem ca143 (dataa : Option Addr) (datal : Nat) (datac : Nat) (a_ : Int) (b : Int) (c : Int) (swaps : Option Addr) (cmp : Value) (w : World) (R : Value → World → Prop) (h : W143 dataa datal datac a_ b c swaps cmp w R) : Ca Tryz.prog 143 ⟨[(.slice dataa datal datac), (.int .i64 a_), (.int .i64 b), (.int .i64 c), (.pointer swaps), cmp]⟩ w R :=
  caB (fn := Tryz.f143) (pl := pl143) (ls := ls143) Tryz.func143 (by kernel_rfl) (by kernel_rfl) h

/-- slices.medianAdjacentCmpFunc[staith/api.Exchange] -/
noncomputable def C142 : Code := (Tryz.f142.body).getD .skip
def pl142 : Nat → Plan := fun _ => .done
def ls142 : Nat → List (Nat × LT) := fun _ => []
def W142 (dataa : Option Addr) (datal : Nat) (datac : Nat) (a_ : Int) (swaps : Option Addr) (cmp : Value) (w : World) (R : Value → World → Prop) : Prop :=
  (Ca Tryz.prog (143) (Array.mk [slice dataa datal datac, int i64 (wrap i64 (a_ - 1)), int i64 a_, int i64 (wrap i64 (a_ + 1)), pointer swaps, cmp]) (w) (fun v0 => (fun w1 =>
(∃ x2 : Int, ((v0 = int i64 x2) ∧ (R (int i64 x2) (w1)))))))
theorem ca142 (dataa : Option Addr) (datal : Nat) (datac : Nat) (a_ : Int) (swaps : Option Addr) (cmp : Value) (w : World) (R : Value → World → Prop) (h : W142 dataa datal datac a_ swaps cmp w R) : Ca Tryz.prog 142 ⟨[(.slice dataa datal datac), (.int .i64 a_), (.pointer swaps), cmp]⟩ w R :=
  caB (fn := Tryz.f142) (pl := pl142) (ls := ls142) Tryz.func142 (by kernel_rfl) (by kernel_rfl) h

/-- slices.choosePivotCmpFunc[staith/api.Exchange] -/
noncomputable def C113 : Code := (Tryz.f113.body).getD .skip
def pl113 : Nat → Plan := fun _ => .done
def ls113 : Nat → List (Nat × LT)
  | 6 => [(0, .agg []), (13, (.one (.int .i64)))]
  | _ => []
def W113 (dataa : Option Addr) (datal : Nat) (datac : Nat) (a_ : Int) (b : Int) (cmp : Value) (w : World) (R : Value → World → Prop) : Prop :=
  (atW (alloc w (cells (Array.mk [int i64 0]) 3 (0, 0))) (fun w0 =>
(((4 : Int) ≠ 0) ∧ (((4 : Int) ≠ 0) ∧ (((4 : Int) ≠ 0) ∧ (∃ z1 : Int → World → Prop, ((ifK (decide (wrap i64 (b - a_) ≥ 8))
(ifK (decide (wrap i64 (b - a_) ≥ 50))
(Ca Tryz.prog (142) (Array.mk [slice dataa datal datac, int i64 (wrap i64 (a_ + wrap i64 (wrap i64 (Int.tdiv (wrap i64 (b - a_)) 4) * 1))), pointer (some (nw w)), cmp]) (w0) (fun v2 => (fun w3 =>
(∃ x4 : Int, ((v2 = int i64 x4) ∧ (Ca Tryz.prog (142) (Array.mk [slice dataa datal datac, int i64 (wrap i64 (a_ + wrap i64 (wrap i64 (Int.tdiv (wrap i64 (b - a_)) 4) * 2))), pointer (some (nw w)), cmp]) (w3) (fun v5 => (fun w6 =>
(∃ x7 : Int, ((v5 = int i64 x7) ∧ (Ca Tryz.prog (142) (Array.mk [slice dataa datal datac, int i64 (wrap i64 (a_ + wrap i64 (wrap i64 (Int.tdiv (wrap i64 (b - a_)) 4) * 3))), pointer (some (nw w)), cmp]) (w6) (fun v8 => (fun w9 =>
(∃ x10 : Int, ((v8 = int i64 x10) ∧ (Ca Tryz.prog (143) (Array.mk [slice dataa datal datac, int i64 x4, int i64 x7, int i64 x10, pointer (some (nw w)), cmp]) (w9) (fun v11 => (fun w12 =>
(∃ x13 : Int, ((v11 = int i64 x13) ∧ (z1 (x13) (w12))))))))))))))))))))))
(Ca Tryz.prog (143) (Array.mk [slice dataa datal datac, int i64 (wrap i64 (a_ + wrap i64 (wrap i64 (Int.tdiv (wrap i64 (b - a_)) 4) * 1))), int i64 (wrap i64 (a_ + wrap i64 (wrap i64 (Int.tdiv (wrap i64 (b - a_)) 4) * 2))), int i64 (wrap i64 (a_ + wrap i64 (wrap i64 (Int.tdiv (wrap i64 (b - a_)) 4) * 3))), pointer (some (nw w)), cmp]) (w0) (fun v14 => (fun w15 =>
(∃ x16 : Int, ((v14 = int i64 x16) ∧ (z1 (x16) (w15))))))))
(z1 (wrap i64 (a_ + wrap i64 (wrap i64 (Int.tdiv (wrap i64 (b - a_)) 4) * 2))) (w0))) ∧ (∀ (_ : Nat → Value), (∀ (x18 : Int), (∀ (w19 : World), ((z1 (x18) (w19)) → (∃ x20 : Int, ((cell? w19 (nw w) = some (int i64 x20)) ∧ (ifK (x20 == 0)
(R (tuple (Array.mk [int i64 x18, int i64 1])) (w19))
(ifK (x20 == 12)
(R (tuple (Array.mk [int i64 x18, int i64 2])) (w19))
(R (tuple (Array.mk [int i64 x18, int i64 0])) (w19)))))))))))))))))
theorem ca113 (dataa : Option Addr) (datal : Nat) (datac : Nat) (a_ : Int) (b : Int) (cmp : Value) (w : World) (R : Value → World → Prop) (h : W113 dataa datal datac a_ b cmp w R) : Ca Tryz.prog 113 ⟨[(.slice dataa datal datac), (.int .i64 a_), (.int .i64 b), cmp]⟩ w R :=
  caB (fn := Tryz.f113) (pl := pl113) (ls := ls113) Tryz.func113 (by kernel_rfl) (by kernel_rfl) h

/-- slices.reverseRangeCmpFunc[staith/api.Exchange] -/
noncomputable def C114 : Code := (Tryz.f114.body).getD .skip
def pl114 : Nat → Plan
  | 3 => (.quiet 0 (.quiet 1 (.quiet 2 (.quiet 3 (.quiet 4 (.quiet 5 (.quiet 6 (.quiet 7 (.quiet 8 (.quiet 9 (.quiet 10 (.quiet 11 (.quiet 12 (.eff 13 [] (.quiet 14 (.eff 15 [] .done))))))))))))))))
  | _ => .done
def ls114 : Nat → List (Nat × LT)
  | 2 => [(8, (.one (.int .i64))), (9, (.one (.int .i64)))]
  | _ => []
def W114 (dataa : Option Addr) (datal : Nat) (_datac : Nat) (a_ : Int) (b : Int) (_cmp : Value) (w : World) (R : Value → World → Prop) : Prop :=
  (∃ z0 : Int → Int → World → Prop, (∃ z1 : Int → Int → World → Nat, ((z0 (a_) (wrap i64 (b - 1)) (w)) ∧ (∀ (_ : Nat → Value), (∀ (x3 : Int), (∀ (x4 : Int), (∀ (w5 : World), ((z0 (x3) (x4) (w5)) → (ifK (decide (x3 < x4))
(atW (drew w5) (fun w6 =>
(∃ a7 : Addr, ((dataa = some a7) ∧ (((0 : Int) ≤ x4) ∧ (((x4 : Int) < (↑datal : Int)) ∧ (ldW Tryz.prog 33 (pointer (some (add a7 (Int.toNat x4 * 3)))) (w6) (fun v8 =>
(∃ a9 : Addr, ((dataa = some a9) ∧ (((0 : Int) ≤ x3) ∧ (((x3 : Int) < (↑datal : Int)) ∧ (ldW Tryz.prog 33 (pointer (some (add a9 (Int.toNat x3 * 3)))) (w6) (fun v10 =>
(∃ a11 : Addr, ((dataa = some a11) ∧ (((0 : Int) ≤ x3) ∧ (((x3 : Int) < (↑datal : Int)) ∧ (stW Tryz.prog 33 (pointer (some (add a11 (Int.toNat x3 * 3)))) (v8) (w6) (fun w12 =>
(∃ a13 : Addr, ((dataa = some a13) ∧ (((0 : Int) ≤ x4) ∧ (((x4 : Int) < (↑datal : Int)) ∧ (stW Tryz.prog 33 (pointer (some (add a13 (Int.toNat x4 * 3)))) (v10) (w12) (fun w14 =>
((z0 (wrap i64 (x3 + 1)) (wrap i64 (x4 - 1)) (w14)) ∧ (z1 (wrap i64 (x3 + 1)) (wrap i64 (x4 - 1)) w14 < z1 x3 x4 w5))))))))))))))))))))))))))))
(R (tuple (Array.mk (List.reverse []))) (w5)))))))))))
theorem ca114 (dataa : Option Addr) (datal : Nat) (datac : Nat) (a_ : Int) (b : Int) (cmp : Value) (w : World) (R : Value → World → Prop) (h : W114 dataa datal datac a_ b cmp w R) : Ca Tryz.prog 114 ⟨[(.slice dataa datal datac), (.int .i64 a_), (.int .i64 b), cmp]⟩ w R :=
  caB (fn := Tryz.f114) (pl := pl114) (ls := ls114) Tryz.func114 (by kernel_rfl) (by kernel_rfl) h

/-- slices.partitionCmpFunc[staith/api.Exchange] -/
noncomputable def C117 : Code := (Tryz.f117.body).getD .skip
def pl117 : Nat → Plan
  | 1 => (.quiet 0 (.quiet 1 (.quiet 2 (.quiet 3 (.quiet 4 (.quiet 5 (.quiet 6 (.quiet 7 (.quiet 8 (.quiet 9 (.quiet 10 (.quiet 11 (.quiet 12 (.eff 13 [] (.quiet 14 (.eff 15 [] .done))))))))))))))))
  | 3 => (.quiet 0 (.quiet 1 (.quiet 2 (.quiet 3 (.quiet 4 (.quiet 5 (.quiet 6 (.quiet 7 (.quiet 8 (.quiet 9 (.quiet 10 (.quiet 11 (.quiet 12 (.eff 13 [] (.quiet 14 (.quiet 15 .done))))))))))))))))
  | 5 => (.quiet 0 (.quiet 1 (.quiet 2 (.quiet 3 (.quiet 4 (.quiet 5 (.quiet 6 (.quiet 7 (.quiet 8 (.quiet 9 (.quiet 10 (.quiet 11 (.quiet 12 (.eff 13 [] (.quiet 14 (.quiet 15 (.quiet 16 .done)))))))))))))))))
  | 8 => (.quiet 0 (.quiet 1 (.quiet 2 (.quiet 3 (.quiet 4 (.quiet 5 (.quiet 6 (.quiet 7 (.quiet 8 (.quiet 9 (.quiet 10 (.quiet 11 (.quiet 12 (.eff 13 [] (.quiet 14 (.eff 15 [] .done))))))))))))))))
  | 10 => (.quiet 0 (.quiet 1 (.quiet 2 (.quiet 3 (.quiet 4 (.quiet 5 (.quiet 6 (.quiet 7 (.quiet 8 (.quiet 9 (.quiet 10 (.quiet 11 (.quiet 12 (.eff 13 [] (.quiet 14 (.eff 15 [] .done))))))))))))))))
  | 13 => (.quiet 0 (.quiet 1 (.quiet 2 (.quiet 3 (.quiet 4 (.quiet 5 (.quiet 6 (.quiet 7 (.quiet 8 (.quiet 9 (.quiet 10 (.quiet 11 (.quiet 12 (.eff 13 [] (.quiet 14 (.quiet 15 .done))))))))))))))))
  | 15 => (.quiet 0 (.quiet 1 (.quiet 2 (.quiet 3 (.quiet 4 (.quiet 5 (.quiet 6 (.quiet 7 (.quiet 8 (.quiet 9 (.quiet 10 (.quiet 11 (.quiet 12 (.eff 13 [] (.quiet 14 (.quiet 15 (.quiet 16 .done)))))))))))))))))
  | 18 => (.quiet 0 (.quiet 1 (.quiet 2 (.quiet 3 (.quiet 4 (.quiet 5 (.quiet 6 (.quiet 7 (.quiet 8 (.quiet 9 (.quiet 10 (.quiet 11 (.quiet 12 (.eff 13 [] (.quiet 14 (.eff 15 [] .done))))))))))))))))
  | 21 => (.quiet 0 (.quiet 1 (.quiet 2 (.quiet 3 (.quiet 4 (.quiet 5 (.quiet 6 (.quiet 7 (.quiet 8 (.quiet 9 (.quiet 10 (.quiet 11 (.quiet 12 (.eff 13 [] (.quiet 14 (.eff 15 [] .done))))))))))))))))
  | _ => .done
def ls117 : Nat → List (Nat × LT)
  | 3 => [(0, .agg []), (12, (.one (.int .i64)))]
  | 4 => [(12, (.one (.int .i64)))]
  | 7 => [(0, .agg []), (13, (.one (.int .i64)))]
  | 8 => [(13, (.one (.int .i64)))]
  | 19 => [(12, (.one (.int .i64))), (13, (.one (.int .i64)))]
  | 20 => [(0, .agg []), (12, (.one (.int .i64)))]
  | 21 => [(12, (.one (.int .i64)))]
  | 24 => [(0, .agg []), (13, (.one (.int .i64)))]
  | 25 => [(13, (.one (.int .i64)))]
  | _ => []
def W117 (dataa : Option Addr) (datal : Nat) (_datac : Nat) (a_ : Int) (b : Int) (pivot : Int) (cmp : Value) (w : World) (R : Value → World → Prop) : Prop :=
  (atW (drew w) (fun w0 =>
(∃ a1 : Addr, ((dataa = some a1) ∧ (((0 : Int) ≤ pivot) ∧ (((pivot : Int) < (↑datal : Int)) ∧ (ldW Tryz.prog 33 (pointer (some (add a1 (Int.toNat pivot * 3)))) (w0) (fun v2 =>
(∃ a3 : Addr, ((dataa = some a3) ∧ (((0 : Int) ≤ a_) ∧ (((a_ : Int) < (↑datal : Int)) ∧ (ldW Tryz.prog 33 (pointer (some (add a3 (Int.toNat a_ * 3)))) (w0) (fun v4 =>
(∃ a5 : Addr, ((dataa = some a5) ∧ (((0 : Int) ≤ a_) ∧ (((a_ : Int) < (↑datal : Int)) ∧ (stW Tryz.prog 33 (pointer (some (add a5 (Int.toNat a_ * 3)))) (v2) (w0) (fun w6 =>
(∃ a7 : Addr, ((dataa = some a7) ∧ (((0 : Int) ≤ pivot) ∧ (((pivot : Int) < (↑datal : Int)) ∧ (stW Tryz.prog 33 (pointer (some (add a7 (Int.toNat pivot * 3)))) (v4) (w6) (fun w8 =>
(∃ z9 : Int → World → Prop, ((∃ z10 : Int → World → Prop, (∃ z11 : Int → World → Nat, ((z10 (wrap i64 (a_ + 1)) (w8)) ∧ (∀ (_ : Nat → Value), (∀ (x13 : Int), (∀ (w14 : World), ((z10 (x13) (w14)) → (atW (drew w14) (fun w15 =>
(ifK (decide (x13 ≤ wrap i64 (b - 1)))
(∃ a16 : Addr, ((dataa = some a16) ∧ (((0 : Int) ≤ x13) ∧ (((x13 : Int) < (↑datal : Int)) ∧ (ldW Tryz.prog 33 (pointer (some (add a16 (Int.toNat x13 * 3)))) (w15) (fun v17 =>
(∃ a18 : Addr, ((dataa = some a18) ∧ (((0 : Int) ≤ a_) ∧ (((a_ : Int) < (↑datal : Int)) ∧ (ldW Tryz.prog 33 (pointer (some (add a18 (Int.toNat a_ * 3)))) (w15) (fun v19 =>
(CaV Tryz.prog (cmp) (Array.mk [v17, v19]) (w15) (fun v20 => (fun w21 =>
(∃ x22 : Int, ((v20 = int i64 x22) ∧ (ifK (decide (x22 < 0))
((z10 (wrap i64 (x13 + 1)) (w21)) ∧ (z11 (wrap i64 (x13 + 1)) w21 < z11 x13 w14))
(z9 (x13) (w21))))))))))))))))))))
(z9 (x13) (w15)))))))))))) ∧ (∀ (_ : Nat → Value), (∀ (x24 : Int), (∀ (w25 : World), ((z9 (x24) (w25)) → (∃ z26 : Int → World → Prop, ((∃ z27 : Int → World → Prop, (∃ z28 : Int → World → Nat, ((z27 (wrap i64 (b - 1)) (w25)) ∧ (∀ (_ : Nat → Value), (∀ (x30 : Int), (∀ (w31 : World), ((z27 (x30) (w31)) → (atW (drew w31) (fun w32 =>
(ifK (decide (x24 ≤ x30))
(∃ a33 : Addr, ((dataa = some a33) ∧ (((0 : Int) ≤ x30) ∧ (((x30 : Int) < (↑datal : Int)) ∧ (ldW Tryz.prog 33 (pointer (some (add a33 (Int.toNat x30 * 3)))) (w32) (fun v34 =>
(∃ a35 : Addr, ((dataa = some a35) ∧ (((0 : Int) ≤ a_) ∧ (((a_ : Int) < (↑datal : Int)) ∧ (ldW Tryz.prog 33 (pointer (some (add a35 (Int.toNat a_ * 3)))) (w32) (fun v36 =>
(CaV Tryz.prog (cmp) (Array.mk [v34, v36]) (w32) (fun v37 => (fun w38 =>
(∃ x39 : Int, ((v37 = int i64 x39) ∧ (ifK (!decide (x39 < 0))
((z27 (wrap i64 (x30 - 1)) (w38)) ∧ (z28 (wrap i64 (x30 - 1)) w38 < z28 x30 w31))
(z26 (x30) (w38))))))))))))))))))))
(z26 (x30) (w32)))))))))))) ∧ (∀ (_ : Nat → Value), (∀ (x41 : Int), (∀ (w42 : World), ((z26 (x41) (w42)) → (ifK (decide (x24 > x41))
(atW (drew w42) (fun w43 =>
(∃ a44 : Addr, ((dataa = some a44) ∧ (((0 : Int) ≤ a_) ∧ (((a_ : Int) < (↑datal : Int)) ∧ (ldW Tryz.prog 33 (pointer (some (add a44 (Int.toNat a_ * 3)))) (w43) (fun v45 =>
(∃ a46 : Addr, ((dataa = some a46) ∧ (((0 : Int) ≤ x41) ∧ (((x41 : Int) < (↑datal : Int)) ∧ (ldW Tryz.prog 33 (pointer (some (add a46 (Int.toNat x41 * 3)))) (w43) (fun v47 =>
(∃ a48 : Addr, ((dataa = some a48) ∧ (((0 : Int) ≤ x41) ∧ (((x41 : Int) < (↑datal : Int)) ∧ (stW Tryz.prog 33 (pointer (some (add a48 (Int.toNat x41 * 3)))) (v45) (w43) (fun w49 =>
(∃ a50 : Addr, ((dataa = some a50) ∧ (((0 : Int) ≤ a_) ∧ (((a_ : Int) < (↑datal : Int)) ∧ (stW Tryz.prog 33 (pointer (some (add a50 (Int.toNat a_ * 3)))) (v47) (w49) (fun w51 =>
(R (tuple (Array.mk [int i64 x41, bool true])) (w51))))))))))))))))))))))))))))
(atW (drew w42) (fun w52 =>
(∃ a53 : Addr, ((dataa = some a53) ∧ (((0 : Int) ≤ x41) ∧ (((x41 : Int) < (↑datal : Int)) ∧ (ldW Tryz.prog 33 (pointer (some (add a53 (Int.toNat x41 * 3)))) (w52) (fun v54 =>
(∃ a55 : Addr, ((dataa = some a55) ∧ (((0 : Int) ≤ x24) ∧ (((x24 : Int) < (↑datal : Int)) ∧ (ldW Tryz.prog 33 (pointer (some (add a55 (Int.toNat x24 * 3)))) (w52) (fun v56 =>
(∃ a57 : Addr, ((dataa = some a57) ∧ (((0 : Int) ≤ x24) ∧ (((x24 : Int) < (↑datal : Int)) ∧ (stW Tryz.prog 33 (pointer (some (add a57 (Int.toNat x24 * 3)))) (v54) (w52) (fun w58 =>
(∃ a59 : Addr, ((dataa = some a59) ∧ (((0 : Int) ≤ x41) ∧ (((x41 : Int) < (↑datal : Int)) ∧ (stW Tryz.prog 33 (pointer (some (add a59 (Int.toNat x41 * 3)))) (v56) (w58) (fun w60 =>
(∃ z61 : Int → Int → World → Prop, (∃ z62 : Int → Int → World → Nat, ((z61 (wrap i64 (x24 + 1)) (wrap i64 (x41 - 1)) (w60)) ∧ (∀ (_ : Nat → Value), (∀ (x64 : Int), (∀ (x65 : Int), (∀ (w66 : World), ((z61 (x64) (x65) (w66)) → (∃ z67 : Int → World → Prop, ((∃ z68 : Int → World → Prop, (∃ z69 : Int → World → Nat, ((z68 (x64) (w66)) ∧ (∀ (_ : Nat → Value), (∀ (x71 : Int), (∀ (w72 : World), ((z68 (x71) (w72)) → (atW (drew w72) (fun w73 =>
(ifK (decide (x71 ≤ x65))
(∃ a74 : Addr, ((dataa = some a74) ∧ (((0 : Int) ≤ x71) ∧ (((x71 : Int) < (↑datal : Int)) ∧ (ldW Tryz.prog 33 (pointer (some (add a74 (Int.toNat x71 * 3)))) (w73) (fun v75 =>
(∃ a76 : Addr, ((dataa = some a76) ∧ (((0 : Int) ≤ a_) ∧ (((a_ : Int) < (↑datal : Int)) ∧ (ldW Tryz.prog 33 (pointer (some (add a76 (Int.toNat a_ * 3)))) (w73) (fun v77 =>
(CaV Tryz.prog (cmp) (Array.mk [v75, v77]) (w73) (fun v78 => (fun w79 =>
(∃ x80 : Int, ((v78 = int i64 x80) ∧ (ifK (decide (x80 < 0))
((z68 (wrap i64 (x71 + 1)) (w79)) ∧ (z69 (wrap i64 (x71 + 1)) w79 < z69 x71 w72))
(z67 (x71) (w79))))))))))))))))))))
(z67 (x71) (w73)))))))))))) ∧ (∀ (_ : Nat → Value), (∀ (x82 : Int), (∀ (w83 : World), ((z67 (x82) (w83)) → (∃ z84 : Int → World → Prop, ((∃ z85 : Int → World → Prop, (∃ z86 : Int → World → Nat, ((z85 (x65) (w83)) ∧ (∀ (_ : Nat → Value), (∀ (x88 : Int), (∀ (w89 : World), ((z85 (x88) (w89)) → (atW (drew w89) (fun w90 =>
(ifK (decide (x82 ≤ x88))
(∃ a91 : Addr, ((dataa = some a91) ∧ (((0 : Int) ≤ x88) ∧ (((x88 : Int) < (↑datal : Int)) ∧ (ldW Tryz.prog 33 (pointer (some (add a91 (Int.toNat x88 * 3)))) (w90) (fun v92 =>
(∃ a93 : Addr, ((dataa = some a93) ∧ (((0 : Int) ≤ a_) ∧ (((a_ : Int) < (↑datal : Int)) ∧ (ldW Tryz.prog 33 (pointer (some (add a93 (Int.toNat a_ * 3)))) (w90) (fun v94 =>
(CaV Tryz.prog (cmp) (Array.mk [v92, v94]) (w90) (fun v95 => (fun w96 =>
(∃ x97 : Int, ((v95 = int i64 x97) ∧ (ifK (!decide (x97 < 0))
((z85 (wrap i64 (x88 - 1)) (w96)) ∧ (z86 (wrap i64 (x88 - 1)) w96 < z86 x88 w89))
(z84 (x88) (w96))))))))))))))))))))
(z84 (x88) (w90)))))))))))) ∧ (∀ (_ : Nat → Value), (∀ (x99 : Int), (∀ (w100 : World), ((z84 (x99) (w100)) → (ifK (decide (x82 > x99))
(atW (drew w100) (fun w101 =>
(∃ a102 : Addr, ((dataa = some a102) ∧ (((0 : Int) ≤ a_) ∧ (((a_ : Int) < (↑datal : Int)) ∧ (ldW Tryz.prog 33 (pointer (some (add a102 (Int.toNat a_ * 3)))) (w101) (fun v103 =>
(∃ a104 : Addr, ((dataa = some a104) ∧ (((0 : Int) ≤ x99) ∧ (((x99 : Int) < (↑datal : Int)) ∧ (ldW Tryz.prog 33 (pointer (some (add a104 (Int.toNat x99 * 3)))) (w101) (fun v105 =>
(∃ a106 : Addr, ((dataa = some a106) ∧ (((0 : Int) ≤ x99) ∧ (((x99 : Int) < (↑datal : Int)) ∧ (stW Tryz.prog 33 (pointer (some (add a106 (Int.toNat x99 * 3)))) (v103) (w101) (fun w107 =>
(∃ a108 : Addr, ((dataa = some a108) ∧ (((0 : Int) ≤ a_) ∧ (((a_ : Int) < (↑datal : Int)) ∧ (stW Tryz.prog 33 (pointer (some (add a108 (Int.toNat a_ * 3)))) (v105) (w107) (fun w109 =>
(R (tuple (Array.mk [int i64 x99, bool false])) (w109))))))))))))))))))))))))))))
(atW (drew w100) (fun w110 =>
(∃ a111 : Addr, ((dataa = some a111) ∧ (((0 : Int) ≤ x99) ∧ (((x99 : Int) < (↑datal : Int)) ∧ (ldW Tryz.prog 33 (pointer (some (add a111 (Int.toNat x99 * 3)))) (w110) (fun v112 =>
(∃ a113 : Addr, ((dataa = some a113) ∧ (((0 : Int) ≤ x82) ∧ (((x82 : Int) < (↑datal : Int)) ∧ (ldW Tryz.prog 33 (pointer (some (add a113 (Int.toNat x82 * 3)))) (w110) (fun v114 =>
(∃ a115 : Addr, ((dataa = some a115) ∧ (((0 : Int) ≤ x82) ∧ (((x82 : Int) < (↑datal : Int)) ∧ (stW Tryz.prog 33 (pointer (some (add a115 (Int.toNat x82 * 3)))) (v112) (w110) (fun w116 =>
(∃ a117 : Addr, ((dataa = some a117) ∧ (((0 : Int) ≤ x99) ∧ (((x99 : Int) < (↑datal : Int)) ∧ (stW Tryz.prog 33 (pointer (some (add a117 (Int.toNat x99 * 3)))) (v114) (w116) (fun w118 =>
((z61 (wrap i64 (x82 + 1)) (wrap i64 (x99 - 1)) (w118)) ∧ (z62 (wrap i64 (x82 + 1)) (wrap i64 (x99 - 1)) w118 < z62 x64 x65 w66))))))))))))))))))))))))))))))))))))))))))))))))))))))))))))))))))))))))))))))))))))))))))))))))))))))))))))))))))
theorem ca117 (dataa : Option Addr) (datal : Nat) (datac : Nat) (a_ : Int) (b : Int) (pivot : Int) (cmp : Value) (w : World) (R : Value → World → Prop) (h : W117 dataa datal datac a_ b pivot cmp w R) : Ca Tryz.prog 117 ⟨[(.slice dataa datal datac), (.int .i64 a_), (.int .i64 b), (.int .i64 pivot), cmp]⟩ w R :=
  caB (fn := Tryz.f117) (pl := pl117) (ls := ls117) Tryz.func117 (by kernel_rfl) (by kernel_rfl) h

/-- slices.partitionEqualCmpFunc[staith/api.Exchange] -/
noncomputable def C116 : Code := (Tryz.f116.body).getD .skip
def pl116 : Nat → Plan
  | 1 => (.quiet 0 (.quiet 1 (.quiet 2 (.quiet 3 (.quiet 4 (.quiet 5 (.quiet 6 (.quiet 7 (.quiet 8 (.quiet 9 (.quiet 10 (.quiet 11 (.quiet 12 (.eff 13 [] (.quiet 14 (.eff 15 [] .done))))))))))))))))
  | 3 => (.quiet 0 (.quiet 1 (.quiet 2 (.quiet 3 (.quiet 4 (.quiet 5 (.quiet 6 (.quiet 7 (.quiet 8 (.quiet 9 (.quiet 10 (.quiet 11 (.quiet 12 (.eff 13 [] (.quiet 14 (.quiet 15 (.quiet 16 .done)))))))))))))))))
  | 5 => (.quiet 0 (.quiet 1 (.quiet 2 (.quiet 3 (.quiet 4 (.quiet 5 (.quiet 6 (.quiet 7 (.quiet 8 (.quiet 9 (.quiet 10 (.quiet 11 (.quiet 12 (.eff 13 [] (.quiet 14 (.quiet 15 .done))))))))))))))))
  | 8 => (.quiet 0 (.quiet 1 (.quiet 2 (.quiet 3 (.quiet 4 (.quiet 5 (.quiet 6 (.quiet 7 (.quiet 8 (.quiet 9 (.quiet 10 (.quiet 11 (.quiet 12 (.eff 13 [] (.quiet 14 (.eff 15 [] .done))))))))))))))))
  | _ => .done
def ls116 : Nat → List (Nat × LT)
  | 4 => [(11, (.one (.int .i64))), (12, (.one (.int .i64)))]
  | 5 => [(0, .agg []), (11, (.one (.int .i64)))]
  | 6 => [(11, (.one (.int .i64)))]
  | 9 => [(0, .agg []), (12, (.one (.int .i64)))]
  | 10 => [(12, (.one (.int .i64)))]
  | _ => []
def W116 (dataa : Option Addr) (datal : Nat) (_datac : Nat) (a_ : Int) (b : Int) (pivot : Int) (cmp : Value) (w : World) (R : Value → World → Prop) : Prop :=
  (atW (drew w) (fun w0 =>
(∃ a1 : Addr, ((dataa = some a1) ∧ (((0 : Int) ≤ pivot) ∧ (((pivot : Int) < (↑datal : Int)) ∧ (ldW Tryz.prog 33 (pointer (some (add a1 (Int.toNat pivot * 3)))) (w0) (fun v2 =>
(∃ a3 : Addr, ((dataa = some a3) ∧ (((0 : Int) ≤ a_) ∧ (((a_ : Int) < (↑datal : Int)) ∧ (ldW Tryz.prog 33 (pointer (some (add a3 (Int.toNat a_ * 3)))) (w0) (fun v4 =>
(∃ a5 : Addr, ((dataa = some a5) ∧ (((0 : Int) ≤ a_) ∧ (((a_ : Int) < (↑datal : Int)) ∧ (stW Tryz.prog 33 (pointer (some (add a5 (Int.toNat a_ * 3)))) (v2) (w0) (fun w6 =>
(∃ a7 : Addr, ((dataa = some a7) ∧ (((0 : Int) ≤ pivot) ∧ (((pivot : Int) < (↑datal : Int)) ∧ (stW Tryz.prog 33 (pointer (some (add a7 (Int.toNat pivot * 3)))) (v4) (w6) (fun w8 =>
(∃ z9 : Int → Int → World → Prop, (∃ z10 : Int → Int → World → Nat, ((z9 (wrap i64 (a_ + 1)) (wrap i64 (b - 1)) (w8)) ∧ (∀ (_ : Nat → Value), (∀ (x12 : Int), (∀ (x13 : Int), (∀ (w14 : World), ((z9 (x12) (x13) (w14)) → (∃ z15 : Int → World → Prop, ((∃ z16 : Int → World → Prop, (∃ z17 : Int → World → Nat, ((z16 (x12) (w14)) ∧ (∀ (_ : Nat → Value), (∀ (x19 : Int), (∀ (w20 : World), ((z16 (x19) (w20)) → (atW (drew w20) (fun w21 =>
(ifK (decide (x19 ≤ x13))
(∃ a22 : Addr, ((dataa = some a22) ∧ (((0 : Int) ≤ a_) ∧ (((a_ : Int) < (↑datal : Int)) ∧ (ldW Tryz.prog 33 (pointer (some (add a22 (Int.toNat a_ * 3)))) (w21) (fun v23 =>
(∃ a24 : Addr, ((dataa = some a24) ∧ (((0 : Int) ≤ x19) ∧ (((x19 : Int) < (↑datal : Int)) ∧ (ldW Tryz.prog 33 (pointer (some (add a24 (Int.toNat x19 * 3)))) (w21) (fun v25 =>
(CaV Tryz.prog (cmp) (Array.mk [v23, v25]) (w21) (fun v26 => (fun w27 =>
(∃ x28 : Int, ((v26 = int i64 x28) ∧ (ifK (!decide (x28 < 0))
((z16 (wrap i64 (x19 + 1)) (w27)) ∧ (z17 (wrap i64 (x19 + 1)) w27 < z17 x19 w20))
(z15 (x19) (w27))))))))))))))))))))
(z15 (x19) (w21)))))))))))) ∧ (∀ (_ : Nat → Value), (∀ (x30 : Int), (∀ (w31 : World), ((z15 (x30) (w31)) → (∃ z32 : Int → World → Prop, ((∃ z33 : Int → World → Prop, (∃ z34 : Int → World → Nat, ((z33 (x13) (w31)) ∧ (∀ (_ : Nat → Value), (∀ (x36 : Int), (∀ (w37 : World), ((z33 (x36) (w37)) → (atW (drew w37) (fun w38 =>
(ifK (decide (x30 ≤ x36))
(∃ a39 : Addr, ((dataa = some a39) ∧ (((0 : Int) ≤ a_) ∧ (((a_ : Int) < (↑datal : Int)) ∧ (ldW Tryz.prog 33 (pointer (some (add a39 (Int.toNat a_ * 3)))) (w38) (fun v40 =>
(∃ a41 : Addr, ((dataa = some a41) ∧ (((0 : Int) ≤ x36) ∧ (((x36 : Int) < (↑datal : Int)) ∧ (ldW Tryz.prog 33 (pointer (some (add a41 (Int.toNat x36 * 3)))) (w38) (fun v42 =>
(CaV Tryz.prog (cmp) (Array.mk [v40, v42]) (w38) (fun v43 => (fun w44 =>
(∃ x45 : Int, ((v43 = int i64 x45) ∧ (ifK (decide (x45 < 0))
((z33 (wrap i64 (x36 - 1)) (w44)) ∧ (z34 (wrap i64 (x36 - 1)) w44 < z34 x36 w37))
(z32 (x36) (w44))))))))))))))))))))
(z32 (x36) (w38)))))))))))) ∧ (∀ (_ : Nat → Value), (∀ (x47 : Int), (∀ (w48 : World), ((z32 (x47) (w48)) → (ifK (decide (x30 > x47))
(R (int i64 x30) (w48))
(atW (drew w48) (fun w49 =>
(∃ a50 : Addr, ((dataa = some a50) ∧ (((0 : Int) ≤ x47) ∧ (((x47 : Int) < (↑datal : Int)) ∧ (ldW Tryz.prog 33 (pointer (some (add a50 (Int.toNat x47 * 3)))) (w49) (fun v51 =>
(∃ a52 : Addr, ((dataa = some a52) ∧ (((0 : Int) ≤ x30) ∧ (((x30 : Int) < (↑datal : Int)) ∧ (ldW Tryz.prog 33 (pointer (some (add a52 (Int.toNat x30 * 3)))) (w49) (fun v53 =>
(∃ a54 : Addr, ((dataa = some a54) ∧ (((0 : Int) ≤ x30) ∧ (((x30 : Int) < (↑datal : Int)) ∧ (stW Tryz.prog 33 (pointer (some (add a54 (Int.toNat x30 * 3)))) (v51) (w49) (fun w55 =>
(∃ a56 : Addr, ((dataa = some a56) ∧ (((0 : Int) ≤ x47) ∧ (((x47 : Int) < (↑datal : Int)) ∧ (stW Tryz.prog 33 (pointer (some (add a56 (Int.toNat x47 * 3)))) (v53) (w55) (fun w57 =>
((z9 (wrap i64 (x30 + 1)) (wrap i64 (x47 - 1)) (w57)) ∧ (z10 (wrap i64 (x30 + 1)) (wrap i64 (x47 - 1)) w57 < z10 x12 x13 w14)))))))))))))))))))))))))))))))))))))))))))))))))))))))))))))))))))))))))))
theorem ca116 (dataa : Option Addr) (datal : Nat) (datac : Nat) (a_ : Int) (b : Int) (pivot : Int) (cmp : Value) (w : World) (R : Value → World → Prop) (h : W116 dataa datal datac a_ b pivot cmp w R) : Ca Tryz.prog 116 ⟨[(.slice dataa datal datac), (.int .i64 a_), (.int .i64 b), (.int .i64 pivot), cmp]⟩ w R :=
  caB (fn := Tryz.f116) (pl := pl116) (ls := ls116) Tryz.func116 (by kernel_rfl) (by kernel_rfl) h

/-- slices.siftDownCmpFunc[staith/api.Exchange] -/
noncomputable def C139 : Code := (Tryz.f139.body).getD .skip
def pl139 : Nat → Plan
  | 3 => (.quiet 0 (.quiet 1 (.quiet 2 (.quiet 3 (.quiet 4 (.quiet 5 (.quiet 6 (.quiet 7 (.quiet 8 (.quiet 9 (.quiet 10 (.quiet 11 (.quiet 12 (.quiet 13 (.quiet 14 (.quiet 15 (.quiet 16 (.quiet 17 (.quiet 18 (.eff 19 [] (.quiet 20 (.quiet 21 .done))))))))))))))))))))))
  | 5 => (.quiet 0 (.quiet 1 (.quiet 2 (.quiet 3 (.quiet 4 (.quiet 5 (.quiet 6 (.quiet 7 (.quiet 8 (.quiet 9 (.quiet 10 (.quiet 11 (.quiet 12 (.eff 13 [] (.quiet 14 (.quiet 15 .done))))))))))))))))
  | 6 => (.quiet 0 (.quiet 1 (.quiet 2 (.quiet 3 (.quiet 4 (.quiet 5 (.quiet 6 (.quiet 7 (.quiet 8 (.quiet 9 (.quiet 10 (.quiet 11 (.quiet 12 (.quiet 13 (.quiet 14 (.quiet 15 (.quiet 16 (.quiet 17 (.quiet 18 (.quiet 19 (.quiet 20 (.eff 21 [] (.quiet 22 (.eff 23 [] .done))))))))))))))))))))))))
  | _ => .done
def ls139 : Nat → List (Nat × LT)
  | 1 => [(10, (.one (.int .i64)))]
  | 5 => [(0, .agg []), (11, (.one (.int .i64)))]
  | _ => []
def W139 (dataa : Option Addr) (datal : Nat) (_datac : Nat) (lo : Int) (hi : Int) (first : Int) (cmp : Value) (w : World) (R : Value → World → Prop) : Prop :=
  (∃ z0 : Int → World → Prop, (∃ z1 : Int → World → Nat, ((z0 (lo) (w)) ∧ (∀ (_ : Nat → Value), (∀ (x3 : Int), (∀ (w4 : World), ((z0 (x3) (w4)) → (ifK (decide (wrap i64 (wrap i64 (2 * x3) + 1) ≥ hi))
(R (tuple (Array.mk (List.reverse []))) (w4))
(∃ z5 : Int → World → Prop, ((atW (drew w4) (fun w6 =>
(ifK (decide (wrap i64 (wrap i64 (wrap i64 (2 * x3) + 1) + 1) < hi))
(∃ a7 : Addr, ((dataa = some a7) ∧ (((0 : Int) ≤ wrap i64 (first + wrap i64 (wrap i64 (2 * x3) + 1))) ∧ (((wrap i64 (first + wrap i64 (wrap i64 (2 * x3) + 1)) : Int) < (↑datal : Int)) ∧ (ldW Tryz.prog 33 (pointer (some (add a7 (Int.toNat (wrap i64 (first + wrap i64 (wrap i64 (2 * x3) + 1))) * 3)))) (w6) (fun v8 =>
(∃ a9 : Addr, ((dataa = some a9) ∧ (((0 : Int) ≤ wrap i64 (wrap i64 (first + wrap i64 (wrap i64 (2 * x3) + 1)) + 1)) ∧ (((wrap i64 (wrap i64 (first + wrap i64 (wrap i64 (2 * x3) + 1)) + 1) : Int) < (↑datal : Int)) ∧ (ldW Tryz.prog 33 (pointer (some (add a9 (Int.toNat (wrap i64 (wrap i64 (first + wrap i64 (wrap i64 (2 * x3) + 1)) + 1)) * 3)))) (w6) (fun v10 =>
(CaV Tryz.prog (cmp) (Array.mk [v8, v10]) (w6) (fun v11 => (fun w12 =>
(∃ x13 : Int, ((v11 = int i64 x13) ∧ (ifK (decide (x13 < 0))
(z5 (wrap i64 (wrap i64 (wrap i64 (2 * x3) + 1) + 1)) (w12))
(z5 (wrap i64 (wrap i64 (2 * x3) + 1)) (w12))))))))))))))))))))
(z5 (wrap i64 (wrap i64 (2 * x3) + 1)) (w6))))) ∧ (∀ (_ : Nat → Value), (∀ (x15 : Int), (∀ (w16 : World), ((z5 (x15) (w16)) → (atW (drew w16) (fun w17 =>
(∃ a18 : Addr, ((dataa = some a18) ∧ (((0 : Int) ≤ wrap i64 (first + x3)) ∧ (((wrap i64 (first + x3) : Int) < (↑datal : Int)) ∧ (ldW Tryz.prog 33 (pointer (some (add a18 (Int.toNat (wrap i64 (first + x3)) * 3)))) (w17) (fun v19 =>
(∃ a20 : Addr, ((dataa = some a20) ∧ (((0 : Int) ≤ wrap i64 (first + x15)) ∧ (((wrap i64 (first + x15) : Int) < (↑datal : Int)) ∧ (ldW Tryz.prog 33 (pointer (some (add a20 (Int.toNat (wrap i64 (first + x15)) * 3)))) (w17) (fun v21 =>
(CaV Tryz.prog (cmp) (Array.mk [v19, v21]) (w17) (fun v22 => (fun w23 =>
(∃ x24 : Int, ((v22 = int i64 x24) ∧ (ifK (!decide (x24 < 0))
(R (tuple (Array.mk (List.reverse []))) (w23))
(atW (drew w23) (fun w25 =>
(∃ a26 : Addr, ((dataa = some a26) ∧ (((0 : Int) ≤ wrap i64 (first + x15)) ∧ (((wrap i64 (first + x15) : Int) < (↑datal : Int)) ∧ (ldW Tryz.prog 33 (pointer (some (add a26 (Int.toNat (wrap i64 (first + x15)) * 3)))) (w25) (fun v27 =>
(∃ a28 : Addr, ((dataa = some a28) ∧ (((0 : Int) ≤ wrap i64 (first + x3)) ∧ (((wrap i64 (first + x3) : Int) < (↑datal : Int)) ∧ (ldW Tryz.prog 33 (pointer (some (add a28 (Int.toNat (wrap i64 (first + x3)) * 3)))) (w25) (fun v29 =>
(∃ a30 : Addr, ((dataa = some a30) ∧ (((0 : Int) ≤ wrap i64 (first + x3)) ∧ (((wrap i64 (first + x3) : Int) < (↑datal : Int)) ∧ (stW Tryz.prog 33 (pointer (some (add a30 (Int.toNat (wrap i64 (first + x3)) * 3)))) (v27) (w25) (fun w31 =>
(∃ a32 : Addr, ((dataa = some a32) ∧ (((0 : Int) ≤ wrap i64 (first + x15)) ∧ (((wrap i64 (first + x15) : Int) < (↑datal : Int)) ∧ (stW Tryz.prog 33 (pointer (some (add a32 (Int.toNat (wrap i64 (first + x15)) * 3)))) (v29) (w31) (fun w33 =>
((z0 (x15) (w33)) ∧ (z1 x15 w33 < z1 x3 w4))))))))))))))))))))))))))))))))))))))))))))))))))))))))))))))
theorem ca139 (dataa : Option Addr) (datal : Nat) (datac : Nat) (lo : Int) (hi : Int) (first : Int) (cmp : Value) (w : World) (R : Value → World → Prop) (h : W139 dataa datal datac lo hi first cmp w R) : Ca Tryz.prog 139 ⟨[(.slice dataa datal datac), (.int .i64 lo), (.int .i64 hi), (.int .i64 first), cmp]⟩ w R :=
  caB (fn := Tryz.f139) (pl := pl139) (ls := ls139) Tryz.func139 (by kernel_rfl) (by kernel_rfl) h

/-- slices.heapSortCmpFunc[staith/api.Exchange] -/
noncomputable def C111 : Code := (Tryz.f111.body).getD .skip
def pl111 : Nat → Plan
  | 10 => (.quiet 0 (.quiet 1 (.quiet 2 (.quiet 3 (.quiet 4 (.quiet 5 (.quiet 6 (.quiet 7 (.quiet 8 (.quiet 9 (.quiet 10 (.quiet 11 (.quiet 12 (.quiet 13 (.quiet 14 (.quiet 15 (.quiet 16 (.eff 17 [] (.quiet 18 (.eff 19 [] .done))))))))))))))))))))
  | _ => .done
def ls111 : Nat → List (Nat × LT)
  | 5 => [(11, (.one (.int .i64)))]
  | 10 => [(12, (.one (.int .i64)))]
  | _ => []
def W111 (dataa : Option Addr) (datal : Nat) (datac : Nat) (a_ : Int) (b : Int) (cmp : Value) (w : World) (R : Value → World → Prop) : Prop :=
  (((2 : Int) ≠ 0) ∧ (∃ z0 : Int → World → Prop, (∃ z1 : Int → World → Nat, ((z0 (wrap i64 (Int.tdiv (wrap i64 (wrap i64 (b - a_) - 1)) 2)) (w)) ∧ (∀ (_ : Nat → Value), (∀ (x3 : Int), (∀ (w4 : World), ((z0 (x3) (w4)) → (ifK (decide (x3 ≥ 0))
(Ca Tryz.prog (139) (Array.mk [slice dataa datal datac, int i64 x3, int i64 (wrap i64 (b - a_)), int i64 a_, cmp]) (w4) (fun v5 => (fun w6 =>
((v5 = tuple (Array.mk (List.reverse []))) ∧ ((z0 (wrap i64 (x3 - 1)) (w6)) ∧ (z1 (wrap i64 (x3 - 1)) w6 < z1 x3 w4))))))
(∃ z7 : Int → World → Prop, (∃ z8 : Int → World → Nat, ((z7 (wrap i64 (wrap i64 (b - a_) - 1)) (w4)) ∧ (∀ (_ : Nat → Value), (∀ (x10 : Int), (∀ (w11 : World), ((z7 (x10) (w11)) → (ifK (decide (x10 ≥ 0))
(atW (drew w11) (fun w12 =>
(∃ a13 : Addr, ((dataa = some a13) ∧ (((0 : Int) ≤ wrap i64 (a_ + x10)) ∧ (((wrap i64 (a_ + x10) : Int) < (↑datal : Int)) ∧ (ldW Tryz.prog 33 (pointer (some (add a13 (Int.toNat (wrap i64 (a_ + x10)) * 3)))) (w12) (fun v14 =>
(∃ a15 : Addr, ((dataa = some a15) ∧ (((0 : Int) ≤ a_) ∧ (((a_ : Int) < (↑datal : Int)) ∧ (ldW Tryz.prog 33 (pointer (some (add a15 (Int.toNat a_ * 3)))) (w12) (fun v16 =>
(∃ a17 : Addr, ((dataa = some a17) ∧ (((0 : Int) ≤ a_) ∧ (((a_ : Int) < (↑datal : Int)) ∧ (stW Tryz.prog 33 (pointer (some (add a17 (Int.toNat a_ * 3)))) (v14) (w12) (fun w18 =>
(∃ a19 : Addr, ((dataa = some a19) ∧ (((0 : Int) ≤ wrap i64 (a_ + x10)) ∧ (((wrap i64 (a_ + x10) : Int) < (↑datal : Int)) ∧ (stW Tryz.prog 33 (pointer (some (add a19 (Int.toNat (wrap i64 (a_ + x10)) * 3)))) (v16) (w18) (fun w20 =>
(Ca Tryz.prog (139) (Array.mk [slice dataa datal datac, int i64 0, int i64 x10, int i64 a_, cmp]) (w20) (fun v21 => (fun w22 =>
((v21 = tuple (Array.mk (List.reverse []))) ∧ ((z7 (wrap i64 (x10 - 1)) (w22)) ∧ (z8 (wrap i64 (x10 - 1)) w22 < z8 x10 w11))))))))))))))))))))))))))))))))
(R (tuple (Array.mk (List.reverse []))) (w11)))))))))))))))))))
theorem ca111 (dataa : Option Addr) (datal : Nat) (datac : Nat) (a_ : Int) (b : Int) (cmp : Value) (w : World) (R : Value → World → Prop) (h : W111 dataa datal datac a_ b cmp w R) : Ca Tryz.prog 111 ⟨[(.slice dataa datal datac), (.int .i64 a_), (.int .i64 b), cmp]⟩ w R :=
  caB (fn := Tryz.f111) (pl := pl111) (ls := ls111) Tryz.func111 (by kernel_rfl) (by kernel_rfl) h

/-- slices.breakPatternsCmpFunc[staith/api.Exchange] -/
noncomputable def C112 : Code := (Tryz.f112.body).getD .skip
def pl112 : Nat → Plan
  | 10 => (.quiet 0 (.quiet 1 (.quiet 2 (.quiet 3 (.quiet 4 (.quiet 5 (.quiet 6 (.quiet 7 (.quiet 8 (.quiet 9 (.quiet 10 (.quiet 11 (.quiet 12 (.quiet 13 (.quiet 14 (.quiet 15 (.quiet 16 (.eff 17 [] (.quiet 18 (.eff 19 [] .done))))))))))))))))))))
  | _ => .done
def ls112 : Nat → List (Nat × LT)
  | 5 => [(11, (.one (.int .i64)))]
  | 10 => [(0, .agg []), (12, (.one (.int .i64)))]
  | _ => []
def W112 (dataa : Option Addr) (datal : Nat) (_datac : Nat) (a_ : Int) (b : Int) (_cmp : Value) (w : World) (R : Value → World → Prop) : Prop :=
  (ifK (decide (wrap i64 (b - a_) ≥ 8))
(atW (alloc w (cells (Array.mk [int u64 0]) 151 (0, 0))) (fun w0 =>
(st1 (add (nw w) 0) (int u64 (wrap u64 (wrap i64 (b - a_)))) w0 (fun w2 =>
(Ca Tryz.prog (140) (Array.mk [int i64 (wrap i64 (b - a_))]) (w2) (fun v3 => (fun w4 =>
(∃ x5 : Int, ((v3 = int u64 x5) ∧ (((4 : Int) ≠ 0) ∧ (∃ z6 : Int → World → Prop, (∃ z7 : Int → World → Nat, ((z6 (wrap i64 (wrap i64 (a_ + wrap i64 (wrap i64 (Int.tdiv (wrap i64 (b - a_)) 4) * 2)) - 1)) (w4)) ∧ (∀ (_ : Nat → Value), (∀ (x9 : Int), (∀ (w10 : World), ((z6 (x9) (w10)) → (((4 : Int) ≠ 0) ∧ (ifK (decide (x9 ≤ wrap i64 (wrap i64 (a_ + wrap i64 (wrap i64 (Int.tdiv (wrap i64 (b - a_)) 4) * 2)) + 1)))
(Ca Tryz.prog (141) (Array.mk [pointer (some (nw w))]) (w10) (fun v11 => (fun w12 =>
(∃ x13 : Int, ((v11 = int u64 x13) ∧ (∃ z14 : Int → World → Prop, ((ifK (decide (wrap i64 (wrap u64 (↑(BitVec.toNat (BitVec.ofInt 64 x13 &&& BitVec.ofInt 64 (wrap u64 (x5 - 1)))) : Int)) ≥ wrap i64 (b - a_)))
(z14 (wrap i64 (wrap i64 (wrap u64 (↑(BitVec.toNat (BitVec.ofInt 64 x13 &&& BitVec.ofInt 64 (wrap u64 (x5 - 1)))) : Int)) - wrap i64 (b - a_))) (w12))
(z14 (wrap i64 (wrap u64 (↑(BitVec.toNat (BitVec.ofInt 64 x13 &&& BitVec.ofInt 64 (wrap u64 (x5 - 1)))) : Int))) (w12))) ∧ (∀ (_ : Nat → Value), (∀ (x16 : Int), (∀ (w17 : World), ((z14 (x16) (w17)) → (atW (drew w17) (fun w18 =>
(∃ a19 : Addr, ((dataa = some a19) ∧ (((0 : Int) ≤ wrap i64 (a_ + x16)) ∧ (((wrap i64 (a_ + x16) : Int) < (↑datal : Int)) ∧ (ldW Tryz.prog 33 (pointer (some (add a19 (Int.toNat (wrap i64 (a_ + x16)) * 3)))) (w18) (fun v20 =>
(∃ a21 : Addr, ((dataa = some a21) ∧ (((0 : Int) ≤ x9) ∧ (((x9 : Int) < (↑datal : Int)) ∧ (ldW Tryz.prog 33 (pointer (some (add a21 (Int.toNat x9 * 3)))) (w18) (fun v22 =>
(∃ a23 : Addr, ((dataa = some a23) ∧ (((0 : Int) ≤ x9) ∧ (((x9 : Int) < (↑datal : Int)) ∧ (stW Tryz.prog 33 (pointer (some (add a23 (Int.toNat x9 * 3)))) (v20) (w18) (fun w24 =>
(∃ a25 : Addr, ((dataa = some a25) ∧ (((0 : Int) ≤ wrap i64 (a_ + x16)) ∧ (((wrap i64 (a_ + x16) : Int) < (↑datal : Int)) ∧ (stW Tryz.prog 33 (pointer (some (add a25 (Int.toNat (wrap i64 (a_ + x16)) * 3)))) (v22) (w24) (fun w26 =>
((z6 (wrap i64 (x9 + 1)) (w26)) ∧ (z7 (wrap i64 (x9 + 1)) w26 < z7 x9 w10)))))))))))))))))))))))))))))))))))))))
(R (tuple (Array.mk (List.reverse []))) (w10)))))))))))))))))))))
(R (tuple (Array.mk (List.reverse []))) (w)))
theorem ca112 (dataa : Option Addr) (datal : Nat) (datac : Nat) (a_ : Int) (b : Int) (cmp : Value) (w : World) (R : Value → World → Prop) (h : W112 dataa datal datac a_ b cmp w R) : Ca Tryz.prog 112 ⟨[(.slice dataa datal datac), (.int .i64 a_), (.int .i64 b), cmp]⟩ w R :=
  caB (fn := Tryz.f112) (pl := pl112) (ls := ls112) Tryz.func112 (by kernel_rfl) (by kernel_rfl) h

/-- slices.partialInsertionSortCmpFunc[staith/api.Exchange] -/
noncomputable def C115 : Code := (Tryz.f115.body).getD .skip
def pl115 : Nat → Plan
  | 5 => (.quiet 0 (.quiet 1 (.quiet 2 (.quiet 3 (.quiet 4 (.quiet 5 (.quiet 6 (.quiet 7 (.quiet 8 (.quiet 9 (.quiet 10 (.quiet 11 (.quiet 12 (.quiet 13 (.eff 14 [] (.quiet 15 (.quiet 16 (.quiet 17 .done))))))))))))))))))
  | 11 => (.quiet 0 (.quiet 1 (.quiet 2 (.quiet 3 (.quiet 4 (.quiet 5 (.quiet 6 (.quiet 7 (.quiet 8 (.quiet 9 (.quiet 10 (.quiet 11 (.quiet 12 (.quiet 13 (.quiet 14 (.eff 15 [] (.quiet 16 (.eff 17 [] .done))))))))))))))))))
  | 16 => (.quiet 0 (.quiet 1 (.quiet 2 (.quiet 3 (.quiet 4 (.quiet 5 (.quiet 6 (.quiet 7 (.quiet 8 (.quiet 9 (.eff 10 [] (.quiet 11 (.quiet 12 .done)))))))))))))
  | 17 => (.quiet 0 (.quiet 1 (.quiet 2 (.quiet 3 (.quiet 4 (.quiet 5 (.quiet 6 (.quiet 7 (.quiet 8 (.quiet 9 (.quiet 10 (.quiet 11 (.quiet 12 (.quiet 13 (.quiet 14 (.eff 15 [] (.quiet 16 (.eff 17 [] .done))))))))))))))))))
  | 22 => (.quiet 0 (.quiet 1 (.quiet 2 (.quiet 3 (.quiet 4 (.quiet 5 (.quiet 6 (.quiet 7 (.quiet 8 (.quiet 9 (.eff 10 [] (.quiet 11 (.quiet 12 .done)))))))))))))
  | 23 => (.quiet 0 (.quiet 1 (.quiet 2 (.quiet 3 (.quiet 4 (.quiet 5 (.quiet 6 (.quiet 7 (.quiet 8 (.quiet 9 (.quiet 10 (.quiet 11 (.quiet 12 (.quiet 13 (.quiet 14 (.eff 15 [] (.quiet 16 (.eff 17 [] .done))))))))))))))))))
  | _ => .done
def ls115 : Nat → List (Nat × LT)
  | 4 => [(9, (.one (.int .i64))), (10, (.one (.int .i64)))]
  | 8 => [(0, .agg []), (9, (.one (.int .i64)))]
  | 9 => [(9, (.one (.int .i64)))]
  | 19 => [(0, .agg [])]
  | 22 => [(11, (.one (.int .i64)))]
  | 30 => [(12, (.one (.int .i64)))]
  | _ => []
def W115 (dataa : Option Addr) (datal : Nat) (_datac : Nat) (a_ : Int) (b : Int) (cmp : Value) (w : World) (R : Value → World → Prop) : Prop :=
  (∃ z0 : Int → Int → World → Prop, (∃ z1 : Int → Int → World → Nat, ((z0 (wrap i64 (a_ + 1)) (0) (w)) ∧ (∀ (_ : Nat → Value), (∀ (x3 : Int), (∀ (x4 : Int), (∀ (w5 : World), ((z0 (x3) (x4) (w5)) → (ifK (decide (x4 < 5))
(∃ z6 : Int → World → Prop, ((∃ z7 : Int → World → Prop, (∃ z8 : Int → World → Nat, ((z7 (x3) (w5)) ∧ (∀ (_ : Nat → Value), (∀ (x10 : Int), (∀ (w11 : World), ((z7 (x10) (w11)) → (atW (drew w11) (fun w12 =>
(ifK (decide (x10 < b))
(∃ a13 : Addr, ((dataa = some a13) ∧ (((0 : Int) ≤ x10) ∧ (((x10 : Int) < (↑datal : Int)) ∧ (ldW Tryz.prog 33 (pointer (some (add a13 (Int.toNat x10 * 3)))) (w12) (fun v14 =>
(∃ a15 : Addr, ((dataa = some a15) ∧ (((0 : Int) ≤ wrap i64 (x10 - 1)) ∧ (((wrap i64 (x10 - 1) : Int) < (↑datal : Int)) ∧ (ldW Tryz.prog 33 (pointer (some (add a15 (Int.toNat (wrap i64 (x10 - 1)) * 3)))) (w12) (fun v16 =>
(CaV Tryz.prog (cmp) (Array.mk [v14, v16]) (w12) (fun v17 => (fun w18 =>
(∃ x19 : Int, ((v17 = int i64 x19) ∧ (ifK (!decide (x19 < 0))
((z7 (wrap i64 (x10 + 1)) (w18)) ∧ (z8 (wrap i64 (x10 + 1)) w18 < z8 x10 w11))
(z6 (x10) (w18))))))))))))))))))))
(z6 (x10) (w12)))))))))))) ∧ (∀ (_ : Nat → Value), (∀ (x21 : Int), (∀ (w22 : World), ((z6 (x21) (w22)) → (ifK (x21 == b)
(R (bool true) (w22))
(ifK (decide (wrap i64 (b - a_) < 50))
(R (bool false) (w22))
(atW (drew w22) (fun w23 =>
(∃ a24 : Addr, ((dataa = some a24) ∧ (((0 : Int) ≤ wrap i64 (x21 - 1)) ∧ (((wrap i64 (x21 - 1) : Int) < (↑datal : Int)) ∧ (ldW Tryz.prog 33 (pointer (some (add a24 (Int.toNat (wrap i64 (x21 - 1)) * 3)))) (w23) (fun v25 =>
(∃ a26 : Addr, ((dataa = some a26) ∧ (((0 : Int) ≤ x21) ∧ (((x21 : Int) < (↑datal : Int)) ∧ (ldW Tryz.prog 33 (pointer (some (add a26 (Int.toNat x21 * 3)))) (w23) (fun v27 =>
(∃ a28 : Addr, ((dataa = some a28) ∧ (((0 : Int) ≤ x21) ∧ (((x21 : Int) < (↑datal : Int)) ∧ (stW Tryz.prog 33 (pointer (some (add a28 (Int.toNat x21 * 3)))) (v25) (w23) (fun w29 =>
(∃ a30 : Addr, ((dataa = some a30) ∧ (((0 : Int) ≤ wrap i64 (x21 - 1)) ∧ (((wrap i64 (x21 - 1) : Int) < (↑datal : Int)) ∧ (stW Tryz.prog 33 (pointer (some (add a30 (Int.toNat (wrap i64 (x21 - 1)) * 3)))) (v27) (w29) (fun w31 =>
(∃ z32 : World → Prop, ((ifK (decide (wrap i64 (x21 - a_) ≥ 2))
(∃ z33 : Int → World → Prop, (∃ z34 : Int → World → Nat, ((z33 (wrap i64 (x21 - 1)) (w31)) ∧ (∀ (_ : Nat → Value), (∀ (x36 : Int), (∀ (w37 : World), ((z33 (x36) (w37)) → (ifK (decide (x36 ≥ 1))
(atW (drew w37) (fun w38 =>
(∃ a39 : Addr, ((dataa = some a39) ∧ (((0 : Int) ≤ x36) ∧ (((x36 : Int) < (↑datal : Int)) ∧ (ldW Tryz.prog 33 (pointer (some (add a39 (Int.toNat x36 * 3)))) (w38) (fun v40 =>
(∃ a41 : Addr, ((dataa = some a41) ∧ (((0 : Int) ≤ wrap i64 (x36 - 1)) ∧ (((wrap i64 (x36 - 1) : Int) < (↑datal : Int)) ∧ (ldW Tryz.prog 33 (pointer (some (add a41 (Int.toNat (wrap i64 (x36 - 1)) * 3)))) (w38) (fun v42 =>
(CaV Tryz.prog (cmp) (Array.mk [v40, v42]) (w38) (fun v43 => (fun w44 =>
(∃ x45 : Int, ((v43 = int i64 x45) ∧ (ifK (!decide (x45 < 0))
(z32 (w44))
(atW (drew w44) (fun w46 =>
(∃ a47 : Addr, ((dataa = some a47) ∧ (((0 : Int) ≤ wrap i64 (x36 - 1)) ∧ (((wrap i64 (x36 - 1) : Int) < (↑datal : Int)) ∧ (ldW Tryz.prog 33 (pointer (some (add a47 (Int.toNat (wrap i64 (x36 - 1)) * 3)))) (w46) (fun v48 =>
(∃ a49 : Addr, ((dataa = some a49) ∧ (((0 : Int) ≤ x36) ∧ (((x36 : Int) < (↑datal : Int)) ∧ (ldW Tryz.prog 33 (pointer (some (add a49 (Int.toNat x36 * 3)))) (w46) (fun v50 =>
(∃ a51 : Addr, ((dataa = some a51) ∧ (((0 : Int) ≤ x36) ∧ (((x36 : Int) < (↑datal : Int)) ∧ (stW Tryz.prog 33 (pointer (some (add a51 (Int.toNat x36 * 3)))) (v48) (w46) (fun w52 =>
(∃ a53 : Addr, ((dataa = some a53) ∧ (((0 : Int) ≤ wrap i64 (x36 - 1)) ∧ (((wrap i64 (x36 - 1) : Int) < (↑datal : Int)) ∧ (stW Tryz.prog 33 (pointer (some (add a53 (Int.toNat (wrap i64 (x36 - 1)) * 3)))) (v50) (w52) (fun w54 =>
((z33 (wrap i64 (x36 - 1)) (w54)) ∧ (z34 (wrap i64 (x36 - 1)) w54 < z34 x36 w37))))))))))))))))))))))))))))))))))))))))))))))))
(z32 (w37))))))))))
(z32 (w31))) ∧ (∀ (_ : Nat → Value), (∀ (w56 : World), ((z32 (w56)) → (ifK (decide (wrap i64 (b - x21) ≥ 2))
(∃ z57 : Int → World → Prop, (∃ z58 : Int → World → Nat, ((z57 (wrap i64 (x21 + 1)) (w56)) ∧ (∀ (_ : Nat → Value), (∀ (x60 : Int), (∀ (w61 : World), ((z57 (x60) (w61)) → (ifK (decide (x60 < b))
(atW (drew w61) (fun w62 =>
(∃ a63 : Addr, ((dataa = some a63) ∧ (((0 : Int) ≤ x60) ∧ (((x60 : Int) < (↑datal : Int)) ∧ (ldW Tryz.prog 33 (pointer (some (add a63 (Int.toNat x60 * 3)))) (w62) (fun v64 =>
(∃ a65 : Addr, ((dataa = some a65) ∧ (((0 : Int) ≤ wrap i64 (x60 - 1)) ∧ (((wrap i64 (x60 - 1) : Int) < (↑datal : Int)) ∧ (ldW Tryz.prog 33 (pointer (some (add a65 (Int.toNat (wrap i64 (x60 - 1)) * 3)))) (w62) (fun v66 =>
(CaV Tryz.prog (cmp) (Array.mk [v64, v66]) (w62) (fun v67 => (fun w68 =>
(∃ x69 : Int, ((v67 = int i64 x69) ∧ (ifK (!decide (x69 < 0))
((z0 (x21) (wrap i64 (x4 + 1)) (w68)) ∧ (z1 x21 (wrap i64 (x4 + 1)) w68 < z1 x3 x4 w5))
(atW (drew w68) (fun w70 =>
(∃ a71 : Addr, ((dataa = some a71) ∧ (((0 : Int) ≤ wrap i64 (x60 - 1)) ∧ (((wrap i64 (x60 - 1) : Int) < (↑datal : Int)) ∧ (ldW Tryz.prog 33 (pointer (some (add a71 (Int.toNat (wrap i64 (x60 - 1)) * 3)))) (w70) (fun v72 =>
(∃ a73 : Addr, ((dataa = some a73) ∧ (((0 : Int) ≤ x60) ∧ (((x60 : Int) < (↑datal : Int)) ∧ (ldW Tryz.prog 33 (pointer (some (add a73 (Int.toNat x60 * 3)))) (w70) (fun v74 =>
(∃ a75 : Addr, ((dataa = some a75) ∧ (((0 : Int) ≤ x60) ∧ (((x60 : Int) < (↑datal : Int)) ∧ (stW Tryz.prog 33 (pointer (some (add a75 (Int.toNat x60 * 3)))) (v72) (w70) (fun w76 =>
(∃ a77 : Addr, ((dataa = some a77) ∧ (((0 : Int) ≤ wrap i64 (x60 - 1)) ∧ (((wrap i64 (x60 - 1) : Int) < (↑datal : Int)) ∧ (stW Tryz.prog 33 (pointer (some (add a77 (Int.toNat (wrap i64 (x60 - 1)) * 3)))) (v74) (w76) (fun w78 =>
((z57 (wrap i64 (x60 + 1)) (w78)) ∧ (z58 (wrap i64 (x60 + 1)) w78 < z58 x60 w61))))))))))))))))))))))))))))))))))))))))))))))))
((z0 (x21) (wrap i64 (x4 + 1)) (w61)) ∧ (z1 x21 (wrap i64 (x4 + 1)) w61 < z1 x3 x4 w5))))))))))
((z0 (x21) (wrap i64 (x4 + 1)) (w56)) ∧ (z1 x21 (wrap i64 (x4 + 1)) w56 < z1 x3 x4 w5))))))))))))))))))))))))))))))))))))))))))
(R (bool false) (w5)))))))))))
theorem ca115 (dataa : Option Addr) (datal : Nat) (datac : Nat) (a_ : Int) (b : Int) (cmp : Value) (w : World) (R : Value → World → Prop) (h : W115 dataa datal datac a_ b cmp w R) : Ca Tryz.prog 115 ⟨[(.slice dataa datal datac), (.int .i64 a_), (.int .i64 b), cmp]⟩ w R :=
  caB (fn := Tryz.f115) (pl := pl115) (ls := ls115) Tryz.func115 (by kernel_rfl) (by kernel_rfl) h
end Go.Proofs.YtehhhkcemmfjpaaGreatDoor

/- The library's general sort, at one type: what its parts do. -/
namespace Go.Proofs.YtehhhkcemmfjpaaGreatDoor.SrtX
open Go Go.Proofs.YtehhhkcemmfjpaaGreatDoor Go.Proofs.YtehhhkcemmfjpaaGreatDoor.St

theorem piv_eqs (a b l : Nat) (hab : a ≤ b) (hb : b ≤ l) (hl : l < 4611686018427387904) :
    IntKind.i64.wrap ((b : Int) - a) = ((b - a : Nat) : Int) ∧ Int.tdiv ((b - a : Nat) : Int) 4 = (((b - a) / 4 : Nat) : Int) ∧
    IntKind.i64.wrap ((a : Int) + IntKind.i64.wrap (IntKind.i64.wrap (((b - a) / 4 : Nat) : Int) * 1)) = ((a + (b - a) / 4 : Nat) : Int) ∧
    IntKind.i64.wrap ((a : Int) + IntKind.i64.wrap (IntKind.i64.wrap (((b - a) / 4 : Nat) : Int) * 2)) = ((a + (b - a) / 4 * 2 : Nat) : Int) ∧
    IntKind.i64.wrap ((a : Int) + IntKind.i64.wrap (IntKind.i64.wrap (((b - a) / 4 : Nat) : Int) * 3)) = ((a + (b - a) / 4 * 3 : Nat) : Int) :=
  ⟨(by first | (simp only [IntKind.wrap_i64]; omega) | omega), by rw [show (4 : Int) = ((4 : Nat) : Int) from rfl, ← Int.ofNat_tdiv], (by first | (simp only [IntKind.wrap_i64]; omega) | omega), (by first | (simp only [IntKind.wrap_i64]; omega) | omega), (by first | (simp only [IntKind.wrap_i64]; omega) | omega)⟩

section
variable (cv : Value) (hc : Cmp cv) (d : Option Addr) (l c : Nat) (xs : List Exc) (w : World) (hd : Rx excL 33 w d l c xs) (hl : l < 4611686018427387904)
include hc hd hl

/-! ### The pivot -/
omit hl in
theorem order2_ok (s : Nat) (t : TypeId) (n : Int) (hs : w.heap[s]? = some (.cells #[.int .i64 n] t (0, 0))) (x y : Nat) (hx : x < l) (hy : y < l) (R : Value → World → Prop)
    (h : ∀ w' (n' : Int) (x' y' : Nat), (x' = x ∧ y' = y ∨ x' = y ∧ y' = x) → w'.heap[s]? = some (.cells #[.int .i64 n'] t (0, 0)) → Mod (on s) w w' → R (.tuple #[.int .i64 x', .int .i64 y']) w') :
    Ca Tryz.prog 151 #[.slice d l c, .int .i64 x, .int .i64 y, .pointer (some ⟨s, 0, none⟩), cv] w R := by
  refine ca151 d l c x y (some ⟨s, 0, none⟩) cv w R ?_
  intro w0 e0
  have m0 : Mod no w w0 := by subst e0; exact Mod.drew _
  clear e0
  refine lss hc (hd.no m0) y x rfl rfl hy hx (fun _ wc mc => ?_) (fun _ wc mc => ?_)
  · have m0 := m0.trans mc
    have hs0 := m0.at' hs
    refine ⟨n, by rw [cl hs0]; rfl, ⟨_, by rw [cl1 hs0]; rfl⟩, fz1 hs0 _, ?_⟩
    intro w1 e1
    have hs1 : w1.heap[s]? = some (.cells #[.int .i64 (IntKind.i64.wrap (n + 1))] t (0, 0)) := by subst e1; exact set1 hs0 _ _
    have m1 : Mod (on s) wc w1 := by subst e1; exact Mod.set1 _ _ _ _
    exact h w1 _ y x (.inr ⟨rfl, rfl⟩) hs1 (m0.no_trans m1)
  · have m0 := m0.trans mc
    exact h wc n x y (.inl ⟨rfl, rfl⟩) (m0.at' hs) m0.of_no

omit hl in
theorem median_ok (s : Nat) (t : TypeId) (n : Int) (hs : w.heap[s]? = some (.cells #[.int .i64 n] t (0, 0))) (hne : ¬ rowB d s) (x y z : Nat) (hx : x < l) (hy : y < l) (hz : z < l) (R : Value → World → Prop)
    (h : ∀ w' (n' : Int) (m : Nat), (m = x ∨ m = y ∨ m = z) → w'.heap[s]? = some (.cells #[.int .i64 n'] t (0, 0)) → Mod (on s) w w' → R (.int .i64 m) w') :
    Ca Tryz.prog 143 #[.slice d l c, .int .i64 x, .int .i64 y, .int .i64 z, .pointer (some ⟨s, 0, none⟩), cv] w R := by
  refine ca143 d l c x y z (some ⟨s, 0, none⟩) cv w R ?_
  have keep : ∀ {w'}, Mod (on s) w w' → Rx excL 33 w' d l c xs := fun hm => hd.mod hm fun k hk he => hne (by cases he; exact hk)
  refine order2_ok cv hc d l c xs w hd s t n hs x y hx hy _ fun w1 n1 x1 y1 h1 hs1 m1 => ⟨_, _, rfl, ?_⟩
  refine order2_ok cv hc d l c xs w1 (keep m1) s t n1 hs1 y1 z (by omega) hz _ fun w2 n2 y2 z2 h2 hs2 m2 => ⟨_, _, rfl, ?_⟩
  refine order2_ok cv hc d l c xs w2 (keep (m1.trans m2)) s t n2 hs2 x1 y2 (by omega) (by omega) _ fun w3 n3 x3 y3 h3 hs3 m3 => ⟨_, _, rfl, ?_⟩
  exact h w3 n3 y3 (by omega) hs3 ((m1.trans m2).trans m3)

theorem medianAdj_ok (s : Nat) (t : TypeId) (n : Int) (hs : w.heap[s]? = some (.cells #[.int .i64 n] t (0, 0))) (hne : ¬ rowB d s) (x : Nat) (hx : 0 < x) (hx1 : x + 1 < l) (R : Value → World → Prop)
    (h : ∀ w' (n' : Int) (m : Nat), (x ≤ m + 1 ∧ m ≤ x + 1) → w'.heap[s]? = some (.cells #[.int .i64 n'] t (0, 0)) → Mod (on s) w w' → R (.int .i64 m) w') :
    Ca Tryz.prog 142 #[.slice d l c, .int .i64 x, .pointer (some ⟨s, 0, none⟩), cv] w R := by
  refine ca142 d l c x (some ⟨s, 0, none⟩) cv w R ?_
  have e1 : IntKind.i64.wrap ((x : Int) - 1) = ((x - 1 : Nat) : Int) := (by first | (simp only [IntKind.wrap_i64]; omega) | omega)
  have e2 : IntKind.i64.wrap ((x : Int) + 1) = ((x + 1 : Nat) : Int) := (by first | (simp only [IntKind.wrap_i64]; omega) | omega)
  rw [W142, e1, e2]
  exact median_ok cv hc d l c xs w hd s t n hs hne (x - 1) x (x + 1) (by omega) (by omega) hx1 _ fun w1 n1 m h1 hs1 m1 => ⟨_, rfl, h w1 n1 m (by rcases h1 with rfl | rfl | rfl <;> omega) hs1 m1⟩

theorem choosePivot_ok (a b : Nat) (hab : a + 8 ≤ b) (hb : b ≤ l) (R : Value → World → Prop)
    (h : ∀ w' (p : Nat) (hint : Int), a ≤ p → p < b → Mod no w w' → R (.tuple #[.int .i64 p, .int .i64 hint]) w') :
    Ca Tryz.prog 113 #[.slice d l c, .int .i64 a, .int .i64 b, cv] w R := by
  refine ca113 d l c a b cv w R ?_
  obtain ⟨elen, e4, ei, ej, ek⟩ := piv_eqs a b l (by omega) hb hl
  rw [W113]
  simp only [elen, e4, ei, ej, ek]
  clear elen e4 ei ej ek
  intro w0 e0
  have m0 : Mod no w w0 := by subst e0; exact Mod.alloc _ _
  have hs0 : w0.heap[w.heap.size]? = some (.cells #[.int .i64 0] 3 (0, 0)) := by subst e0; exact new_at _ _
  clear e0
  have hne : ¬ rowB d w.heap.size := Rx.nblk hd
  have hd0 := hd.no m0
  have keep : ∀ {w'}, Mod (on w.heap.size) w0 w' → Rx excL 33 w' d l c xs := fun hm => hd0.mod hm fun k hk he => hne (by cases he; exact hk)
  refine ⟨by decide, by decide, by decide, fun x w' => ∃ (m : Nat) (n : Int), x = m ∧ a ≤ m ∧ m < b ∧ w'.heap[w.heap.size]? = some (.cells #[.int .i64 n] 3 (0, 0)) ∧ Mod (on w.heap.size) w0 w', ?_, ?_⟩
  · refine ifK_dec (fun _ => ifK_dec (fun h50 => ?_) (fun _ => ?_)) (fun hn => ?_)
    · refine medianAdj_ok cv hc d l c xs w0 hd0 hl _ 3 0 hs0 hne _ (by omega) (by omega) _ fun w1 n1 x1 h1 hs1 m1 => ⟨_, rfl, ?_⟩
      refine medianAdj_ok cv hc d l c xs w1 (keep m1) hl _ 3 n1 hs1 hne _ (by omega) (by omega) _ fun w2 n2 x2 h2 hs2 m2 => ⟨_, rfl, ?_⟩
      refine medianAdj_ok cv hc d l c xs w2 (keep (m1.trans m2)) hl _ 3 n2 hs2 hne _ (by omega) (by omega) _ fun w3 n3 x3 h3 hs3 m3 => ⟨_, rfl, ?_⟩
      refine median_ok cv hc d l c xs w3 (keep ((m1.trans m2).trans m3)) _ 3 n3 hs3 hne _ _ _ (by omega) (by omega) (by omega) _ fun w4 n4 x4 h4 hs4 m4 => ⟨_, rfl, ?_⟩
      have hx : a ≤ x4 ∧ x4 < b := by
        clear hs1 hs2 hs3 hs4 m1 m2 m3 m4 h
        rcases h4 with rfl | rfl | rfl <;> omega
      exact ⟨x4, n4, rfl, hx.1, hx.2, hs4, ((m1.trans m2).trans m3).trans m4⟩
    · refine median_ok cv hc d l c xs w0 hd0 _ 3 0 hs0 hne _ _ _ (by omega) (by omega) (by omega) _ fun w4 n4 x4 h4 hs4 m4 => ⟨_, rfl, ?_⟩
      have hx : a ≤ x4 ∧ x4 < b := by rcases h4 with rfl | rfl | rfl <;> omega
      exact ⟨x4, n4, rfl, hx.1, hx.2, hs4, m4⟩
    · exact absurd hn (by omega)
  · rintro _ _ w1 ⟨m, n, rfl, h1, h2, hs1, m1⟩
    have m01 : Mod no w w1 := m0.new m1 fun k hk => by cases hk; exact Nat.le_refl _
    refine ⟨n, by rw [cl hs1]; rfl, ifK_of (fun _ => ?_) (fun _ => ifK_of (fun _ => ?_) (fun _ => ?_))⟩
    all_goals exact h w1 m _ h1 h2 m01

/-! ### Reversing, scattering -/
theorem reverse_ok (a b : Nat) (hab : a < b) (hb : b ≤ l) (R : Value → World → Prop)
    (h : ∀ w' ys, Rx excL 33 w' d l c ys → Seg a b xs ys → Mod (rowB d) w w' → R (.tuple #[]) w') :
    Ca Tryz.prog 114 #[.slice d l c, .int .i64 a, .int .i64 b, cv] w R := by
  refine ca114 d l c a b cv w R ?_
  refine ⟨fun x y w' => ∃ (i j : Nat) (ys : List Exc), x = i ∧ y = j ∧ a ≤ i ∧ i ≤ b ∧ j < b ∧ Rx excL 33 w' d l c ys ∧ Seg a b xs ys ∧ Mod (rowB d) w w', fun x y _ => (y - x).toNat,
    ⟨a, b - 1, xs, rfl, (by first | (simp only [IntKind.wrap_i64]; omega) | omega), Nat.le_refl _, by omega, by omega, hd, Seg.refl _ _ _, Mod.refl _ _⟩, ?_⟩
  rintro _ _ _ w1 ⟨i, j, ys, rfl, rfl, hi, hib, hj, hys, hsg, hm⟩
  have hyl := hys.len.1
  refine ifK_dec (fun hij => ?_) (fun _ => h w1 ys hys hsg hm)
  intro w2 e2
  have m2 : Mod no w1 w2 := by subst e2; exact Mod.drew _
  clear e2
  refine (hys.no m2).swp hc.ho hc.hs i j rfl rfl (by omega) (by omega) fun w3 h3 m3 => ?_
  exact ⟨⟨i + 1, j - 1, _, (by first | (simp only [IntKind.wrap_i64]; omega) | omega), (by first | (simp only [IntKind.wrap_i64]; omega) | omega), by omega, by omega, by omega, h3, hsg.trans (Seg.swap (by omega) (by omega) (by omega) (by omega) (by omega) (by omega)), (hm.trans_no m2).trans m3⟩, (by first | (simp only [IntKind.wrap_i64]; omega) | omega)⟩

/-! ### Parting -/
omit hd in
/-- As long as the left one is less. -/
theorem part_up (a b : Nat) (hb : b ≤ l) : ∀ (ys : List Exc) (w' : World) (i j : Nat) (J : Int) (Q : Int → World → Prop), J = j → Rx excL 33 w' d l c ys → Pt ys a b i j →
    (∀ (i' : Nat) w'', Rx excL 33 w'' d l c ys → Pt ys a b i' j → (i' ≤ j → at0 ys a ≤ at0 ys i') → i ≤ i' → Mod no w' w'' → Q i' w'') →
    (∃ (z : Int → World → Prop) (m : Int → World → Nat), z i w' ∧ ∀ (_ : Nat → Value) (x : Int) (w1 : World), z x w1 → atW w1.drew fun w2 => ifK (decide (x ≤ J))
      (∃ ad : Addr, d = some ad ∧ (0 : Int) ≤ x ∧ x < (↑l : Int) ∧ ldW Tryz.prog 33 (.pointer (some (Addr.add ad (Int.toNat x * 3)))) w2 fun y =>
        ∃ ad : Addr, d = some ad ∧ (0 : Int) ≤ (a : Int) ∧ (a : Int) < (↑l : Int) ∧ ldW Tryz.prog 33 (.pointer (some (Addr.add ad (Int.toNat (a : Int) * 3)))) w2 fun y' =>
        CaV Tryz.prog cv (Array.mk [y, y']) w2 (fun v w' => ∃ b : Int, v = Value.int .i64 b ∧ ifK (decide (b < 0)) (z (IntKind.wrap .i64 (x + 1)) w' ∧ m (IntKind.wrap .i64 (x + 1)) w' < m x w1) (Q x w')))
      (Q x w2)) := by
  intro ys w' i j J Q hJ hys hpt hQ
  refine ⟨fun x w'' => ∃ i' : Nat, x = i' ∧ Rx excL 33 w'' d l c ys ∧ Pt ys a b i' j ∧ i ≤ i' ∧ Mod no w' w'', fun x _ => ((j : Int) + 1 - x).toNat, ⟨i, rfl, hys, hpt, Nat.le_refl _, Mod.refl _ _⟩, ?_⟩
  rintro _ _ w1 ⟨i', rfl, hy1, hp1, hi1, m1⟩ w2 e2
  have m2 : Mod no w1 w2 := by subst e2; exact Mod.drew _
  clear e2
  have hjb := hp1.jb
  have hai := hp1.ai
  refine ifK_dec (fun hle => ?_) (fun hgt => hQ i' w2 (hy1.no m2) hp1 (fun h => by omega) hi1 (m1.trans m2))
  refine lss hc (hy1.no m2) i' a rfl rfl (by omega) (by omega) (fun hlt wc mc => ?_) (fun hge wc mc => hQ i' wc ((hy1.no m2).no mc) hp1 (fun _ => Lin.nlt hge) hi1 ((m1.trans m2).trans mc))
  exact ⟨⟨i' + 1, (by first | (simp only [IntKind.wrap_i64]; omega) | omega), (hy1.no m2).no mc, hp1.up (by omega) (Lin.lle hlt), by omega, (m1.trans m2).trans mc⟩, (by first | (simp only [IntKind.wrap_i64]; omega) | omega)⟩
omit hd in
/-- As long as the right one is not less. -/
theorem part_down (a b : Nat) (hb : b ≤ l) : ∀ (ys : List Exc) (w' : World) (i j : Nat) (I : Int) (Q : Int → World → Prop), I = i → Rx excL 33 w' d l c ys → Pt ys a b i j → (i ≤ j → at0 ys a ≤ at0 ys i) →
    (∀ (j' : Nat) w'', Rx excL 33 w'' d l c ys → Pt ys a b i j' → (i ≤ j' → at0 ys a ≤ at0 ys i ∧ at0 ys j' < at0 ys a) → j' ≤ j → Mod no w' w'' → Q j' w'') →
    (∃ (z : Int → World → Prop) (m : Int → World → Nat), z j w' ∧ ∀ (_ : Nat → Value) (x : Int) (w1 : World), z x w1 → atW w1.drew fun w2 => ifK (decide (I ≤ x))
      (∃ ad : Addr, d = some ad ∧ (0 : Int) ≤ x ∧ x < (↑l : Int) ∧ ldW Tryz.prog 33 (.pointer (some (Addr.add ad (Int.toNat x * 3)))) w2 fun y =>
        ∃ ad : Addr, d = some ad ∧ (0 : Int) ≤ (a : Int) ∧ (a : Int) < (↑l : Int) ∧ ldW Tryz.prog 33 (.pointer (some (Addr.add ad (Int.toNat (a : Int) * 3)))) w2 fun y' =>
        CaV Tryz.prog cv (Array.mk [y, y']) w2 (fun v w' => ∃ b : Int, v = Value.int .i64 b ∧ ifK (!decide (b < 0)) (z (IntKind.wrap .i64 (x - 1)) w' ∧ m (IntKind.wrap .i64 (x - 1)) w' < m x w1) (Q x w')))
      (Q x w2)) := by
  intro ys w' i j I Q hI hys hpt hi0 hQ
  refine ⟨fun x w'' => ∃ j' : Nat, x = j' ∧ Rx excL 33 w'' d l c ys ∧ Pt ys a b i j' ∧ j' ≤ j ∧ Mod no w' w'', fun x _ => (x + 1 - (i : Int)).toNat, ⟨j, rfl, hys, hpt, Nat.le_refl _, Mod.refl _ _⟩, ?_⟩
  rintro _ _ w1 ⟨j', rfl, hy1, hp1, hj1, m1⟩ w2 e2
  have m2 : Mod no w1 w2 := by subst e2; exact Mod.drew _
  clear e2
  have hjb := hp1.jb
  have hai := hp1.ai
  refine ifK_dec (fun hle => ?_) (fun hgt => hQ j' w2 (hy1.no m2) hp1 (fun h => by omega) hj1 (m1.trans m2))
  refine nls hc (hy1.no m2) j' a rfl rfl (by omega) (by omega) (fun hge wc mc => ?_) (fun hlt wc mc => hQ j' wc ((hy1.no m2).no mc) hp1 (fun _ => ⟨hi0 (by omega), hlt⟩) hj1 ((m1.trans m2).trans mc))
  exact ⟨⟨j' - 1, (by first | (simp only [IntKind.wrap_i64]; omega) | omega), (hy1.no m2).no mc, hp1.down (by omega) (Lin.nlt hge), by omega, (m1.trans m2).trans mc⟩, (by first | (simp only [IntKind.wrap_i64]; omega) | omega)⟩
theorem partition_ok (a b p : Nat) (hap : a ≤ p) (hpb : p < b) (hb : b ≤ l) (R : Value → World → Prop)
    (h : ∀ w' ys (m : Nat) (q : Bool), Rx excL 33 w' d l c ys → Seg a b xs ys → Parted ys a m b → Mod (rowB d) w w' → R (.tuple #[.int .i64 m, .bool q]) w') :
    Ca Tryz.prog 117 #[.slice d l c, .int .i64 a, .int .i64 b, .int .i64 p, cv] w R := by
  have hxl := hd.len.1
  refine ca117 d l c a b p cv w R ?_
  have ea : IntKind.i64.wrap ((a : Int) + 1) = ((a + 1 : Nat) : Int) := (by first | (simp only [IntKind.wrap_i64]; omega) | omega)
  have eb : IntKind.i64.wrap ((b : Int) - 1) = ((b - 1 : Nat) : Int) := (by first | (simp only [IntKind.wrap_i64]; omega) | omega)
  rw [W117, ea, eb]
  clear ea eb
  intro w0 e0
  have m0 : Mod no w w0 := by subst e0; exact Mod.drew _
  clear e0
  refine (hd.no m0).swp hc.ho hc.hs a p rfl rfl (by omega) (by omega) fun w1 h1 m1 => ?_
  have m1 := m0.no_trans m1
  have s1 : Seg a b xs (swapL xs a p) := Seg.swap (by omega) (by omega) (by omega) (by omega) hap hpb
  have fin : ∀ (ys : List Exc) (w' : World) (i j : Nat) (q : Bool), Rx excL 33 w' d l c ys → Seg a b xs ys → Pt ys a b i j → j < i → Mod (rowB d) w w' →
      ∀ w'', Rx excL 33 w'' d l c (swapL ys j a) → Mod (rowB d) w' w'' → R (.tuple #[.int .i64 j, .bool q]) w'' := by
    intro ys w' i j q hys hsg hpt hji hm w'' hy'' m''
    have hyl := hys.len.1
    have h1 := hpt.ai
    have h2 := hpt.ij
    have h3 := hpt.jb
    exact h w'' _ j q hy'' (hsg.trans (Seg.swap (by omega) (by omega) (by omega) (by omega) (by omega) (by omega))) (hpt.done (by omega) hji) (hm.trans m'')
  refine ⟨_, part_up cv hc d l c hl a b hb _ w1 (a + 1) (b - 1) _ (fun x w' => ∃ i : Nat, x = i ∧ Rx excL 33 w' d l c (swapL xs a p) ∧ Pt (swapL xs a p) a b i (b - 1) ∧ (i ≤ b - 1 → at0 (swapL xs a p) a ≤ at0 (swapL xs a p) i) ∧ Mod (rowB d) w w') rfl h1
    ⟨Nat.le_refl _, by omega, by omega, fun k h1 h2 => by omega, fun k h1 h2 => by omega⟩ (fun i w' h1 h2 h3 _ h4 => ⟨i, rfl, h1, h2, h3, m1.trans_no h4⟩), ?_⟩
  rintro _ _ w2 ⟨i, rfl, h2, hpt, hi, m2⟩
  refine ⟨_, part_down cv hc d l c hl a b hb _ w2 i (b - 1) _ (fun x w' => ∃ j : Nat, x = j ∧ Rx excL 33 w' d l c (swapL xs a p) ∧ Pt (swapL xs a p) a b i j ∧ (i ≤ j → at0 (swapL xs a p) a ≤ at0 (swapL xs a p) i ∧ at0 (swapL xs a p) j < at0 (swapL xs a p) a) ∧ Mod (rowB d) w w') rfl h2 hpt hi
    (fun j w' h1 h2 h3 _ h4 => ⟨j, rfl, h1, h2, h3, m2.trans_no h4⟩), ?_⟩
  rintro _ _ w3 ⟨j, rfl, h3, hpt, hij, m3⟩
  have hjb := hpt.jb
  have hai := hpt.ai
  have hil := hpt.ij
  have step : ∀ (ys : List Exc) (w' : World) (i j : Nat), Rx excL 33 w' d l c ys → Seg a b xs ys → Pt ys a b i j → (i ≤ j → at0 ys a ≤ at0 ys i ∧ at0 ys j < at0 ys a) → i ≤ j → i < j := by
    intro ys w' i j _ _ hpt hij hle
    refine Nat.lt_of_le_of_ne hle fun e => ?_
    subst e
    have := hij hle
    exact absurd this.2 (Lin.nle this.1)
  refine ifK_dec (fun hgt => ?_) (fun hle => ?_)
  · intro w4 e4
    have m4 : Mod no w3 w4 := by subst e4; exact Mod.drew _
    clear e4
    refine (h3.no m4).swp hc.ho hc.hs j a rfl rfl (by omega) (by omega) fun w5 h5 m5 => ?_
    exact fin _ w4 i j true (h3.no m4) s1 hpt (by omega) (m3.trans_no m4) w5 h5 m5
  · intro w4 e4
    have m4 : Mod no w3 w4 := by subst e4; exact Mod.drew _
    clear e4
    have hlt := step _ w3 i j h3 s1 hpt hij (by omega)
    obtain ⟨hx, hy⟩ := hij (by omega)
    refine (h3.no m4).swp hc.ho hc.hs i j rfl rfl (by omega) (by omega) fun w5 h5 m5 => ?_
    have hl3 := h3.len.1
    refine ⟨fun x y w' => ∃ (i j : Nat) (ys : List Exc), x = i ∧ y = j ∧ Rx excL 33 w' d l c ys ∧ Seg a b xs ys ∧ Pt ys a b i j ∧ Mod (rowB d) w w', fun x y _ => (y + 1 - x).toNat,
      ⟨i + 1, j - 1, _, (by first | (simp only [IntKind.wrap_i64]; omega) | omega), (by first | (simp only [IntKind.wrap_i64]; omega) | omega), h5, s1.trans (Seg.swap (by omega) (by omega) (by omega) (by omega) (by omega) (by omega)), hpt.swap (by omega) hlt (Lin.lle hy) hx, (m3.trans_no m4).trans m5⟩, ?_⟩
    rintro _ _ _ w6 ⟨i6, j6, ys, rfl, rfl, h6, s6, hpt6, m6⟩
    refine ⟨_, part_up cv hc d l c hl a b hb _ w6 i6 j6 _ (fun x w' => ∃ i : Nat, x = i ∧ Rx excL 33 w' d l c ys ∧ Pt ys a b i j6 ∧ (i ≤ j6 → at0 ys a ≤ at0 ys i) ∧ i6 ≤ i ∧ Mod (rowB d) w w') rfl h6 hpt6
      (fun i w' h1 h2 h3 h5 h4 => ⟨i, rfl, h1, h2, h3, h5, m6.trans_no h4⟩), ?_⟩
    rintro _ _ w7 ⟨i7, rfl, h7, hpt7, hi7, hii, m7⟩
    refine ⟨_, part_down cv hc d l c hl a b hb _ w7 i7 j6 _ (fun x w' => ∃ j : Nat, x = j ∧ Rx excL 33 w' d l c ys ∧ Pt ys a b i7 j ∧ (i7 ≤ j → at0 ys a ≤ at0 ys i7 ∧ at0 ys j < at0 ys a) ∧ j ≤ j6 ∧ Mod (rowB d) w w') rfl h7 hpt7 hi7
      (fun j w' h1 h2 h3 h5 h4 => ⟨j, rfl, h1, h2, h3, h5, m7.trans_no h4⟩), ?_⟩
    rintro _ _ w8 ⟨j8, rfl, h8, hpt8, hij8, hjj, m8⟩
    have hjb8 := hpt8.jb
    have hai8 := hpt8.ai
    have hil8 := hpt8.ij
    have hl8 := h8.len.1
    refine ifK_dec (fun hgt => ?_) (fun hle => ?_)
    · intro w9 e9
      have m9 : Mod no w8 w9 := by subst e9; exact Mod.drew _
      clear e9
      refine (h8.no m9).swp hc.ho hc.hs j8 a rfl rfl (by omega) (by omega) fun w10 h10 m10 => ?_
      exact fin _ w9 i7 j8 false (h8.no m9) s6 hpt8 (by omega) (m8.trans_no m9) w10 h10 m10
    · intro w9 e9
      have m9 : Mod no w8 w9 := by subst e9; exact Mod.drew _
      clear e9
      have hlt8 := step _ w8 i7 j8 h8 s6 hpt8 hij8 (by omega)
      obtain ⟨hx8, hy8⟩ := hij8 (by omega)
      refine (h8.no m9).swp hc.ho hc.hs i7 j8 rfl rfl (by omega) (by omega) fun w10 h10 m10 => ?_
      exact ⟨⟨i7 + 1, j8 - 1, _, (by first | (simp only [IntKind.wrap_i64]; omega) | omega), (by first | (simp only [IntKind.wrap_i64]; omega) | omega), h10, s6.trans (Seg.swap (by omega) (by omega) (by omega) (by omega) (by omega) (by omega)), hpt8.swap (by omega) hlt8 (Lin.lle hy8) hx8, (m8.trans_no m9).trans m10⟩, (by first | (simp only [IntKind.wrap_i64]; omega) | omega)⟩
end
end Go.Proofs.YtehhhkcemmfjpaaGreatDoor.SrtX

/- The library's general sort, at one type: parting off what is equal, heap sort, scattering, sorting what is nearly sorted. -/
namespace Go.Proofs.YtehhhkcemmfjpaaGreatDoor.SrtX
open Go Go.Proofs.YtehhhkcemmfjpaaGreatDoor Go.Proofs.YtehhhkcemmfjpaaGreatDoor.St

section
variable (cv : Value) (hc : Cmp cv) (d : Option Addr) (l c : Nat) (xs : List Exc) (w : World) (hd : Rx excL 33 w d l c xs) (hl : l < 4611686018427387904)
include hc hd hl

theorem partEq_ok (a b p : Nat) (hap : a ≤ p) (hpb : p < b) (hb : b ≤ l) (hmin : ∀ k, a ≤ k → k < b → at0 xs p ≤ at0 xs k) (R : Value → World → Prop)
    (h : ∀ w' ys (m : Nat), Rx excL 33 w' d l c ys → Seg a b xs ys → Eqd ys a m b → Mod (rowB d) w w' → R (.int .i64 m) w') :
    Ca Tryz.prog 116 #[.slice d l c, .int .i64 a, .int .i64 b, .int .i64 p, cv] w R := by
  refine ca116 d l c a b p cv w R ?_
  have ea : IntKind.i64.wrap ((a : Int) + 1) = ((a + 1 : Nat) : Int) := (by first | (simp only [IntKind.wrap_i64]; omega) | omega)
  have eb : IntKind.i64.wrap ((b : Int) - 1) = ((b - 1 : Nat) : Int) := (by first | (simp only [IntKind.wrap_i64]; omega) | omega)
  rw [W116, ea, eb]
  clear ea eb
  intro w0 e0
  have m0 : Mod no w w0 := by subst e0; exact Mod.drew _
  clear e0
  refine (hd.no m0).swp hc.ho hc.hs a p rfl rfl (by omega) (by omega) fun w1 h1 m1 => ?_
  have m1 := m0.no_trans m1
  have s1 : Seg a b xs (swapL xs a p) := hd.seg (by omega) (by omega) (by omega) (by omega) hap hpb
  have p1 : AtE (swapL xs a p) a (at0 xs p) := by
    refine ⟨?_⟩
    rw [at0_swapL (hd.lt (by omega)) (hd.lt (by omega))]
    by_cases e : a = p
    · rw [if_pos e, e]
    · rw [if_neg e, if_pos rfl]
  refine ⟨fun x y w' => ∃ (i j : Nat) (ys : List Exc), x = i ∧ y = j ∧ Rx excL 33 w' d l c ys ∧ Seg a b xs ys ∧ Pt ys a b i j ∧ AtE ys a (at0 xs p) ∧ Mod (rowB d) w w', fun x y _ => (y + 1 - x).toNat,
    ⟨a + 1, b - 1, _, rfl, rfl, h1, s1, ⟨Nat.le_refl _, by omega, by omega, fun k h1 h2 => by omega, fun k h1 h2 => by omega⟩, p1, m1⟩, ?_⟩
  rintro _ _ _ w2 ⟨i, j, ys, rfl, rfl, h2, s2, hpt, hp2, m2⟩
  refine ⟨fun x w' => ∃ i' : Nat, x = i' ∧ Rx excL 33 w' d l c ys ∧ Pt ys a b i' j ∧ i ≤ i' ∧ (i' ≤ j → at0 ys a < at0 ys i') ∧ Mod (rowB d) w w', ⟨fun x w' => ∃ i' : Nat, x = i' ∧ Rx excL 33 w' d l c ys ∧ Pt ys a b i' j ∧ i ≤ i' ∧ Mod (rowB d) w w',
    fun x _ => ((j : Int) + 1 - x).toNat, ⟨i, rfl, h2, hpt, Nat.le_refl _, m2⟩, ?_⟩, ?_⟩
  · rintro _ _ w3 ⟨i', rfl, h3, hp3, hi3, m3⟩ w4 e4
    have m4 : Mod no w3 w4 := by subst e4; exact Mod.drew _
    clear e4
    have hjb := hp3.jb
    have hai := hp3.ai
    have m4' := m3.trans_no m4
    refine ifK_dec (fun hle => ?_) (fun hgt => ⟨i', rfl, h3.no m4, hp3, hi3, fun h => by omega, m4'⟩)
    refine nls hc (h3.no m4) a i' rfl rfl (by omega) (by omega) (fun hge wc mc => ?_) (fun hlt wc mc => ⟨i', rfl, (h3.no m4).no mc, hp3, hi3, fun _ => hlt, m4'.trans_no mc⟩)
    exact ⟨⟨i' + 1, (by first | (simp only [IntKind.wrap_i64]; omega) | omega), (h3.no m4).no mc, hp3.up (by omega) (Lin.nlt hge), by omega, m4'.trans_no mc⟩, (by first | (simp only [IntKind.wrap_i64]; omega) | omega)⟩
  rintro _ _ w5 ⟨i5, rfl, h5, hp5, hi5, hx5, m5⟩
  refine ⟨fun x w' => ∃ j' : Nat, x = j' ∧ Rx excL 33 w' d l c ys ∧ Pt ys a b i5 j' ∧ j' ≤ j ∧ (i5 ≤ j' → at0 ys j' ≤ at0 ys a) ∧ Mod (rowB d) w w', ⟨fun x w' => ∃ j' : Nat, x = j' ∧ Rx excL 33 w' d l c ys ∧ Pt ys a b i5 j' ∧ j' ≤ j ∧ Mod (rowB d) w w',
    fun x _ => (x + 1 - (i5 : Int)).toNat, ⟨j, rfl, h5, hp5, Nat.le_refl _, m5⟩, ?_⟩, ?_⟩
  · rintro _ _ w3 ⟨j', rfl, h3, hp3, hi3, m3⟩ w4 e4
    have m4 : Mod no w3 w4 := by subst e4; exact Mod.drew _
    clear e4
    have hjb := hp3.jb
    have hai := hp3.ai
    have m4' := m3.trans_no m4
    refine ifK_dec (fun hle => ?_) (fun hgt => ⟨j', rfl, h3.no m4, hp3, hi3, fun h => by omega, m4'⟩)
    refine lss hc (h3.no m4) a j' rfl rfl (by omega) (by omega) (fun hlt wc mc => ?_) (fun hge wc mc => ⟨j', rfl, (h3.no m4).no mc, hp3, hi3, fun _ => Lin.nlt hge, m4'.trans_no mc⟩)
    exact ⟨⟨j' - 1, (by first | (simp only [IntKind.wrap_i64]; omega) | omega), (h3.no m4).no mc, hp3.down (by omega) (Lin.lle hlt), by omega, m4'.trans_no mc⟩, (by first | (simp only [IntKind.wrap_i64]; omega) | omega)⟩
  rintro _ _ w6 ⟨j6, rfl, h6, hp6, hj6, hx6, m6⟩
  have hjb := hp6.jb
  have hai := hp6.ai
  have hil := hp6.ij
  refine ifK_dec (fun hgt => ?_) (fun hle => ?_)
  · refine h w6 ys i5 h6 s2 (hp6.eqd (by omega) fun k h7 h8 => ?_) m6
    rw [hp2.eq]
    exact s2.all (hd.le hb) (P := fun v => at0 xs p ≤ v) hmin k h7 h8
  · intro w7 e7
    have m7 : Mod no w6 w7 := by subst e7; exact Mod.drew _
    clear e7
    have hlt : i5 < j6 := by
      refine Nat.lt_of_le_of_ne (by omega) fun e => ?_
      subst e
      have h7 := hx5 (by omega)
      have h8 := hx6 (by omega)
      exact absurd h7 (Lin.nle h8)
    refine (h6.no m7).swp hc.ho hc.hs i5 j6 rfl rfl (by omega) (by omega) fun w8 h8 m8 => ?_
    refine ⟨⟨i5 + 1, j6 - 1, _, (by first | (simp only [IntKind.wrap_i64]; omega) | omega), (by first | (simp only [IntKind.wrap_i64]; omega) | omega), h8, s2.trans (h6.seg (by omega) (by omega) (by omega) (by omega) (by omega) (by omega)), hp6.swap (h6.le hb) hlt (hx6 (by omega)) (Lin.lle (hx5 (by omega))), ?_, (m6.trans_no m7).trans m8⟩, (by first | (simp only [IntKind.wrap_i64]; omega) | omega)⟩
    exact ⟨by rw [at0_swapL (h6.lt (by omega)) (h6.lt (by omega)), if_neg (by omega), if_neg (by omega), hp2.eq]⟩

/-! ### Heap sort -/
theorem siftDown_ok (lo hi f : Nat) (hlo : lo ≤ hi) (hf : f + hi ≤ l) (hh : Hp xs f (lo + 1) hi) (R : Value → World → Prop)
    (h : ∀ w' ys, Rx excL 33 w' d l c ys → Seg (f + lo) (f + hi) xs ys → Hp ys f lo hi → Mod (rowB d) w w' → R (.tuple #[]) w') :
    Ca Tryz.prog 139 #[.slice d l c, .int .i64 lo, .int .i64 hi, .int .i64 f, cv] w R := by
  refine ca139 d l c lo hi f cv w R ?_
  refine ⟨fun x w' => ∃ (r : Nat) (ys : List Exc), x = r ∧ lo ≤ r ∧ (r < hi ∨ r = lo) ∧ Rx excL 33 w' d l c ys ∧ Seg (f + lo) (f + hi) xs ys ∧ Sift ys f lo hi r ∧ Mod (rowB d) w w', fun x _ => ((hi : Int) - x).toNat,
    ⟨lo, xs, rfl, Nat.le_refl _, .inr rfl, hd, Seg.refl _ _ _, Sift.start hh, Mod.refl _ _⟩, ?_⟩
  rintro _ _ w1 ⟨r, ys, rfl, hlr, hr, h1, s1, hs1, m1⟩
  refine ifK_of (fun hb => ?_) (fun hb => ?_)
  · have hb : hi ≤ 2 * r + 1 := by
      have := of_decide_eq_true hb
      clear hb
      simp only [IntKind.wrap_i64] at this
      omega
    exact h w1 ys h1 s1 (hs1.done fun k h2 h3 => by omega) m1
  have hb : 2 * r + 1 < hi := by
    have := of_decide_eq_false hb
    clear hb
    simp only [IntKind.wrap_i64] at this
    omega
  refine ⟨fun x w' => ∃ k : Nat, x = k ∧ (k = 2 * r + 1 ∨ k = 2 * r + 2) ∧ k < hi ∧ (∀ q, (q = 2 * r + 1 ∨ q = 2 * r + 2) → q < hi → at0 ys (f + q) ≤ at0 ys (f + k)) ∧ Rx excL 33 w' d l c ys ∧ Mod (rowB d) w w', ?_, ?_⟩
  · intro w2 e2
    have m2 : Mod no w1 w2 := by subst e2; exact Mod.drew _
    clear e2
    refine ifK_of (fun hcc => ?_) (fun hcc => ?_)
    · have hcc : 2 * r + 2 < hi := by
        have := of_decide_eq_true hcc
        clear hcc
        simp only [IntKind.wrap_i64] at this
        omega
      refine lss hc (h1.no m2) (f + (2 * r + 1)) (f + (2 * r + 2)) (by first | (simp only [IntKind.wrap_i64]; omega) | omega) (by first | (simp only [IntKind.wrap_i64]; omega) | omega) (by omega) (by omega) (fun hlt wc mc => ?_) (fun hge wc mc => ?_)
      · refine ⟨2 * r + 2, (by first | (simp only [IntKind.wrap_i64]; omega) | omega), .inr rfl, hcc, fun q hq hqh => ?_, (h1.no m2).no mc, (m1.trans_no m2).trans_no mc⟩
        rcases hq with rfl | rfl
        · exact Lin.lle hlt
        · exact Lin.refl _
      · refine ⟨2 * r + 1, (by first | (simp only [IntKind.wrap_i64]; omega) | omega), .inl rfl, hb, fun q hq hqh => ?_, (h1.no m2).no mc, (m1.trans_no m2).trans_no mc⟩
        rcases hq with rfl | rfl
        · exact Lin.refl _
        · exact Lin.nlt hge
    · have hcc : hi ≤ 2 * r + 2 := by
        have := of_decide_eq_false hcc
        clear hcc
        simp only [IntKind.wrap_i64] at this
        omega
      refine ⟨2 * r + 1, (by first | (simp only [IntKind.wrap_i64]; omega) | omega), .inl rfl, hb, fun q hq hqh => ?_, h1.no m2, m1.trans_no m2⟩
      rcases hq with rfl | rfl
      · exact Lin.refl _
      · omega
  rintro _ _ w3 ⟨k, rfl, hk, hkh, hmax, h3, m3⟩ w4 e4
  have m4 : Mod no w3 w4 := by subst e4; exact Mod.drew _
  clear e4
  refine nls hc (h3.no m4) (f + r) (f + k) (by first | (simp only [IntKind.wrap_i64]; omega) | omega) (by first | (simp only [IntKind.wrap_i64]; omega) | omega) (by omega) (by omega) (fun hge wc mc => ?_) (fun hlt wc mc => ?_)
  · exact h wc ys ((h3.no m4).no mc) s1 (hs1.done fun q hq hqh => Lin.tr (hmax q hq hqh) (Lin.nlt hge)) ((m3.trans_no m4).trans_no mc)
  · intro w5 e5
    have m5 : Mod no w4 w5 := by subst e5; exact mc.trans (Mod.drew _)
    clear e5
    refine ((h3.no m4).no m5).swp hc.ho hc.hs (f + r) (f + k) (by first | (simp only [IntKind.wrap_i64]; omega) | omega) (by first | (simp only [IntKind.wrap_i64]; omega) | omega) (by omega) (by omega) fun w6 h6 m6 => ?_
    refine ⟨⟨k, _, rfl, by omega, .inl hkh, h6, s1.trans (h1.seg (by omega) (by omega) (by omega) (by omega) (by omega) (by omega)), hs1.step hlr (h1.le hf) hk hkh hmax hlt, ((m3.trans_no m4).trans_no m5).trans m6⟩, by simp only; omega⟩

theorem heapSort_ok (a b : Nat) (hab : a < b) (hb : b ≤ l) (R : Value → World → Prop)
    (h : ∀ w' ys, Rx excL 33 w' d l c ys → Seg a b xs ys → Srt ys a b → Mod (rowB d) w w' → R (.tuple #[]) w') :
    Ca Tryz.prog 111 #[.slice d l c, .int .i64 a, .int .i64 b, cv] w R := by
  refine ca111 d l c a b cv w R ?_
  obtain ⟨n, rfl⟩ : ∃ n, b = a + (n + 1) := ⟨b - a - 1, by omega⟩
  have e1 : IntKind.i64.wrap (((a + (n + 1) : Nat) : Int) - a) = ((n + 1 : Nat) : Int) := (by first | (simp only [IntKind.wrap_i64]; omega) | omega)
  have e2 : IntKind.i64.wrap (((n + 1 : Nat) : Int) - 1) = (n : Int) := (by first | (simp only [IntKind.wrap_i64]; omega) | omega)
  have e3 : Int.tdiv (n : Int) 2 = ((n / 2 : Nat) : Int) := by rw [show (2 : Int) = ((2 : Nat) : Int) from rfl, ← Int.ofNat_tdiv]
  have e4 : IntKind.i64.wrap ((n / 2 : Nat) : Int) = ((n / 2 : Nat) : Int) := (by first | (simp only [IntKind.wrap_i64]; omega) | omega)
  rw [W111, e1, e2, e3, e4]
  clear e1 e2 e3 e4
  refine ⟨by decide, ?_⟩
  refine ⟨fun x w' => ∃ (i : Nat) (ys : List Exc), x = (i : Int) - 1 ∧ i ≤ n + 1 ∧ Rx excL 33 w' d l c ys ∧ Seg a (a + (n + 1)) xs ys ∧ Hp ys a i (n + 1) ∧ Mod (rowB d) w w', fun x _ => (x + 1).toNat,
    ⟨n / 2 + 1, xs, by omega, by omega, hd, Seg.refl _ _ _, fun p k h1 h2 h3 => by omega, Mod.refl _ _⟩, ?_⟩
  rintro _ _ w1 ⟨i, ys, rfl, hi, h1, s1, hp1, m1⟩
  refine ifK_dec (fun hge => ?_) (fun hlt => ?_)
  · obtain ⟨k, rfl⟩ : ∃ k, i = k + 1 := ⟨i - 1, by omega⟩
    rw [show ((k + 1 : Nat) : Int) - 1 = (k : Int) by omega]
    refine siftDown_ok cv hc d l c ys w1 h1 hl k (n + 1) a (by omega) (by omega) hp1 _ fun w2 zs h2 s2 hp2 m2 => ⟨rfl, ⟨k, zs, (by first | (simp only [IntKind.wrap_i64]; omega) | omega), by omega, h2, s1.trans (s2.mono (by omega) (by omega)), hp2, m1.trans m2⟩, (by first | (simp only [IntKind.wrap_i64]; omega) | omega)⟩
  · have : i = 0 := by omega
    subst this
    refine ⟨fun x w' => ∃ (i : Nat) (ys : List Exc), x = (i : Int) - 1 ∧ i ≤ n + 1 ∧ Rx excL 33 w' d l c ys ∧ Seg a (a + (n + 1)) xs ys ∧ Pop ys a i (n + 1) ∧ Mod (rowB d) w w', fun x _ => (x + 1).toNat,
      ⟨n + 1, ys, by omega, by omega, h1, s1, Pop.start hp1, m1⟩, ?_⟩
    rintro _ _ w2 ⟨i, ys, rfl, hi, h2, s2, hp2, m2⟩
    refine ifK_dec (fun hge => ?_) (fun hlt => ?_)
    · obtain ⟨k, rfl⟩ : ∃ k, i = k + 1 := ⟨i - 1, by omega⟩
      rw [show ((k + 1 : Nat) : Int) - 1 = (k : Int) by omega]
      intro w3 e3
      have m3 : Mod no w2 w3 := by subst e3; exact Mod.drew _
      clear e3
      refine (h2.no m3).swp hc.ho hc.hs a (a + k) rfl (by first | (simp only [IntKind.wrap_i64]; omega) | omega) (by omega) (by omega) fun w4 h4 m4 => ?_
      refine siftDown_ok cv hc d l c _ w4 h4 hl 0 k a (by omega) (by omega) (hp2.swap (by omega) (h2.le (by omega))) _ fun w5 zs h5 s5 hp5 m5 => ⟨rfl, ⟨k, zs, (by first | (simp only [IntKind.wrap_i64]; omega) | omega), by omega, h5, ?_, hp2.step (by omega) (h2.le (by omega)) s5 hp5, ((m2.trans_no m3).trans m4).trans m5⟩, (by first | (simp only [IntKind.wrap_i64]; omega) | omega)⟩
      exact (s2.trans (h2.seg (by omega) (by omega) (by omega) (by omega) (by omega) (by omega))).trans (s5.mono (by omega) (by omega))
    · have : i = 0 := by omega
      subst this
      exact h w2 ys h2 s2 hp2.done m2
end

/-! ### Scattering -/
theorem wrapU (x : Int) : IntKind.wrap .u64 x = x % 18446744073709551616 := by simp [IntKind.wrap, IntKind.bits, IntKind.signed]
theorem nextPow_ok (n : Nat) (hn : 0 < n) (hl : n < 4611686018427387904) (w : World) (R : Value → World → Prop) (h : ∀ k : Nat, k ≤ 2 * n → 0 < k → R (.int .u64 k) w) : Ca Tryz.prog 140 #[.int .i64 n] w R := by
  refine ca140 n w R ?_
  have e1 : IntKind.wrap .u64 (n : Int) = n := by rw [wrapU]; omega
  rw [W140, e1]
  clear e1
  refine bitsLen_ok n w _ fun k hk => ⟨_, rfl, by omega, ?_⟩
  obtain ⟨h1, h2⟩ := hk (by omega) (by omega)
  have h3 : ((2 ^ k : Nat) : Int) ≤ 2 * n := by simpa using h2
  have h4 : 0 < 2 ^ k := Nat.pow_pos (by decide)
  have e2 : IntKind.wrap .u64 (1 * 2 ^ min (Int.toNat (k : Int)) 64) = ((2 ^ k : Nat) : Int) := by
    have e3 : min (Int.toNat (k : Int)) 64 = k := by omega
    have e4 : (1 : Int) * 2 ^ k = ((2 ^ k : Nat) : Int) := by simp
    rw [e3, e4, wrapU]
    omega
  rw [e2]
  exact h _ (by omega) h4
theorem xorNext_ok (s : Nat) (t : TypeId) (n : Int) (w : World) (hs : w.heap[s]? = some (.cells #[.int .u64 n] t (0, 0))) (R : Value → World → Prop)
    (h : ∀ w' (n' : Int), w'.heap[s]? = some (.cells #[.int .u64 n'] t (0, 0)) → Mod (on s) w w' → R (.int .u64 n') w') : Ca Tryz.prog 141 #[.pointer (some ⟨s, 0, none⟩)] w R := by
  refine ca141 (some ⟨s, 0, none⟩) w R ?_
  have step : ∀ (w : World) (n m : Int) (K : World → Prop), w.heap[s]? = some (.cells #[.int .u64 n] t (0, 0)) → (∀ w', w'.heap[s]? = some (.cells #[.int .u64 m] t (0, 0)) → Mod (on s) w w' → K w') →
      (∃ v : Value, w.cell? (Addr.add ⟨s, 0, none⟩ 0) = some v) ∧ w.frozen? (Addr.add ⟨s, 0, none⟩ 0) = false ∧ atW (w.setCell (Addr.add ⟨s, 0, none⟩ 0) (.int .u64 m)) K := by
    intro w n m K hs hK
    refine ⟨⟨_, by rw [cl1 hs]; rfl⟩, fz1 hs _, fun w' e => ?_⟩
    subst e
    exact hK _ (set1 hs 0 _) (Mod.set1 _ _ _ _)
  intro w0 e0
  have m0 : Mod no w w0 := by subst e0; exact Mod.drew _
  clear e0
  have hs0 := m0.at' hs
  refine ⟨n, by rw [cl hs0]; rfl, n, by rw [cl hs0]; rfl, by decide, step w0 n _ _ hs0 fun w1 hs1 m1 => ?_⟩
  intro w2 e2
  have m2 : Mod no w1 w2 := by subst e2; exact Mod.drew _
  clear e2
  have hs2 := m2.at' hs1
  refine ⟨_, by rw [cl hs2]; rfl, _, by rw [cl hs2]; rfl, by decide, step w2 _ _ _ hs2 fun w3 hs3 m3 => ?_⟩
  intro w4 e4
  have m4 : Mod no w3 w4 := by subst e4; exact Mod.drew _
  clear e4
  have hs4 := m4.at' hs3
  refine ⟨_, by rw [cl hs4]; rfl, _, by rw [cl hs4]; rfl, by decide, step w4 _ _ _ hs4 fun w5 hs5 m5 => ?_⟩
  exact ⟨_, by rw [cl hs5]; rfl, h w5 _ hs5 (((((m0.no_trans m1).trans_no m2).trans m3).trans_no m4).trans m5)⟩

theorem and_le (x y : Int) (k : Nat) (hy : y = k) (hk : k < 18446744073709551616) : ((BitVec.ofInt 64 x &&& BitVec.ofInt 64 y).toNat) ≤ k := by
  rw [BitVec.toNat_and]
  refine Nat.le_trans Nat.and_le_right ?_
  rw [hy, BitVec.toNat_ofInt]
  omega
theorem breakP_ok (cv : Value) (hc : Cmp cv) (d : Option Addr) (l c : Nat) (xs : List Exc) (w : World) (hd : Rx excL 33 w d l c xs) (hl : l < 4611686018427387904) (a b : Nat) (hab : a + 8 ≤ b) (hb : b ≤ l) (R : Value → World → Prop)
    (h : ∀ w' ys, Rx excL 33 w' d l c ys → Seg a b xs ys → Mod (rowB d) w w' → R (.tuple #[]) w') :
    Ca Tryz.prog 112 #[.slice d l c, .int .i64 a, .int .i64 b, cv] w R := by
  refine ca112 d l c a b cv w R ?_
  obtain ⟨elen, e4, ei, ej, ek⟩ := piv_eqs a b l (by omega) hb hl
  rw [W112]
  simp only [elen, e4, ej]
  clear elen e4 ei ej ek
  have hq : a + (b - a) / 4 * 2 + 1 < b ∧ a + 1 ≤ a + (b - a) / 4 * 2 := by omega
  generalize a + (b - a) / 4 * 2 = mid at hq
  have em : IntKind.i64.wrap ((mid : Int) - 1) = ((mid - 1 : Nat) : Int) := (by first | (simp only [IntKind.wrap_i64]; omega) | omega)
  have ep : IntKind.i64.wrap ((mid : Int) + 1) = ((mid + 1 : Nat) : Int) := (by first | (simp only [IntKind.wrap_i64]; omega) | omega)
  rw [em, ep]
  clear em ep
  refine ifK_of (fun _ => ?_) (fun hn => absurd (of_decide_eq_false hn) (by omega))
  intro w0 e0
  have m0 : Mod no w w0 := by subst e0; exact Mod.alloc _ _
  have hs0 : ∃ t, w0.heap[w.heap.size]? = some (.cells #[.int .u64 0] t (0, 0)) := by subst e0; exact ⟨_, new_at _ _⟩
  clear e0
  obtain ⟨t, hs0⟩ := hs0
  have hne : ¬ rowB d w.heap.size := Rx.nblk hd
  refine ⟨⟨_, by rw [cl1 hs0]; rfl⟩, fz1 hs0 _, ?_⟩
  intro w2 e2
  have m2 : Mod (on w.heap.size) w0 w2 := by subst e2; exact Mod.set1 _ _ _ _
  have hs2 : ∃ n : Int, w2.heap[w.heap.size]? = some (.cells #[.int .u64 n] t (0, 0)) := by subst e2; exact ⟨_, set1 hs0 0 _⟩
  clear e2
  have m02 : Mod no w w2 := m0.new m2 fun k hk => by cases hk; exact Nat.le_refl _
  refine nextPow_ok (b - a) (by omega) (by omega) w2 _ fun k hk hk0 => ⟨_, rfl, by decide, ?_⟩
  refine ⟨fun x w' => ∃ (i : Nat) (n : Int) (ys : List Exc), x = i ∧ mid - 1 ≤ i ∧ i ≤ mid + 2 ∧ w'.heap[w.heap.size]? = some (.cells #[.int .u64 n] t (0, 0)) ∧ Rx excL 33 w' d l c ys ∧ Seg a b xs ys ∧ Mod (fun k => rowB d k ∨ k = w.heap.size) w w', fun x _ => ((mid : Int) + 2 - x).toNat, ?_, ?_⟩
  · obtain ⟨n, hs2⟩ := hs2
    exact ⟨mid - 1, n, xs, rfl, Nat.le_refl _, by omega, hs2, hd.no m02, Seg.refl _ _ _, m02.of_no⟩
  rintro _ _ w3 ⟨i, n, ys, rfl, hi1, hi2, hs3, h3, s3, m3⟩
  have m3' : Mod (rowB d) w w3 := m3.mono fun k hk h => by
    rcases h with h | h
    · exact h
    · omega
  refine ⟨by decide, ifK_dec (fun hle => ?_) (fun hgt => h w3 ys h3 s3 m3')⟩
  refine xorNext_ok _ t n w3 hs3 _ fun w4 n4 hs4 m4 => ⟨_, rfl, ?_⟩
  have h4 : Rx excL 33 w4 d l c ys := h3.mod m4 fun k hk he => hne (by cases he; exact hk)
  have hand : IntKind.wrap .u64 ((k : Int) - 1) = ((k - 1 : Nat) : Int) := by rw [wrapU]; omega
  rw [hand]
  have hale := and_le n4 ((k - 1 : Nat) : Int) (k - 1) rfl (by omega)
  generalize ((BitVec.ofInt 64 n4 &&& BitVec.ofInt 64 ((k - 1 : Nat) : Int)).toNat) = o at hale
  have e5 : IntKind.wrap .i64 (IntKind.wrap .u64 (o : Int)) = o := by rw [wrapU, IntKind.wrap_i64]; omega
  rw [e5]
  clear e5
  refine ⟨fun x w' => ∃ q : Nat, x = q ∧ q < b - a ∧ w' = w4, ifK_dec (fun hge => ⟨o - (b - a), (by first | (simp only [IntKind.wrap_i64]; omega) | omega), by omega, rfl⟩) (fun hlt => ⟨o, rfl, by omega, rfl⟩), ?_⟩
  rintro _ _ _ ⟨q, rfl, hq1, rfl⟩ w5 e5
  rename_i w4
  have m5 : Mod no w4 w5 := by subst e5; exact Mod.drew _
  clear e5
  refine (h4.no m5).swp hc.ho hc.hs i (a + q) rfl (by first | (simp only [IntKind.wrap_i64]; omega) | omega) (by omega) (by omega) fun w6 h6 m6 => ?_
  have hs6 : w6.heap[w.heap.size]? = some (.cells #[.int .u64 n4] t (0, 0)) := m6.at (m5.at' hs4) hne
  clear hale hk hk0 hand
  have e8 : IntKind.i64.wrap ((i : Int) + 1) = ((i + 1 : Nat) : Int) := (by first | (simp only [IntKind.wrap_i64]; omega) | omega)
  rw [e8]
  clear e8
  exact ⟨⟨i + 1, n4, _, rfl, by omega, by omega, hs6, h6, s3.trans (h4.seg (by omega) (by omega) (by omega) (by omega) (by omega) (by omega)),
    ((m3.trans (m4.mono fun k _ h => .inr h)).trans_no m5).trans (m6.mono fun k _ h => .inl h)⟩, by simp only; omega⟩
end Go.Proofs.YtehhhkcemmfjpaaGreatDoor.SrtX

/- The formulas of functions, printed by a program of mine (gen.py) out of the translation. -/
namespace Go.Proofs.YtehhhkcemmfjpaaGreatDoor
open Go Go.Proofs.YtehhhkcemmfjpaaGreatDoor.St
open _root_.Go.Value (string int bool slice pointer agg tuple map func nilFunc iface)
open _root_.Go.World (cell? frozen? setCell alloc drew)
open _root_.Go.Addr (add)
open _root_.Go.Obj (cells)
open _root_.Go.IntKind (wrap i64 u64 i32 u32 u8)
set_option maxRecDepth 100000

/-- slices.pdqsortCmpFunc[staith/api.Exchange] -/
noncomputable def C99 : Code := (Tryz.f99.body).getD .skip
def pl99 : Nat → Plan
  | 17 => (.quiet 0 (.quiet 1 (.quiet 2 (.quiet 3 (.quiet 4 (.quiet 5 (.quiet 6 (.quiet 7 (.quiet 8 (.quiet 9 (.quiet 10 (.quiet 11 (.quiet 12 (.eff 13 [] (.quiet 14 (.quiet 15 (.quiet 16 .done)))))))))))))))))
  | _ => .done
def ls99 : Nat → List (Nat × LT)
  | 2 => [(1, (.one (.int .i64))), (2, (.one (.int .i64))), (3, (.one (.int .i64))), (10, (.one .bool)), (11, (.one .bool))]
  | 10 => [(0, .agg []), (3, (.one (.int .i64)))]
  | 14 => [(0, .agg []), (13, (.one (.int .i64))), (14, (.one (.int .i64)))]
  | 18 => [(0, .agg [])]
  | 21 => [(0, .agg []), (1, (.one (.int .i64)))]
  | _ => []
def W99 (dataa : Option Addr) (datal : Nat) (datac : Nat) (a_ : Int) (b : Int) (limit : Int) (cmp : Value) (w : World) (R : Value → World → Prop) : Prop :=
  (∃ z0 : Int → Int → Int → Bool → Bool → World → Prop, (∃ z1 : Int → Int → Int → Bool → Bool → World → Nat, ((z0 (a_) (b) (limit) (true) (true) (w)) ∧ (∀ (_ : Nat → Value), (∀ (x3 : Int), (∀ (x4 : Int), (∀ (x5 : Int), (∀ (b6 : Bool), (∀ (b7 : Bool), (∀ (w8 : World), ((z0 (x3) (x4) (x5) (b6) (b7) (w8)) → (ifK (decide (wrap i64 (x4 - x3) ≤ 12))
(Ca Tryz.prog (110) (Array.mk [slice dataa datal datac, int i64 x3, int i64 x4, cmp]) (w8) (fun v9 => (fun w10 =>
((v9 = tuple (Array.mk (List.reverse []))) ∧ (R (tuple (Array.mk (List.reverse []))) (w10))))))
(ifK (x5 == 0)
(Ca Tryz.prog (111) (Array.mk [slice dataa datal datac, int i64 x3, int i64 x4, cmp]) (w8) (fun v11 => (fun w12 =>
((v11 = tuple (Array.mk (List.reverse []))) ∧ (R (tuple (Array.mk (List.reverse []))) (w12))))))
(∃ z13 : Int → World → Prop, ((ifK (!b6)
(Ca Tryz.prog (112) (Array.mk [slice dataa datal datac, int i64 x3, int i64 x4, cmp]) (w8) (fun v14 => (fun w15 =>
((v14 = tuple (Array.mk (List.reverse []))) ∧ (z13 (wrap i64 (x5 - 1)) (w15))))))
(z13 (x5) (w8))) ∧ (∀ (_ : Nat → Value), (∀ (x17 : Int), (∀ (w18 : World), ((z13 (x17) (w18)) → (Ca Tryz.prog (113) (Array.mk [slice dataa datal datac, int i64 x3, int i64 x4, cmp]) (w18) (fun v19 => (fun w20 =>
(∃ x21 : Int, (∃ x22 : Int, ((v19 = tuple (Array.mk (List.reverse [int i64 x22, int i64 x21]))) ∧ (∃ z23 : Int → Int → World → Prop, ((ifK (x22 == 2)
(Ca Tryz.prog (114) (Array.mk [slice dataa datal datac, int i64 x3, int i64 x4, cmp]) (w20) (fun v24 => (fun w25 =>
((v24 = tuple (Array.mk (List.reverse []))) ∧ (z23 (wrap i64 (wrap i64 (x4 - 1) - wrap i64 (x21 - x3))) (1) (w25))))))
(z23 (x21) (x22) (w20))) ∧ (∀ (_ : Nat → Value), (∀ (x27 : Int), (∀ (x28 : Int), (∀ (w29 : World), ((z23 (x27) (x28) (w29)) → (∃ z30 : World → Prop, ((ifK (b6)
(ifK (b7)
(ifK (x28 == 1)
(Ca Tryz.prog (115) (Array.mk [slice dataa datal datac, int i64 x3, int i64 x4, cmp]) (w29) (fun v31 => (fun w32 =>
(∃ b33 : Bool, ((v31 = bool b33) ∧ (ifK (b33)
(R (tuple (Array.mk (List.reverse []))) (w32))
(z30 (w32))))))))
(z30 (w29)))
(z30 (w29)))
(z30 (w29))) ∧ (∀ (_ : Nat → Value), (∀ (w35 : World), ((z30 (w35)) → (∃ z36 : Int → World → Prop, ((atW (drew w35) (fun w37 =>
(ifK (decide (x3 > 0))
(∃ a38 : Addr, ((dataa = some a38) ∧ (((0 : Int) ≤ wrap i64 (x3 - 1)) ∧ (((wrap i64 (x3 - 1) : Int) < (↑datal : Int)) ∧ (ldW Tryz.prog 33 (pointer (some (add a38 (Int.toNat (wrap i64 (x3 - 1)) * 3)))) (w37) (fun v39 =>
(∃ a40 : Addr, ((dataa = some a40) ∧ (((0 : Int) ≤ x27) ∧ (((x27 : Int) < (↑datal : Int)) ∧ (ldW Tryz.prog 33 (pointer (some (add a40 (Int.toNat x27 * 3)))) (w37) (fun v41 =>
(CaV Tryz.prog (cmp) (Array.mk [v39, v41]) (w37) (fun v42 => (fun w43 =>
(∃ x44 : Int, ((v42 = int i64 x44) ∧ (ifK (!decide (x44 < 0))
(Ca Tryz.prog (116) (Array.mk [slice dataa datal datac, int i64 x3, int i64 x4, int i64 x27, cmp]) (w43) (fun v45 => (fun w46 =>
(∃ x47 : Int, ((v45 = int i64 x47) ∧ ((z0 (x47) (x4) (x17) (b6) (b7) (w46)) ∧ (z1 x47 x4 x17 b6 b7 w46 < z1 x3 x4 x5 b6 b7 w8)))))))
(z36 (x3) (w43))))))))))))))))))))
(z36 (x3) (w37))))) ∧ (∀ (_ : Nat → Value), (∀ (x49 : Int), (∀ (w50 : World), ((z36 (x49) (w50)) → (Ca Tryz.prog (117) (Array.mk [slice dataa datal datac, int i64 x49, int i64 x4, int i64 x27, cmp]) (w50) (fun v51 => (fun w52 =>
(∃ x53 : Int, (∃ b54 : Bool, ((v51 = tuple (Array.mk (List.reverse [bool b54, int i64 x53]))) ∧ (((8 : Int) ≠ 0) ∧ (ifK (decide (wrap i64 (x53 - x49) < wrap i64 (x4 - x53)))
(Ca Tryz.prog (99) (Array.mk [slice dataa datal datac, int i64 x49, int i64 x53, int i64 x17, cmp]) (w52) (fun v55 => (fun w56 =>
((v55 = tuple (Array.mk (List.reverse []))) ∧ ((z0 (wrap i64 (x53 + 1)) (x4) (x17) (decide (wrap i64 (x53 - x49) ≥ wrap i64 (Int.tdiv (wrap i64 (x4 - x3)) 8))) (b54) (w56)) ∧ (z1 (wrap i64 (x53 + 1)) x4 x17 (decide (wrap i64 (x53 - x49) ≥ wrap i64 (Int.tdiv (wrap i64 (x4 - x3)) 8))) b54 w56 < z1 x3 x4 x5 b6 b7 w8))))))
(Ca Tryz.prog (99) (Array.mk [slice dataa datal datac, int i64 (wrap i64 (x53 + 1)), int i64 x4, int i64 x17, cmp]) (w52) (fun v57 => (fun w58 =>
((v57 = tuple (Array.mk (List.reverse []))) ∧ ((z0 (x49) (x53) (x17) (decide (wrap i64 (x4 - x53) ≥ wrap i64 (Int.tdiv (wrap i64 (x4 - x3)) 8))) (b54) (w58)) ∧ (z1 x49 x53 x17 (decide (wrap i64 (x4 - x53) ≥ wrap i64 (Int.tdiv (wrap i64 (x4 - x3)) 8))) b54 w58 < z1 x3 x4 x5 b6 b7 w8)))))))))))))))))))))))))))))))))))))))))))))))))))))))))
theorem ca99 (dataa : Option Addr) (datal : Nat) (datac : Nat) (a_ : Int) (b : Int) (limit : Int) (cmp : Value) (w : World) (R : Value → World → Prop) (h : W99 dataa datal datac a_ b limit cmp w R) : Ca Tryz.prog 99 ⟨[(.slice dataa datal datac), (.int .i64 a_), (.int .i64 b), (.int .i64 limit), cmp]⟩ w R :=
  caB (fn := Tryz.f99) (pl := pl99) (ls := ls99) Tryz.func99 (by kernel_rfl) (by kernel_rfl) h

/-- slices.SortFunc[[]staith/api.Exchange,staith/api.Exchange] -/
noncomputable def C76 : Code := (Tryz.f76.body).getD .skip
def pl76 : Nat → Plan := fun _ => .done
def ls76 : Nat → List (Nat × LT) := fun _ => []
def W76 (xa : Option Addr) (xl : Nat) (xc : Nat) (cmp : Value) (w : World) (R : Value → World → Prop) : Prop :=
  (Ca Tryz.prog (100) (Array.mk [int u64 (wrap u64 (↑xl : Int))]) (w) (fun v0 => (fun w1 =>
(∃ x2 : Int, ((v0 = int i64 x2) ∧ (Ca Tryz.prog (99) (Array.mk [slice xa xl xc, int i64 0, int i64 (↑xl : Int), int i64 x2, cmp]) (w1) (fun v3 => (fun w4 =>
((v3 = tuple (Array.mk (List.reverse []))) ∧ (R (tuple (Array.mk (List.reverse []))) (w4)))))))))))
theorem ca76 (xa : Option Addr) (xl : Nat) (xc : Nat) (cmp : Value) (w : World) (R : Value → World → Prop) (h : W76 xa xl xc cmp w R) : Ca Tryz.prog 76 ⟨[(.slice xa xl xc), cmp]⟩ w R :=
  caB (fn := Tryz.f76) (pl := pl76) (ls := ls76) Tryz.func76 (by kernel_rfl) (by kernel_rfl) h
end Go.Proofs.YtehhhkcemmfjpaaGreatDoor

/- The library's general sort, at one type: sorting what is nearly sorted; the sort itself. -/
namespace Go.Proofs.YtehhhkcemmfjpaaGreatDoor.SrtX
open Go Go.Proofs.YtehhhkcemmfjpaaGreatDoor Go.Proofs.YtehhhkcemmfjpaaGreatDoor.St

theorem wS {i : Nat} (h : i < 4611686018427387904) : IntKind.i64.wrap ((i : Int) + 1) = ((i + 1 : Nat) : Int) := by rw [wrap64 (by omega) (by omega)]; rfl
theorem wP {i : Nat} (h : i < 4611686018427387904) (h0 : 0 < i) : IntKind.i64.wrap ((i : Int) - 1) = ((i - 1 : Nat) : Int) := by rw [wrap64 (by omega) (by omega)]; omega
theorem wD {i j : Nat} (h : i < 4611686018427387904) (h0 : j ≤ i) : IntKind.i64.wrap ((i : Int) - (j : Int)) = ((i - j : Nat) : Int) := by rw [wrap64 (by omega) (by omega)]; omega

section
variable (cv : Value) (hc : Cmp cv) (d : Option Addr) (l c : Nat) (xs : List Exc) (w : World) (hd : Rx excL 33 w d l c xs) (hl : l < 4611686018427387904)
include hc hd hl

theorem partial_ok (a b : Nat) (hab : a < b) (hb : b ≤ l) (hbel : Bel xs a b) (R : Value → World → Prop)
    (h : ∀ w' ys (q : Bool), Rx excL 33 w' d l c ys → Seg a b xs ys → (q = true → Srt ys a b) → Mod (rowB d) w w' → R (.bool q) w') :
    Ca Tryz.prog 115 #[.slice d l c, .int .i64 a, .int .i64 b, cv] w R := by
  refine ca115 d l c a b cv w R ?_
  rw [W115, wS (by omega)]
  refine ⟨fun x y w' => ∃ (i j : Nat) (ys : List Exc), x = i ∧ y = j ∧ a < i ∧ i ≤ b ∧ j ≤ 5 ∧ Rx excL 33 w' d l c ys ∧ Seg a b xs ys ∧ Srt ys a i ∧ Mod (rowB d) w w', fun _ y _ => (5 - y).toNat,
    ⟨a + 1, 0, xs, rfl, rfl, by omega, by omega, by omega, hd, Seg.refl _ _ _, Srt.nil _ _ _ (Nat.le_refl _), Mod.refl _ _⟩, ?_⟩
  rintro _ _ _ w1 ⟨i0, j0, ys, rfl, rfl, hi1, hi2, hj5, h1, s1, srt1, m1⟩
  refine ifK_dec (fun hlt => ?_) (fun _ => h w1 ys false h1 s1 (fun h => by cases h) m1)
  have hj : (j0 : Int) < 5 := hlt
  clear hlt
  -- as long as it rises
  refine ⟨fun x w' => ∃ i : Nat, x = i ∧ a < i ∧ i ≤ b ∧ Rx excL 33 w' d l c ys ∧ Srt ys a i ∧ (i < b → at0 ys i < at0 ys (i - 1)) ∧ Mod (rowB d) w w', ⟨fun x w' => ∃ i : Nat, x = i ∧ a < i ∧ i ≤ b ∧ Rx excL 33 w' d l c ys ∧ Srt ys a i ∧ Mod (rowB d) w w',
    fun x _ => ((b : Int) - x).toNat, ⟨i0, rfl, hi1, hi2, h1, srt1, m1⟩, ?_⟩, ?_⟩
  · rintro _ _ w2 ⟨i, rfl, h3, h4, h2, srt2, m2⟩ w3 e3
    have m3 : Mod no w2 w3 := by subst e3; exact Mod.drew _
    clear e3
    refine ifK_dec (fun hib => ?_) (fun hib => ⟨i, rfl, h3, h4, h2.no m3, srt2, fun h => by omega, m2.trans_no m3⟩)
    have hib : i < b := by omega
    rw [wS (i := i) (by omega), wP (i := i) (by omega) (by omega)]
    refine nls hc (h2.no m3) i (i - 1) rfl rfl (by omega) (by omega) (fun hge wc mc => ⟨⟨i + 1, rfl, by omega, by omega, (h2.no m3).no mc, (Ins.start srt2).done (.inr (Lin.nlt hge)), (m2.trans_no m3).trans_no mc⟩, by simp only; omega⟩)
      (fun hls wc mc => ⟨i, rfl, h3, h4, (h2.no m3).no mc, srt2, fun _ => hls, (m2.trans_no m3).trans_no mc⟩)
  rintro _ _ w4 ⟨i, rfl, h3, h4, h2, srt2, hls, m2⟩
  refine ifK_eq (fun hib => ?_) (fun hib => ?_)
  · have hib : i = b := by omega
    subst hib
    exact h w4 ys true h2 s1 (fun _ => srt2) m2
  have hib : i < b := by omega
  have hls := hls hib
  rw [wD (i := b) (j := a) (by omega) (by omega), wD (i := i) (j := a) (by omega) (by omega), wD (i := b) (j := i) (by omega) (by omega), wS (i := i) (by omega), wS (i := j0) (by omega), wP (i := i) (by omega) (by omega)]
  refine ifK_of (fun _ => h w4 ys false h2 s1 (fun h => by cases h) m2) (fun _ => ?_)
  intro w5 e5
  have m5 : Mod no w4 w5 := by subst e5; exact Mod.drew _
  clear e5
  refine (h2.no m5).swp hc.ho hc.hs i (i - 1) rfl rfl (by omega) (by omega) fun w6 h6 m6 => ?_
  have s6 : Seg a b xs (swapL ys i (i - 1)) := s1.trans (h2.seg (by omega) (by omega) (by omega) (by omega) (by omega) (by omega))
  have m6 := (m2.trans_no m5).trans m6
  have srt6 : Srt (swapL ys i (i - 1)) a (i - 1) := by
    intro p q h7 h8 h9
    rw [at0_swapL (h2.lt (by omega)) (h2.lt (by omega)), at0_swapL (h2.lt (by omega)) (h2.lt (by omega)), if_neg (by omega), if_neg (by omega), if_neg (by omega), if_neg (by omega)]
    exact srt2 p q h7 h8 (by omega)
  -- the smaller one to the left
  refine ⟨fun w' => ∃ zs, Rx excL 33 w' d l c zs ∧ Seg a b xs zs ∧ Srt zs a i ∧ Mod (rowB d) w w', ?_, ?_⟩
  · refine ifK_dec (fun hge => ?_) (fun hlt => ⟨_, h6, s6, Srt.nil _ _ _ (by omega), m6⟩)
    refine ⟨fun x w' => ∃ (j : Nat) (zs : List Exc), x = j ∧ a ≤ j ∧ j + 1 ≤ i ∧ Rx excL 33 w' d l c zs ∧ Seg a b xs zs ∧ Ins zs a (i - 1) j ∧ Mod (rowB d) w w', fun x _ => x.toNat,
      ⟨i - 1, _, rfl, by omega, by omega, h6, s6, Ins.start srt6, m6⟩, ?_⟩
    rintro _ _ w7 ⟨j, zs, rfl, hj1, hj2, h7, s7, ins7, m7⟩
    have fin : (j ≤ a ∨ at0 zs (j - 1) ≤ at0 zs j) → Srt zs a i := fun hh => by
      have := ins7.done hh
      rwa [Nat.sub_add_cancel (by omega)] at this
    refine ifK_dec (fun hj0 => ?_) (fun hj0 => ⟨zs, h7, s7, fin (.inl (by omega)), m7⟩)
    have hj0 : 0 < j := by omega
    intro w8 e8
    have m8 : Mod no w7 w8 := by subst e8; exact Mod.drew _
    clear e8
    rw [wP (i := j) (by omega) hj0]
    refine nls hc (h7.no m8) j (j - 1) rfl rfl (by omega) (by omega) (fun hge wc mc => ⟨zs, (h7.no m8).no mc, s7, fin (.inr (Lin.nlt hge)), (m7.trans_no m8).trans_no mc⟩) (fun hlt wc mc => ?_)
    have haj : a < j := by
      refine Nat.lt_of_le_of_ne hj1 fun e => ?_
      subst e
      exact absurd hlt (Lin.nle ((hbel.seg s7 (hd.le hb)) hj0 a (Nat.le_refl _) hab))
    intro w9 e9
    have m9 : Mod no w8 w9 := by subst e9; exact mc.trans (Mod.drew _)
    clear e9
    refine ((h7.no m8).no m9).swp hc.ho hc.hs j (j - 1) rfl rfl (by omega) (by omega) fun w10 h10 m10 => ?_
    exact ⟨⟨j - 1, _, rfl, by omega, by omega, h10, s7.trans (h7.seg (by omega) (by omega) (by omega) (by omega) (by omega) (by omega)), ins7.step (h7.lt (by omega)) haj (by omega) hlt, ((m7.trans_no m8).trans_no m9).trans m10⟩, by simp only; omega⟩
  -- the greater one to the right
  rintro _ w11 ⟨zs, h11, s11, srt11, m11⟩
  have next : ∀ (w' : World) (us : List Exc), Rx excL 33 w' d l c us → Seg a b xs us → Srt us a i → Mod (rowB d) w w' →
      (∃ (i' j' : Nat) (ys : List Exc), (i : Int) = i' ∧ ((j0 + 1 : Nat) : Int) = j' ∧ a < i' ∧ i' ≤ b ∧ j' ≤ 5 ∧ Rx excL 33 w' d l c ys ∧ Seg a b xs ys ∧ Srt ys a i' ∧ Mod (rowB d) w w') ∧ (5 - ((j0 + 1 : Nat) : Int)).toNat < (5 - (j0 : Int)).toNat := by
    intro w' us hu su srtu mu
    exact ⟨⟨i, j0 + 1, us, rfl, rfl, h3, h4, by omega, hu, su, srtu, mu⟩, by omega⟩
  refine ifK_of (fun hge => ?_) (fun _ => next w11 zs h11 s11 srt11 m11)
  refine ⟨fun x w' => ∃ (j : Nat) (us : List Exc), x = j ∧ i < j ∧ j ≤ b ∧ Rx excL 33 w' d l c us ∧ Seg a b xs us ∧ Srt us a i ∧ Mod (rowB d) w w', fun x _ => ((b : Int) - x).toNat,
    ⟨i + 1, zs, rfl, by omega, by omega, h11, s11, srt11, m11⟩, ?_⟩
  rintro _ _ w12 ⟨j, us, rfl, hj1, hj2, h12, s12, srt12, m12⟩
  refine ifK_dec (fun hjb => ?_) (fun _ => next w12 us h12 s12 srt12 m12)
  have hjb : j < b := by omega
  intro w13 e13
  have m13 : Mod no w12 w13 := by subst e13; exact Mod.drew _
  clear e13
  rw [wP (i := j) (by omega) (by omega), wS (i := j) (by omega)]
  refine nls hc (h12.no m13) j (j - 1) rfl rfl (by omega) (by omega) (fun _ wc mc => next wc us ((h12.no m13).no mc) s12 srt12 ((m12.trans_no m13).trans_no mc)) (fun hlt wc mc => ?_)
  intro w14 e14
  have m14 : Mod no w13 w14 := by subst e14; exact mc.trans (Mod.drew _)
  clear e14
  refine ((h12.no m13).no m14).swp hc.ho hc.hs j (j - 1) rfl rfl (by omega) (by omega) fun w15 h15 m15 => ?_
  have s15 : Seg i b us (swapL us j (j - 1)) := h12.seg (by omega) (by omega) (by omega) (by omega) (by omega) (by omega)
  exact ⟨⟨j + 1, _, rfl, by omega, by omega, h15, s12.trans (s15.mono (by omega) (Nat.le_refl _)), srt12.of_out s15 (.inl (Nat.le_refl _)), ((m12.trans_no m13).trans_no m14).trans m15⟩, by simp only; omega⟩
end

/-- The general sort. -/
theorem pdq_ok (cv : Value) (hc : Cmp cv) (d : Option Addr) (l c : Nat) (hl : l < 4611686018427387904) : ∀ (n a b : Nat) (lim : Int) (xs : List Exc) (w : World), b - a ≤ n → Rx excL 33 w d l c xs → a ≤ b → b ≤ l → Bel xs a b → ∀ R : Value → World → Prop,
    (∀ w' ys, Rx excL 33 w' d l c ys → Seg a b xs ys → Srt ys a b → Mod (rowB d) w w' → R (.tuple #[]) w') →
    Ca Tryz.prog 99 #[.slice d l c, .int .i64 a, .int .i64 b, .int .i64 lim, cv] w R := by
  intro n
  induction n using Nat.strongRecOn with
  | _ n ih =>
  intro a b lim xs w hn hd hab hb hbel R h
  refine ca99 d l c a b lim cv w R ?_
  refine ⟨fun x y _ _ _ w' => ∃ (a' b' : Nat) (ys : List Exc), x = a' ∧ y = b' ∧ a ≤ a' ∧ a' ≤ b' ∧ b' ≤ b ∧ Rx excL 33 w' d l c ys ∧ Seg a b xs ys ∧ Alm ys a b a' b' ∧ Bel ys a' b' ∧ Mod (rowB d) w w', fun x y _ _ _ _ => (y - x).toNat,
    ⟨a, b, xs, rfl, rfl, Nat.le_refl _, hab, Nat.le_refl _, hd, Seg.refl _ _ _, Alm.start _ _ _, hbel, Mod.refl _ _⟩, ?_⟩
  rintro _ _ _ lim' b6 b7 w1 ⟨a', b', ys, rfl, rfl, ha, hab', hb', h1, s1, alm1, bel1, m1⟩
  have sorted : ∀ w' zs, Rx excL 33 w' d l c zs → Seg a' b' ys zs → Srt zs a' b' → Mod (rowB d) w1 w' → R (.tuple #[]) w' := fun w' zs hz sz srt mz =>
    h w' zs hz (s1.trans (sz.mono ha hb')) ((alm1.seg sz ha hb' (h1.le hb)).full srt) (m1.trans mz)
  rw [wD (i := b') (j := a') (by omega) hab']
  refine ifK_dec (fun _ => ?_) (fun hlen => ?_)
  · exact insertion_ok cv hc d l c a' b' ys w1 h1 hab' (by omega) hl _ fun w2 zs h2 s2 srt2 m2 => ⟨rfl, sorted w2 zs h2 s2 srt2 m2⟩
  have hlen : a' + 12 < b' := by omega
  refine ifK_of (fun _ => ?_) (fun _ => ?_)
  · exact heapSort_ok cv hc d l c ys w1 h1 hl a' b' (by omega) (by omega) _ fun w2 zs h2 s2 srt2 m2 => ⟨rfl, sorted w2 zs h2 s2 srt2 m2⟩
  -- a part of another order is as good
  refine ⟨fun _ w' => ∃ zs, Rx excL 33 w' d l c zs ∧ Seg a' b' ys zs ∧ Mod (rowB d) w1 w', ?_, ?_⟩
  · refine ifK_of (fun _ => ?_) (fun _ => ⟨ys, h1, Seg.refl _ _ _, Mod.refl _ _⟩)
    exact breakP_ok cv hc d l c ys w1 h1 hl a' b' (by omega) (by omega) _ fun w2 zs h2 s2 m2 => ⟨rfl, zs, h2, s2, m2⟩
  rintro _ lim2 w2 ⟨zs, h2, s2, m2⟩
  refine choosePivot_ok cv hc d l c zs w2 h2 hl a' b' (by omega) (by omega) _ fun w3 p hint hp1 hp2 m3 => ⟨_, _, rfl, ?_⟩
  refine ⟨fun x _ w' => ∃ (p : Nat) (us : List Exc), x = p ∧ a' ≤ p ∧ p < b' ∧ Rx excL 33 w' d l c us ∧ Seg a' b' ys us ∧ Mod (rowB d) w1 w', ?_, ?_⟩
  · refine ifK_of (fun _ => ?_) (fun _ => ⟨p, zs, rfl, hp1, hp2, h2.no m3, s2, m2.trans_no m3⟩)
    refine reverse_ok cv hc d l c zs w3 (h2.no m3) hl a' b' (by omega) (by omega) _ fun w4 us h4 s4 m4 => ⟨rfl, b' - 1 - (p - a'), us, ?_, by omega, by omega, h4, s2.trans s4, (m2.trans_no m3).trans m4⟩
    rw [wP (i := b') (by omega) (by omega), wD (i := p) (j := a') (by omega) hp1, wD (by omega) (by omega)]
  rintro _ _ hint2 w5 ⟨p, us, rfl, hp1, hp2, h5, s5, m5⟩
  refine ⟨fun w' => ∃ vs, Rx excL 33 w' d l c vs ∧ Seg a' b' ys vs ∧ Mod (rowB d) w1 w', ?_, ?_⟩
  · refine ifK_of (fun _ => ifK_of (fun _ => ifK_of (fun _ => ?_) (fun _ => ⟨us, h5, s5, m5⟩)) (fun _ => ⟨us, h5, s5, m5⟩)) (fun _ => ⟨us, h5, s5, m5⟩)
    refine partial_ok cv hc d l c us w5 h5 hl a' b' (by omega) (by omega) (bel1.seg s5 (h1.le (by omega))) _ fun w6 vs q h6 s6 srt6 m6 => ⟨q, rfl, ?_⟩
    exact ifK_of (fun hq => sorted w6 vs h6 (s5.trans s6) (srt6 hq) (m5.trans m6)) (fun _ => ⟨vs, h6, s5.trans s6, m5.trans m6⟩)
  rintro _ w7 ⟨vs, h7, s7, m7⟩
  have s7' : Seg a b xs vs := s1.trans (s7.mono ha hb')
  have m7' := m1.trans m7
  have alm7 := alm1.seg s7 ha hb' (h1.le hb)
  have bel7 := bel1.seg s7 (h1.le (by omega))
  -- parted into less and more
  refine ⟨fun x w' => x = (a' : Int) ∧ Rx excL 33 w' d l c vs ∧ Mod (rowB d) w w', ?_, ?_⟩
  · intro w8 e8
    have m8 : Mod no w7 w8 := by subst e8; exact Mod.drew _
    clear e8
    refine ifK_dec (fun ha0 => ?_) (fun _ => ⟨rfl, h7.no m8, m7'.trans_no m8⟩)
    have ha0 : 0 < a' := by omega
    rw [wP (i := a') (by omega) ha0]
    refine nls hc (h7.no m8) (a' - 1) p rfl rfl (by omega) (by omega) (fun hge wc mc => ?_) (fun _ wc mc => ⟨rfl, (h7.no m8).no mc, (m7'.trans_no m8).trans_no mc⟩)
    have hmin : ∀ k, a' ≤ k → k < b' → at0 vs p ≤ at0 vs k := fun k h8 h9 => Lin.tr (Lin.nlt hge) (bel7 ha0 k h8 h9)
    refine partEq_ok cv hc d l c vs wc ((h7.no m8).no mc) hl a' b' p hp1 hp2 (by omega) hmin _ fun w9 ts m h9 s9 eq9 m9 => ⟨_, rfl, ?_⟩
    have hm1 := eq9.am
    have hm2 := eq9.mb
    exact ⟨⟨m, b', ts, rfl, rfl, by omega, hm2, hb', h9, s7'.trans (s9.mono ha hb'), (alm7.seg s9 ha hb' (h7.le hb)).eqd eq9, eq9.bel, ((m7'.trans_no m8).trans_no mc).trans m9⟩, by simp only; omega⟩
  rintro _ _ w10 ⟨rfl, h10, m10⟩
  refine partition_ok cv hc d l c vs w10 h10 hl a' b' p hp1 hp2 (by omega) _ fun w11 ts m q h11 s11 pt11 m11 => ⟨_, _, rfl, by decide, ?_⟩
  have hm1 := pt11.am
  have hm2 := pt11.mb
  have s11' : Seg a b xs ts := s7'.trans (s11.mono ha hb')
  have alm11 := alm7.seg s11 ha hb' (h7.le hb)
  have bel11 := bel7.seg s11 (h7.le (by omega))
  have m11' := m10.trans m11
  rw [wS (i := m) (by omega)]
  refine ifK_of (fun _ => ?_) (fun _ => ?_)
  · refine ih (m - a') (by omega) a' m lim2 ts w11 (Nat.le_refl _) h11 hm1 (by omega) (bel11.mono (by omega)) _ fun w12 rs h12 s12 srt12 m12 => ⟨rfl, ?_⟩
    have pt12 := pt11.left (h11.le (by omega)) s12
    exact ⟨⟨m + 1, b', rs, rfl, rfl, by omega, by omega, hb', h12, s11'.trans (s12.mono (by omega) (by omega)), (alm11.seg (s12.mono (Nat.le_refl _) (by omega)) ha hb' (h11.le hb)).left pt12 srt12, pt12.bel, m11'.trans m12⟩, by simp only; omega⟩
  · refine ih (b' - (m + 1)) (by omega) (m + 1) b' lim2 ts w11 (Nat.le_refl _) h11 (by omega) (by omega) pt11.bel _ fun w12 rs h12 s12 srt12 m12 => ⟨rfl, ?_⟩
    have pt12 := pt11.right (h11.le (by omega)) s12
    exact ⟨⟨a', m, rs, rfl, rfl, ha, hm1, by omega, h12, s11'.trans (s12.mono (by omega) (by omega)), (alm11.seg (s12.mono (by omega) (Nat.le_refl _)) ha hb' (h11.le hb)).right pt12 srt12,
      (bel11.seg (s12.mono (by omega) (Nat.le_refl _)) (h11.le (by omega))).mono (by omega), m11'.trans m12⟩, by simp only; omega⟩

theorem sort_ok (cv : Value) (hc : Cmp cv) (d : Option Addr) (l c : Nat) (xs : List Exc) (w : World) (hd : Rx excL 33 w d l c xs) (hl : l < 4611686018427387904) (R : Value → World → Prop)
    (h : ∀ w' ys, Rx excL 33 w' d l c ys → ys.Perm xs → Srt ys 0 l → Mod (rowB d) w w' → R (.tuple #[]) w') :
    Ca Tryz.prog 76 #[.slice d l c, cv] w R := by
  refine ca76 d l c cv w R ?_
  refine bitsLen_ok _ w _ fun n _ => ⟨n, rfl, ?_⟩
  exact pdq_ok cv hc d l c hl l 0 l n xs w (Nat.le_refl _) hd (Nat.zero_le _) (Nat.le_refl _) (fun h => absurd h (by omega)) _ fun w' ys h1 h2 h3 h4 => ⟨rfl, h w' ys h1 h2.perm h3 h4⟩
end Go.Proofs.YtehhhkcemmfjpaaGreatDoor.SrtX

/- The formulas of functions, printed by a program of mine (gen.py) out of the translation. -/
namespace Go.Proofs.YtehhhkcemmfjpaaGreatDoor
open Go Go.Proofs.YtehhhkcemmfjpaaGreatDoor.St
open _root_.Go.Value (string int bool slice pointer agg tuple map func nilFunc iface)
open _root_.Go.World (cell? frozen? setCell alloc drew)
open _root_.Go.Addr (add)
open _root_.Go.Obj (cells)
open _root_.Go.IntKind (wrap i64 u64 i32 u32 u8)
set_option maxRecDepth 100000

/-- cmp.Compare[string] -/
noncomputable def C48 : Code := (Tryz.f48.body).getD .skip
def pl48 : Nat → Plan := fun _ => .done
def ls48 : Nat → List (Nat × LT) := fun _ => []
def W48 (x : ByteArray) (y : ByteArray) (w : World) (R : Value → World → Prop) : Prop :=
  (Ca Tryz.prog (78) (Array.mk [string x]) (w) (fun v0 => (fun w1 =>
(∃ b2 : Bool, ((v0 = bool b2) ∧ (Ca Tryz.prog (78) (Array.mk [string y]) (w1) (fun v3 => (fun w4 =>
(∃ b5 : Bool, ((v3 = bool b5) ∧ (ifK (b2)
(ifK (b5)
(R (int i64 0) (w4))
(R (int i64 (-1)) (w4)))
(ifK (b5)
(R (int i64 1) (w4))
(ifK (Op.bytesLess (ByteArray.toList x) (ByteArray.toList y))
(R (int i64 (-1)) (w4))
(ifK (!(Op.bytesLess (ByteArray.toList x) (ByteArray.toList y) || ByteArray.toList x == ByteArray.toList y))
(R (int i64 1) (w4))
(R (int i64 0) (w4))))))))))))))))
theorem ca48 (x : ByteArray) (y : ByteArray) (w : World) (R : Value → World → Prop) (h : W48 x y w R) : Ca Tryz.prog 48 ⟨[(.string x), (.string y)]⟩ w R :=
  caB (fn := Tryz.f48) (pl := pl48) (ls := ls48) Tryz.func48 (by kernel_rfl) (by kernel_rfl) h

/-- cmp.Or[int] -/
noncomputable def C52 : Code := (Tryz.f52.body).getD .skip
def pl52 : Nat → Plan := fun _ => .done
def ls52 : Nat → List (Nat × LT)
  | 4 => [(8, (.one (.int .i64)))]
  | _ => []
def W52 (valsa : Option Addr) (valsl : Nat) (_valsc : Nat) (w : World) (R : Value → World → Prop) : Prop :=
  (∃ z0 : Int → World → Prop, (∃ z1 : Int → World → Nat, ((z0 (0) (w)) ∧ (∀ (_ : Nat → Value), (∀ (x3 : Int), (∀ (w4 : World), ((z0 (x3) (w4)) → (ifK (decide (x3 < (↑valsl : Int)))
(∃ a5 : Addr, ((valsa = some a5) ∧ (((0 : Int) ≤ x3) ∧ (((x3 : Int) < (↑valsl : Int)) ∧ (∃ x6 : Int, ((cell? w4 (add a5 (Int.toNat x3 * 1)) = some (int i64 x6)) ∧ (ifK (x6 != 0)
(R (int i64 x6) (w4))
((z0 (wrap i64 (x3 + 1)) (w4)) ∧ (z1 (wrap i64 (x3 + 1)) w4 < z1 x3 w4)))))))))
(R (int i64 0) (w4))))))))))
theorem ca52 (valsa : Option Addr) (valsl : Nat) (valsc : Nat) (w : World) (R : Value → World → Prop) (h : W52 valsa valsl valsc w R) : Ca Tryz.prog 52 ⟨[(.slice valsa valsl valsc)]⟩ w R :=
  caB (fn := Tryz.f52) (pl := pl52) (ls := ls52) Tryz.func52 (by kernel_rfl) (by kernel_rfl) h

/-- (*staith/bind.Table).Exchanges$1 -/
noncomputable def C47 : Code := (Tryz.f47.body).getD .skip
def pl47 : Nat → Plan := fun _ => .done
def ls47 : Nat → List (Nat × LT) := fun _ => []
def W47 (x0_ : ByteArray) (x1_ : Int) (x2_ : Bool) (y0 : ByteArray) (y1 : Int) (y2 : Bool) (w : World) (R : Value → World → Prop) : Prop :=
  (atW (alloc w (cells (Array.mk [string x0_, int i64 x1_, bool x2_]) 33 (0, 0))) (fun w0 =>
(atW (alloc w0 (cells (Array.mk [string y0, int i64 y1, bool y2]) 33 (0, 0))) (fun w1 =>
(∃ s2 : ByteArray, ((cell? w1 (add (nw w) 0) = some (string s2)) ∧ (∃ s3 : ByteArray, ((cell? w1 (add (nw w0) 0) = some (string s3)) ∧ (Ca Tryz.prog (48) (Array.mk [string s2, string s3]) (w1) (fun v4 => (fun w5 =>
(∃ x6 : Int, ((v4 = int i64 x6) ∧ (R (int i64 x6) (w5)))))))))))))))
theorem ca47 (x0_ : ByteArray) (x1_ : Int) (x2_ : Bool) (y0 : ByteArray) (y1 : Int) (y2 : Bool) (w : World) (R : Value → World → Prop) (h : W47 x0_ x1_ x2_ y0 y1 y2 w R) : Ca Tryz.prog 47 ⟨[(.agg ⟨[(.string x0_), (.int .i64 x1_), (.bool x2_)]⟩), (.agg ⟨[(.string y0), (.int .i64 y1), (.bool y2)]⟩)]⟩ w R :=
  caB (fn := Tryz.f47) (pl := pl47) (ls := ls47) Tryz.func47 (by kernel_rfl) (by kernel_rfl) h

/-- (*staith/bind.Table).Bindings$1 -/
noncomputable def C51 : Code := (Tryz.f51.body).getD .skip
def pl51 : Nat → Plan
  | 1 => (.quiet 0 (.quiet 1 (.quiet 2 (.quiet 3 (.quiet 5 (.quiet 6 (.quiet 7 (.quiet 8 (.quiet 10 (.quiet 11 (.quiet 12 (.quiet 13 (.eff 4 [6, 8, 11, 13] (.eff 9 [11, 13] (.eff 14 [] (.eff 15 [] (.eff 16 [] (.quiet 17 .done))))))))))))))))))
  | _ => .done
def ls51 : Nat → List (Nat × LT) := fun _ => []
def W51 (x0_ : ByteArray) (x1_ : ByteArray) (x2_ : ByteArray) (y0 : ByteArray) (y1 : ByteArray) (y2 : ByteArray) (w : World) (R : Value → World → Prop) : Prop :=
  (atW (alloc w (cells (Array.mk [string x0_, string x1_, string x2_]) 35 (0, 0))) (fun w0 =>
(atW (alloc w0 (cells (Array.mk [string y0, string y1, string y2]) 35 (0, 0))) (fun w1 =>
(atW (drew w1) (fun w2 =>
(∃ s3 : ByteArray, ((cell? w2 (add (nw w) 0) = some (string s3)) ∧ (∃ s4 : ByteArray, ((cell? w2 (add (nw w0) 0) = some (string s4)) ∧ (∃ s5 : ByteArray, ((cell? w2 (add (nw w) 1) = some (string s5)) ∧ (∃ s6 : ByteArray, ((cell? w2 (add (nw w0) 1) = some (string s6)) ∧ (∃ s7 : ByteArray, ((cell? w2 (add (nw w) 2) = some (string s7)) ∧ (∃ s8 : ByteArray, ((cell? w2 (add (nw w0) 2) = some (string s8)) ∧ (Ca Tryz.prog (48) (Array.mk [string s3, string s4]) (w2) (fun v9 => (fun w10 =>
(∃ x11 : Int, ((v9 = int i64 x11) ∧ ((cell? w10 (add (add (nw w) 1) 0) = some (string s5)) ∧ ((cell? w10 (add (add (nw w0) 1) 0) = some (string s6)) ∧ ((cell? w10 (add (add (nw w) 2) 0) = some (string s7)) ∧ ((cell? w10 (add (add (nw w0) 2) 0) = some (string s8)) ∧ (Ca Tryz.prog (48) (Array.mk [string s5, string s6]) (w10) (fun v12 => (fun w13 =>
(∃ x14 : Int, ((v12 = int i64 x14) ∧ ((cell? w13 (add (add (nw w) 2) 0) = some (string s7)) ∧ ((cell? w13 (add (add (nw w0) 2) 0) = some (string s8)) ∧ (Ca Tryz.prog (48) (Array.mk [string s7, string s8]) (w13) (fun v15 => (fun w16 =>
(∃ x17 : Int, ((v15 = int i64 x17) ∧ (atW (alloc w16 (cells (Array.mk [int i64 x11, int i64 x14, int i64 x17]) 3 (0, 0))) (fun w18 =>
(Ca Tryz.prog (52) (Array.mk [slice (some (nw w16)) 3 3]) (w18) (fun v19 => (fun w20 =>
(∃ x21 : Int, ((v19 = int i64 x21) ∧ (R (int i64 x21) (w20))))))))))))))))))))))))))))))))))))))))))))))))
theorem ca51 (x0_ : ByteArray) (x1_ : ByteArray) (x2_ : ByteArray) (y0 : ByteArray) (y1 : ByteArray) (y2 : ByteArray) (w : World) (R : Value → World → Prop) (h : W51 x0_ x1_ x2_ y0 y1 y2 w R) : Ca Tryz.prog 51 ⟨[(.agg ⟨[(.string x0_), (.string x1_), (.string x2_)]⟩), (.agg ⟨[(.string y0), (.string y1), (.string y2)]⟩)]⟩ w R :=
  caB (fn := Tryz.f51) (pl := pl51) (ls := ls51) Tryz.func51 (by kernel_rfl) (by kernel_rfl) h
end Go.Proofs.YtehhhkcemmfjpaaGreatDoor

/- The formulas of functions, printed by a program of mine (gen.py) out of the translation. -/
namespace Go.Proofs.YtehhhkcemmfjpaaGreatDoor
open Go Go.Proofs.YtehhhkcemmfjpaaGreatDoor.St
open _root_.Go.Value (string int bool slice pointer agg tuple map func nilFunc iface)
open _root_.Go.World (cell? frozen? setCell alloc drew)
open _root_.Go.Addr (add)
open _root_.Go.Obj (cells)
open _root_.Go.IntKind (wrap i64 u64 i32 u32 u8)
set_option maxRecDepth 100000

/-- cmp.isNaN[string] -/
noncomputable def C78 : Code := (Tryz.f78.body).getD .skip
def pl78 : Nat → Plan := fun _ => .done
def ls78 : Nat → List (Nat × LT) := fun _ => []
def W78 (x : ByteArray) (w : World) (R : Value → World → Prop) : Prop :=
  (R (bool !ByteArray.toList x == ByteArray.toList x) (w))
theorem ca78 (x : ByteArray) (w : World) (R : Value → World → Prop) (h : W78 x w R) : Ca Tryz.prog 78 ⟨[(.string x)]⟩ w R :=
  caB (fn := Tryz.f78) (pl := pl78) (ls := ls78) Tryz.func78 (by kernel_rfl) (by kernel_rfl) h
end Go.Proofs.YtehhhkcemmfjpaaGreatDoor

/- Rows of one-cell elements: what is appended. It names no program. -/
namespace Go.Proofs.YtehhhkcemmfjpaaGreatDoor.St
open Go

section
variable {α : Type} {val : α → Value} {e : TypeId} {w w' : World} {a : Option Addr} {l c : Nat} {xs : List α}
/-- An element is one word. -/
def oneL (val : α → Value) (h : ∀ x, (val x).oneCell' = true) : Lay α where
  cs x := [val x]
  s := 1
  pos := by decide
  len _ := rfl
  one x v hv := by simp at hv; subst hv; exact h x
theorem oneL_cs (val : α → Value) (h : ∀ x, (val x).oneCell' = true) (xs : List α) : xs.flatMap (oneL val h).cs = xs.map val := by
  induction xs with
  | nil => rfl
  | cons x r ih => rw [List.flatMap_cons, ih]; rfl
theorem Els.row (hv : ∀ x, (val x).oneCell' = true) (h : Els val e w a l c xs) : Row (oneL val hv) e w a l c xs := by
  rw [Row, oneL_cs]; exact h
theorem Els.of_row {hv : ∀ x, (val x).oneCell' = true} (h : Row (oneL val hv) e w a l c xs) : Els val e w a l c xs := by
  rw [Row, oneL_cs] at h; exact h
theorem Els.nil (e : TypeId) (w : World) : Els val e w none 0 0 [] := ⟨by simp, .inl ⟨rfl, rfl⟩⟩
theorem Els.lit (hv : ∀ x, (val x).oneCell' = true) {k : Nat} {cur : Array Value} (hg : w.heap[k]? = some (.cells cur e (0, 0))) (xs : List α) (h : cur.toList = xs.map val) (hn : xs.length ≤ maxLen) : Els val e w (some ⟨k, 0, none⟩) xs.length xs.length xs :=
  Els.of_row (hv := hv) (Row.lit _ hg xs (by rw [oneL_cs]; exact h) hn)
theorem Els.all (hv : ∀ x, (val x).oneCell' = true) (h : Els val e w a l c xs) : (∀ ad, a = some ad → ∀ j v, (xs.map val)[j]? = some v → w.cell? (ad.add j) = some v) ∧ (a = none → l = 0 ∧ c = 0) := by
  have := (h.row hv).all
  rw [oneL_cs] at this
  exact this
theorem Els.push {P : Program} {t ty : TypeId} (hv : ∀ x, (val x).oneCell' = true) (ho : laidOk P t e 1 = true) (h : Els val e w a l c xs) {b : Option Addr} {m cc : Nat} {ys : List α} (hm : ys.length = m)
    (hb : ∀ ad, b = some ad → ∀ j v, (ys.map val)[j]? = some v → w.cell? (ad.add j) = some v) (hb0 : b = none → m = 0 ∧ cc = 0) (hn : l + m ≤ 1099511627776) :
    ∃ a' c' w', (Builtin.append_ #[t, t] ty #[.slice a l c, .slice b m cc]).run P w = .ok (.slice a' (l + m) c') w' ∧ Els val e w' a' (l + m) c' (xs ++ ys) ∧
      Mod (rowB a) w w' ∧ (∀ k, rowB a' k → rowB a k ∨ w.heap.size ≤ k) := by
  obtain ⟨a', c', w', h1, h2, h3, h4⟩ := (h.row hv).push (P := P) (ty := ty) ho hm (by rw [oneL_cs]; exact hb) hb0 hn
  exact ⟨a', c', w', h1, Els.of_row h2, h3, h4⟩
/-- append(row, x). -/
theorem Els.push1 {P : Program} {t ty : TypeId} (hv : ∀ x, (val x).oneCell' = true) (ho : laidOk P t e 1 = true) (h : Els val e w a l c xs) {k : Nat} {x : α} {e' : TypeId} (hk : w.heap[k]? = some (.cells #[val x] e' (0, 0))) (hn : l + 1 ≤ 1099511627776) :
    ∃ a' c' w', (Builtin.append_ #[t, t] ty #[.slice a l c, .slice (some ⟨k, 0, none⟩) 1 1]).run P w = .ok (.slice a' (l + 1) c') w' ∧ Els val e w' a' (l + 1) c' (xs ++ [x]) ∧
      Mod (rowB a) w w' ∧ (∀ k, rowB a' k → rowB a k ∨ w.heap.size ≤ k) :=
  h.push hv ho (ys := [x]) rfl (fun ad had j v hj => by cases had; rw [cl1 hk]; simpa using hj) (fun h => by cases h) hn
end
theorem swapL_comm {α : Type} [Inhabited α] {xs : List α} {i j : Nat} (h : i ≠ j) : swapL xs i j = swapL xs j i := by
  unfold swapL
  exact List.set_comm _ _ h
end Go.Proofs.YtehhhkcemmfjpaaGreatDoor.St

/- The comparisons of exchanges and of bindings. -/
namespace Go.Proofs.YtehhhkcemmfjpaaGreatDoor
open Go Go.Proofs.YtehhhkcemmfjpaaGreatDoor Go.Proofs.YtehhhkcemmfjpaaGreatDoor.St

theorem lay_ok {α : Type} {P : Program} {e : TypeId} (L : Lay α) {s : Nat} (cts : List CT) (h1 : (P.info? e).map (·.size) = some s) (h2 : L.s = s) (h3 : ∃ fs, P.underlying e = some (.struct fs)) (h4 : cellsT P 8 e = cts) (h5 : ∀ x, okCs cts (L.cs x)) : LayOk P e L := by
  refine ⟨?_, h3, fun x => by rw [h4]; exact h5 x⟩
  cases hi : P.info? e with
  | none => rw [hi] at h1; cases h1
  | some i => rw [hi] at h1; exact ⟨i, rfl, by rw [h2]; simpa using h1⟩
theorem bnd_lay : LayOk Tryz.prog 35 bndL := lay_ok bndL [.str, .str, .str] (s := 3) (by kernel_rfl) rfl ⟨_, Tryz.underlying35⟩ (by kernel_rfl) fun x => ⟨⟨_, rfl⟩, ⟨_, rfl⟩, ⟨_, rfl⟩, trivial⟩
theorem exc_lay : LayOk Tryz.prog 33 excL := lay_ok excL [.str, .int .i64, .bool] (s := 3) (by kernel_rfl) rfl ⟨_, Tryz.underlying33⟩ (by kernel_rfl) fun x => ⟨⟨_, rfl⟩, ⟨_, rfl⟩, ⟨_, rfl⟩, trivial⟩
theorem bnd_s : Str3 Tryz.prog 35 := ⟨⟨_, _, _, Tryz.underlying35, by decide, by decide, by decide, Tryz.underlying9, Tryz.underlying9, Tryz.underlying9, rfl, rfl, rfl⟩, by kernel_rfl, by kernel_rfl⟩
theorem exc_s : Str4 Tryz.prog 33 := ⟨⟨_, _, _, Tryz.underlying33, by decide, by decide, by decide, Tryz.underlying9, Tryz.underlying3, Tryz.underlying4, rfl, rfl, rfl⟩, by kernel_rfl, by kernel_rfl⟩

theorem compare_ok (x y : ByteArray) (w : World) (R : Value → World → Prop) (h : ∀ n : Int, (n < 0 ↔ x < y) → (n = 0 ↔ x = y) → R (.int .i64 n) w) : Ca Tryz.prog 48 #[.string x, .string y] w R := by
  have nan : ∀ (s : ByteArray) (w : World) (R : Value → World → Prop), R (.bool false) w → Ca Tryz.prog 78 #[.string s] w R := by
    intro s w R h
    refine ca78 s w R ?_
    exact (by simpa [W78] using h)
  refine ca48 x y w R ?_
  refine nan x w _ ⟨_, rfl, nan y w _ ⟨_, rfl, ifK_of (fun h => by cases h) fun _ => ifK_of (fun h => by cases h) fun _ => ifK_of (fun hl => ?_) fun hl => ifK_of (fun hg => ?_) fun hg => ?_⟩⟩
  · have hlt : x < y := hl
    exact h (-1) (by simp [hlt]) ⟨fun h => by omega, fun e => by subst e; exact absurd hlt (str_irr x)⟩
  · rw [hl, Bool.false_or] at hg
    have hlt : ¬ x < y := fun h' => by rw [show Op.bytesLess x.toList y.toList = true from h'] at hl; cases hl
    have hne : ¬ x = y := fun e => by subst e; simp at hg
    exact h 1 (by simp [hlt]) ⟨fun h => by omega, fun e => absurd e hne⟩
  · rw [hl, Bool.false_or] at hg
    have he : x = y := ba_toList _ _ (by simpa using hg)
    exact h 0 (by subst he; simp [str_irr]) (by simp [he])

theorem or_ok (a : Option Addr) (l c : Nat) (xs : List Int) (w : World) (hx : Els (Value.int .i64) 3 w a l c xs) (hl : l < 1000000) (R : Value → World → Prop) (h : R (.int .i64 ((xs.find? (· != 0)).getD 0)) w) : Ca Tryz.prog 52 #[.slice a l c] w R := by
  refine ca52 a l c w R ?_
  have hxl := hx.len.1
  refine ⟨fun x w' => ∃ i : Nat, x = i ∧ i ≤ l ∧ w' = w ∧ xs.find? (· != 0) = (xs.drop i).find? (· != 0), fun x _ => ((l : Int) - x).toNat, ⟨0, rfl, by omega, rfl, rfl⟩, ?_⟩
  rintro _ _ _ ⟨i, rfl, hi, rfl, hf⟩
  refine ifK_dec (fun hlt => ?_) (fun hge => ?_)
  · have hil : i < xs.length := by omega
    have hd : xs.drop i = at0 xs i :: xs.drop (i + 1) := by rw [List.drop_eq_getElem_cons hil, at0_eq hil]
    refine hx.rd i rfl (by omega) (ifK_of (fun hn => ?_) (fun hn => ?_))
    · rw [hf, hd, List.find?_cons_of_pos (p := fun x => x != 0) hn] at h
      exact h
    · refine ⟨⟨i + 1, (by first | (simp only [IntKind.wrap_i64]; omega) | omega), by omega, rfl, ?_⟩, (by first | (simp only [IntKind.wrap_i64]; omega) | omega)⟩
      rw [hf, hd, List.find?_cons_of_neg (p := fun x => x != 0) (by simpa using hn)]
  · rw [hf, List.drop_eq_nil_of_le (by omega)] at h
    exact h

theorem cmpX_ok (x y : Exc) (w : World) (R : Value → World → Prop) (h : ∀ w' (n : Int), Mod no w w' → (n < 0 ↔ x < y) → R (.int .i64 n) w') : Ca Tryz.prog 47 #[.agg ⟨excL.cs x⟩, .agg ⟨excL.cs y⟩] w R := by
  refine ca47 x.n x.k x.f y.n y.k y.f w R ?_
  intro w0 e0
  have m0 : Mod no w w0 := by subst e0; exact Mod.alloc _ _
  have b0 : w0.heap[w.heap.size]? = some (.cells #[.string x.n, .int .i64 x.k, .bool x.f] 33 (0, 0)) := by subst e0; exact new_at _ _
  clear e0
  intro w1 e1
  have m1 : Mod no w0 w1 := by subst e1; exact Mod.alloc _ _
  have b1 : w1.heap[w0.heap.size]? = some (.cells #[.string y.n, .int .i64 y.k, .bool y.f] 33 (0, 0)) := by subst e1; exact new_at _ _
  have b0 := m1.at' b0
  clear e1
  exact ⟨_, by rw [cl1 b0]; rfl, _, by rw [cl1 b1]; rfl, compare_ok _ _ _ _ fun n h1 _ => ⟨n, rfl, h w1 n (m0.trans m1) h1⟩⟩
theorem cmpB_ok (x y : Bnd) (w : World) (R : Value → World → Prop) (h : ∀ w' (n : Int), Mod no w w' → (n < 0 ↔ x < y) → R (.int .i64 n) w') : Ca Tryz.prog 51 #[.agg ⟨bndL.cs x⟩, .agg ⟨bndL.cs y⟩] w R := by
  refine ca51 x.x x.q x.p y.x y.q y.p w R ?_
  intro w0 e0
  have m0 : Mod no w w0 := by subst e0; exact Mod.alloc _ _
  have b0 : w0.heap[w.heap.size]? = some (.cells #[.string x.x, .string x.q, .string x.p] 35 (0, 0)) := by subst e0; exact new_at _ _
  clear e0
  intro w1 e1
  have m1 : Mod no w0 w1 := by subst e1; exact Mod.alloc _ _
  have b1 : w1.heap[w0.heap.size]? = some (.cells #[.string y.x, .string y.q, .string y.p] 35 (0, 0)) := by subst e1; exact new_at _ _
  have b0 := m1.at' b0
  clear e1
  intro w2 e2
  have m2 : Mod no w1 w2 := by subst e2; exact Mod.drew _
  have b0 := m2.at' b0
  have b1 := m2.at' b1
  clear e2
  refine ⟨_, by rw [cl1 b0]; rfl, _, by rw [cl1 b1]; rfl, _, by rw [cl1 b0]; rfl, _, by rw [cl1 b1]; rfl, _, by rw [cl1 b0]; rfl, _, by rw [cl1 b1]; rfl, ?_⟩
  refine compare_ok _ _ _ _ fun n1 h1 h1' => ⟨n1, rfl, by rw [cl2 b0]; rfl, by rw [cl2 b1]; rfl, by rw [cl2 b0]; rfl, by rw [cl2 b1]; rfl, ?_⟩
  refine compare_ok _ _ _ _ fun n2 h2 h2' => ⟨n2, rfl, by rw [cl2 b0]; rfl, by rw [cl2 b1]; rfl, ?_⟩
  refine compare_ok _ _ _ _ fun n3 h3 h3' => ⟨n3, rfl, ?_⟩
  intro w3 e3
  have m3 : Mod no w2 w3 := by subst e3; exact Mod.alloc _ _
  have b3 : w3.heap[w2.heap.size]? = some (.cells #[.int .i64 n1, .int .i64 n2, .int .i64 n3] 3 (0, 0)) := by subst e3; exact new_at _ _
  clear e3
  refine or_ok _ 3 3 [n1, n2, n3] w3 (Els.lit (fun _ => rfl) b3 _ rfl (by show 3 ≤ maxLen; decide)) (by decide) _ ⟨_, rfl, h w3 _ (((m0.trans m1).trans m2).trans m3) ?_⟩
  show _ ↔ (x.x < y.x ∨ x.x = y.x ∧ (x.q < y.q ∨ x.q = y.q ∧ x.p < y.p))
  rw [← h1, ← h2, ← h3, ← h1', ← h2']
  by_cases e1 : n1 = 0
  · by_cases e2 : n2 = 0
    · by_cases e3 : n3 = 0
      · simp [e1, e2, e3]
      · simp [e1, e2, e3]
    · simp [e1, e2]
  · simp [e1]
theorem cmpX : SrtX.Cmp (.func (.func 47) #[] #[]) := ⟨exc_lay, rfl, fun x y w R h => cmpX_ok x y w R h⟩
theorem cmpB : SrtB.Cmp (.func (.func 51) #[] #[]) := ⟨bnd_lay, rfl, fun x y w R h => cmpB_ok x y w R h⟩
end Go.Proofs.YtehhhkcemmfjpaaGreatDoor

/- The formulas of functions, printed by a program of mine (gen.py) out of the translation. -/
namespace Go.Proofs.YtehhhkcemmfjpaaGreatDoor
open Go Go.Proofs.YtehhhkcemmfjpaaGreatDoor.St
open _root_.Go.Value (string int bool slice pointer agg tuple map func nilFunc iface)
open _root_.Go.World (cell? frozen? setCell alloc drew)
open _root_.Go.Addr (add)
open _root_.Go.Obj (cells)
open _root_.Go.IntKind (wrap i64 u64 i32 u32 u8)
set_option maxRecDepth 100000

/-- maps.DeleteFunc[map[staith/api.Binding]struct{},staith/api.Binding,struct{}] -/
noncomputable def C85 : Code := (Tryz.f85.body).getD .skip
def pl85 : Nat → Plan := fun _ => .done
def ls85 : Nat → List (Nat × LT)
  | 1 => []
  | _ => []
def W85 (m : Option Nat) (del : Value) (w : World) (R : Value → World → Prop) : Prop :=
  (rngM (m) (w) (fun v0 => (fun w1 =>
(∃ z2 : World → Prop, (∃ z3 : World → Nat, ((z2 (w1)) ∧ (∀ (_ : Nat → Value), (∀ (w5 : World), ((z2 (w5)) → (nxtM Tryz.prog (0) (v0) (w5) (fun _ => (fun _ => (fun w8 =>
(∃ v9 : Value, (∃ v10 : Value, ((Sem.run Tryz.prog (Instr.entry v0) w8 = Result.ok (tuple #[v9, v10]) w8) ∧ (atW (alloc w8 (cells (Array.mk [string (ByteArray.mk #[]), string (ByteArray.mk #[]), string (ByteArray.mk #[])]) 35 (0, 0))) (fun w11 =>
(atW (alloc w11 (cells (Array.mk []) 85 (0, 0))) (fun w12 =>
(bif Nat.beq (Array.size (Value.cells v9)) 3 then
(stCells (Array.toList (Value.cells v9)) (nw w8) 0 w12 fun x => bif Nat.beq (Array.size (Value.cells v10)) 0 then stCells (Array.toList (Value.cells v10)) (nw w11) 0 x fun x => ∃ s, cell? x (add (nw w8) 0) = some (string s) ∧ ∃ s_1, cell? x (add (nw w8) 1) = some (string s_1) ∧ ∃ s_2, cell? x (add (nw w8) 2) = some (string s_2) ∧ CaV Tryz.prog del (Array.mk [agg (Array.mk (List.reverse [string s_2, string s_1, string s])), agg (Array.mk (List.reverse []))]) x fun v w' => ∃ b, v = bool b ∧ ifK b (∃ s, cell? w' (add (nw w8) 0) = some (string s) ∧ ∃ s_3, cell? w' (add (nw w8) 1) = some (string s_3) ∧ ∃ s_4, cell? w' (add (nw w8) 2) = some (string s_4) ∧ ∃ v w'_1, Sem.run Tryz.prog (Builtin.delete_ (Array.mk [68, 35]) 0 (Array.mk [map m, agg (Array.mk (List.reverse [string s_4, string s_3, string s]))])) w' = Result.ok v w'_1 ∧ v = tuple (Array.mk (List.reverse [])) ∧ z2 w'_1 ∧ z3 w'_1 < z3 w5) (z2 w' ∧ z3 w' < z3 w5) else False)
else
False))))))))))) (fun w13 =>
(R (tuple (Array.mk (List.reverse []))) (w13)))))))))))))
theorem ca85 (m : Option Nat) (del : Value) (w : World) (R : Value → World → Prop) (h : W85 m del w R) : Ca Tryz.prog 85 ⟨[(.map m), del]⟩ w R :=
  caB (fn := Tryz.f85) (pl := pl85) (ls := ls85) Tryz.func85 (by kernel_rfl) (by kernel_rfl) h

/-- (*staith/bind.Table).sweep -/
noncomputable def C57 : Code := (Tryz.f57.body).getD .skip
def pl57 : Nat → Plan := fun _ => .done
def ls57 : Nat → List (Nat × LT) := fun _ => []
def W57 (t : Option Addr) (so : Value) (w : World) (R : Value → World → Prop) : Prop :=
  (atW (alloc w (cells (Value.cells so) 45 (0, 0))) (fun w0 =>
(onP (t) (fun a1 =>
(∃ p2 : Option Nat, ((cell? w0 (add a1 1) = some (map p2)) ∧ (lenM (p2) (w0) (fun x3 =>
(onP (t) (fun a4 =>
(∃ p5 : Option Nat, ((cell? w0 (add a4 1) = some (map p5)) ∧ (Ca Tryz.prog (85) (Array.mk [map p5, func (Fn.func 86) (Array.mk []) (Array.mk [pointer (some (nw w))])]) (w0) (fun v6 => (fun w7 =>
((v6 = tuple (Array.mk (List.reverse []))) ∧ (onP (t) (fun a8 =>
(∃ p9 : Option Nat, ((cell? w7 (add a8 1) = some (map p9)) ∧ (lenM (p9) (w7) (fun x10 =>
(R (int i64 (wrap i64 (x3 - x10))) (w7))))))))))))))))))))))))
theorem ca57 (t : Option Addr) (so : Value) (w : World) (R : Value → World → Prop) (h : W57 t so w R) : Ca Tryz.prog 57 ⟨[(.pointer t), so]⟩ w R :=
  caB (fn := Tryz.f57) (pl := pl57) (ls := ls57) Tryz.func57 (by kernel_rfl) (by kernel_rfl) h

/-- (*staith/bind.Table).sweep$1 -/
noncomputable def C86 : Code := (Tryz.f86.body).getD .skip
def pl86 : Nat → Plan := fun _ => .done
def ls86 : Nat → List (Nat × LT) := fun _ => []
def W86 (b0_ : ByteArray) (b1_ : ByteArray) (b2_ : ByteArray) (c0 : Option Addr) (w : World) (R : Value → World → Prop) : Prop :=
  (atW (alloc w (cells (Array.mk [string b0_, string b1_, string b2_]) 35 (0, 0))) (fun w0 =>
(atW (alloc w0 (cells (Array.mk []) 85 (0, 0))) (fun w1 =>
(onP (c0) (fun a2 =>
(∃ v3 : Value, ((cell? w1 a2 = some v3) ∧ (∃ s4 : ByteArray, ((cell? w1 (add (nw w) 0) = some (string s4)) ∧ (∃ s5 : ByteArray, ((cell? w1 (add (nw w) 1) = some (string s5)) ∧ (∃ s6 : ByteArray, ((cell? w1 (add (nw w) 2) = some (string s6)) ∧ (CaV Tryz.prog (v3) (Array.mk [agg (Array.mk (List.reverse [string s6, string s5, string s4]))]) (w1) (fun v7 => (fun w8 =>
(∃ b9 : Bool, ((v7 = bool b9) ∧ (R (bool b9) (w8)))))))))))))))))))))
theorem ca86 (b0_ : ByteArray) (b1_ : ByteArray) (b2_ : ByteArray) (c0 : Option Addr) (w : World) (R : Value → World → Prop) (h : W86 b0_ b1_ b2_ c0 w R) : Ca Tryz.prog 86 ⟨[(.agg ⟨[(.string b0_), (.string b1_), (.string b2_)]⟩), (.agg ⟨[]⟩), (.pointer c0)]⟩ w R :=
  caB (fn := Tryz.f86) (pl := pl86) (ls := ls86) Tryz.func86 (by kernel_rfl) (by kernel_rfl) h

/-- (*staith/bind.Table).Unbind$1 -/
noncomputable def C58 : Code := (Tryz.f58.body).getD .skip
def pl58 : Nat → Plan := fun _ => .done
def ls58 : Nat → List (Nat × LT) := fun _ => []
def W58 (x0_ : ByteArray) (x1_ : ByteArray) (x2_ : ByteArray) (c0 : Option Addr) (w : World) (R : Value → World → Prop) : Prop :=
  (atW (alloc w (cells (Array.mk [string x0_, string x1_, string x2_]) 35 (0, 0))) (fun w0 =>
(∃ s1 : ByteArray, ((cell? w0 (add (nw w) 0) = some (string s1)) ∧ (∃ s2 : ByteArray, ((cell? w0 (add (nw w) 1) = some (string s2)) ∧ (∃ s3 : ByteArray, ((cell? w0 (add (nw w) 2) = some (string s3)) ∧ (onP (c0) (fun a4 =>
(∃ s5 : ByteArray, ((cell? w0 (add a4 0) = some (string s5)) ∧ (∃ s6 : ByteArray, ((cell? w0 (add a4 1) = some (string s6)) ∧ (∃ s7 : ByteArray, ((cell? w0 (add a4 2) = some (string s7)) ∧ (eqA Tryz.prog 35 (agg (Array.mk (List.reverse [string s3, string s2, string s1]))) (agg (Array.mk (List.reverse [string s7, string s6, string s5]))) (w0) (fun b8 => (fun w9 =>
(R (bool b8) (w9)))))))))))))))))))))
theorem ca58 (x0_ : ByteArray) (x1_ : ByteArray) (x2_ : ByteArray) (c0 : Option Addr) (w : World) (R : Value → World → Prop) (h : W58 x0_ x1_ x2_ c0 w R) : Ca Tryz.prog 58 ⟨[(.agg ⟨[(.string x0_), (.string x1_), (.string x2_)]⟩), (.pointer c0)]⟩ w R :=
  caB (fn := Tryz.f58) (pl := pl58) (ls := ls58) Tryz.func58 (by kernel_rfl) (by kernel_rfl) h

/-- (*staith/bind.Table).Drop$1 -/
noncomputable def C59 : Code := (Tryz.f59.body).getD .skip
def pl59 : Nat → Plan := fun _ => .done
def ls59 : Nat → List (Nat × LT) := fun _ => []
def W59 (b0_ : ByteArray) (b1_ : ByteArray) (b2_ : ByteArray) (c0 : Option Addr) (w : World) (R : Value → World → Prop) : Prop :=
  (atW (alloc w (cells (Array.mk [string b0_, string b1_, string b2_]) 35 (0, 0))) (fun w0 =>
(∃ s1 : ByteArray, ((cell? w0 (add (nw w) 0) = some (string s1)) ∧ (onP (c0) (fun a2 =>
(∃ s3 : ByteArray, ((cell? w0 a2 = some (string s3)) ∧ (R (bool (ByteArray.toList s1 == ByteArray.toList s3)) (w0))))))))))
theorem ca59 (b0_ : ByteArray) (b1_ : ByteArray) (b2_ : ByteArray) (c0 : Option Addr) (w : World) (R : Value → World → Prop) (h : W59 b0_ b1_ b2_ c0 w R) : Ca Tryz.prog 59 ⟨[(.agg ⟨[(.string b0_), (.string b1_), (.string b2_)]⟩), (.pointer c0)]⟩ w R :=
  caB (fn := Tryz.f59) (pl := pl59) (ls := ls59) Tryz.func59 (by kernel_rfl) (by kernel_rfl) h

/-- (*staith/bind.Table).Forget$1 -/
noncomputable def C74 : Code := (Tryz.f74.body).getD .skip
def pl74 : Nat → Plan := fun _ => .done
def ls74 : Nat → List (Nat × LT) := fun _ => []
def W74 (b0_ : ByteArray) (b1_ : ByteArray) (b2_ : ByteArray) (c0 : Option Addr) (w : World) (R : Value → World → Prop) : Prop :=
  (atW (alloc w (cells (Array.mk [string b0_, string b1_, string b2_]) 35 (0, 0))) (fun w0 =>
(∃ s1 : ByteArray, ((cell? w0 (add (nw w) 1) = some (string s1)) ∧ (onP (c0) (fun a2 =>
(∃ s3 : ByteArray, ((cell? w0 a2 = some (string s3)) ∧ (R (bool (ByteArray.toList s1 == ByteArray.toList s3)) (w0))))))))))
theorem ca74 (b0_ : ByteArray) (b1_ : ByteArray) (b2_ : ByteArray) (c0 : Option Addr) (w : World) (R : Value → World → Prop) (h : W74 b0_ b1_ b2_ c0 w R) : Ca Tryz.prog 74 ⟨[(.agg ⟨[(.string b0_), (.string b1_), (.string b2_)]⟩), (.pointer c0)]⟩ w R :=
  caB (fn := Tryz.f74) (pl := pl74) (ls := ls74) Tryz.func74 (by kernel_rfl) (by kernel_rfl) h

/-- (*staith/bind.Table).Unbind -/
noncomputable def C22 : Code := (Tryz.f22.body).getD .skip
def pl22 : Nat → Plan := fun _ => .done
def ls22 : Nat → List (Nat × LT) := fun _ => []
def W22 (t : Option Addr) (b0_ : ByteArray) (b1_ : ByteArray) (b2_ : ByteArray) (w : World) (R : Value → World → Prop) : Prop :=
  (atW (alloc w (cells (Array.mk [string b0_, string b1_, string b2_]) 35 (0, 0))) (fun w0 =>
(Ca Tryz.prog (44) (Array.mk [pointer t]) (w0) (fun v1 => (fun w2 =>
(∃ b3 : Bool, ((v1 = bool b3) ∧ (ifK (!b3)
(R (int i64 1) (w2))
(Ca Tryz.prog (57) (Array.mk [pointer t, func (Fn.func 58) (Array.mk []) (Array.mk [pointer (some (nw w))])]) (w2) (fun v4 => (fun w5 =>
(∃ x6 : Int, ((v4 = int i64 x6) ∧ (ifK (x6 == 0)
(R (int i64 3) (w5))
(R (int i64 0) (w5))))))))))))))))
theorem ca22 (t : Option Addr) (b0_ : ByteArray) (b1_ : ByteArray) (b2_ : ByteArray) (w : World) (R : Value → World → Prop) (h : W22 t b0_ b1_ b2_ w R) : Ca Tryz.prog 22 ⟨[(.pointer t), (.agg ⟨[(.string b0_), (.string b1_), (.string b2_)]⟩)]⟩ w R :=
  caB (fn := Tryz.f22) (pl := pl22) (ls := ls22) Tryz.func22 (by kernel_rfl) (by kernel_rfl) h

/-- (*staith/bind.Table).Forget -/
noncomputable def C41 : Code := (Tryz.f41.body).getD .skip
def pl41 : Nat → Plan := fun _ => .done
def ls41 : Nat → List (Nat × LT) := fun _ => []
def W41 (t : Option Addr) (queue : ByteArray) (w : World) (R : Value → World → Prop) : Prop :=
  (atW (alloc w (cells (Array.mk [string queue]) 9 (0, 0))) (fun w0 =>
(Ca Tryz.prog (44) (Array.mk [pointer t]) (w0) (fun v1 => (fun w2 =>
(∃ b3 : Bool, ((v1 = bool b3) ∧ (ifK (!b3)
(R (int i64 0) (w2))
(Ca Tryz.prog (57) (Array.mk [pointer t, func (Fn.func 74) (Array.mk []) (Array.mk [pointer (some (nw w))])]) (w2) (fun v4 => (fun w5 =>
(∃ x6 : Int, ((v4 = int i64 x6) ∧ (R (int i64 x6) (w5)))))))))))))))
theorem ca41 (t : Option Addr) (queue : ByteArray) (w : World) (R : Value → World → Prop) (h : W41 t queue w R) : Ca Tryz.prog 41 ⟨[(.pointer t), (.string queue)]⟩ w R :=
  caB (fn := Tryz.f41) (pl := pl41) (ls := ls41) Tryz.func41 (by kernel_rfl) (by kernel_rfl) h

/-- (*staith/bind.Table).made -/
noncomputable def C44 : Code := (Tryz.f44.body).getD .skip
def pl44 : Nat → Plan := fun _ => .done
def ls44 : Nat → List (Nat × LT) := fun _ => []
def W44 (t : Option Addr) (w : World) (R : Value → World → Prop) : Prop :=
  (ifK (!Option.isNone t)
(onP (t) (fun a0 =>
(∃ p1 : Option Nat, ((cell? w (add a0 0) = some (map p1)) ∧ (R (bool !Option.isNone p1) (w))))))
(R (bool false) (w)))
theorem ca44 (t : Option Addr) (w : World) (R : Value → World → Prop) (h : W44 t w R) : Ca Tryz.prog 44 ⟨[(.pointer t)]⟩ w R :=
  caB (fn := Tryz.f44) (pl := pl44) (ls := ls44) Tryz.func44 (by kernel_rfl) (by kernel_rfl) h

/-- staith/bind.New -/
noncomputable def C10 : Code := (Tryz.f10.body).getD .skip
def pl10 : Nat → Plan := fun _ => .done
def ls10 : Nat → List (Nat × LT) := fun _ => []
def W10 (w : World) (R : Value → World → Prop) : Prop :=
  (atW (alloc w (Obj.map #[] 0)) (fun w0 =>
(atW (alloc w0 (Obj.map #[] 0)) (fun w1 =>
(atW (alloc w1 (cells (Array.mk [map (some (Array.size (World.heap w))), map (some (Array.size (World.heap w0)))]) 70 (0, 0))) (fun w2 =>
(R (pointer (some (nw w1))) (w2))))))))
theorem ca10 (w : World) (R : Value → World → Prop) (h : W10  w R) : Ca Tryz.prog 10 ⟨[]⟩ w R :=
  caB (fn := Tryz.f10) (pl := pl10) (ls := ls10) Tryz.func10 (by kernel_rfl) (by kernel_rfl) h
end Go.Proofs.YtehhhkcemmfjpaaGreatDoor

/- The library's maps.DeleteFunc over bindings; sweep, and what the table does by it. -/
namespace Go.Proofs.YtehhhkcemmfjpaaGreatDoor
open Go Go.Proofs.YtehhhkcemmfjpaaGreatDoor Go.Proofs.YtehhhkcemmfjpaaGreatDoor.St

/-- The bindings, as they lie in a map. -/
def bnL (B : List Bnd) : List (Bnd × Value) := B.map fun b => (b, .agg ⟨[]⟩)
abbrev BMap (w : World) (m : Nat) (B : List Bnd) : Prop := MapAt w m (kvL bndV (bnL B))
def kb : Value → Bnd
  | .agg ⟨[.string a, .string b, .string c]⟩ => ⟨a, b, c⟩
  | _ => default
theorem kb_bnd (b : Bnd) : kb (bndV b) = b := rfl
theorem bndV_inj {a b : Bnd} (h : bndV a = bndV b) : a = b := by rw [← kb_bnd a, h, kb_bnd]
theorem dfun_ok (m : Nat) (B : List Bnd) (p : Bnd → Bool) (del : Value) (w : World) (hm : BMap w m B) (hB : B.Nodup)
    (hdel : ∀ b w', Mod (on m) w w' → ∀ R : Value → World → Prop, (∀ w'', Mod no w' w'' → R (.bool (p b)) w'') → CaV Tryz.prog del #[.agg ⟨b.cs⟩, .agg ⟨[]⟩] w' R)
    (R : Value → World → Prop) (h : ∀ w', BMap w' m (B.filter fun b => !p b) → Mod (on m) w w' → R (.tuple #[]) w') :
    Ca Tryz.prog 85 #[.map (some m), del] w R := by
  refine ca85 (some m) del w R ?_
  obtain ⟨es0, clock, hes0, hkv, hn, hc⟩ := hm
  refine ⟨es0, clock, hes0, ?_⟩
  intro w1 e1
  have m1 : Mod no w w1 := by subst e1; exact Mod.alloc _ _
  have b1 : w1.heap[w.heap.size]? = some (.mapIter (some m) clock #[] clock) := by subst e1; exact new_at _ _
  clear e1
  have hmlt : m < w.heap.size := lt_of_heap hes0
  have hlen : B.length = es0.toList.length := by
    have := congrArg List.length hkv
    simpa [kvL, bnL] using this.symm
  have hkeys : es0.toList.map (fun e => kb e.key) = B := by
    have := congrArg (List.map fun x : Value × Value => kb x.1) hkv
    rw [List.map_map] at this
    rw [show (fun e : MapEntry => kb e.key) = ((fun x : Value × Value => kb x.1) ∘ fun e => (e.key, e.val)) from rfl, this, kvL, bnL, List.map_map, List.map_map]
    conv => rhs; rw [← List.map_id B]
    rfl
  have hkey : ∀ e ∈ es0.toList, e.key = bndV (kb e.key) ∧ e.val = .agg ⟨[]⟩ := by
    intro e he
    have : (e.key, e.val) ∈ kvL bndV (bnL B) := by rw [← hkv]; exact List.mem_map_of_mem he
    simp only [kvL, bnL, List.map_map, List.mem_map, Function.comp, Prod.mk.injEq] at this
    obtain ⟨b, _, h1, h2⟩ := this
    rw [← h1, ← h2, kb_bnd]
    exact ⟨rfl, rfl⟩
  refine ⟨fun w' => ∃ (es : Array MapEntry) (seen : Array Nat) (c0 : Nat), w'.heap[w.heap.size]? = some (.mapIter (some m) clock seen c0) ∧ clock ≤ c0 ∧ w'.heap[m]? = some (.map es clock) ∧
      es.toList = es0.toList.filter (fun e => !(seen.contains e.born && p (kb e.key))) ∧ Mod (on m) w w',
    fun w' => match w'.heap[w.heap.size]?, w'.heap[m]? with | some (.mapIter _ _ seen _), some (.map es _) => (leftOf es seen).size | _, _ => 0,
    ⟨es0, #[], clock, b1, Nat.le_refl _, m1.at' hes0, by rw [List.filter_eq_self.2]; simp, m1.of_no⟩, ?_⟩
  rintro _ w5 ⟨es, seen, c0, hit, hcc, hes, hfl, m5⟩
  have hsub : ∀ e ∈ es.toList, e ∈ es0.toList := fun e he => by rw [hfl] at he; exact (List.mem_filter.1 he).1
  have hnes : (es.toList.map (·.born)).Nodup := by rw [hfl]; exact hn.sublist (List.filter_sublist.map _)
  rcases next_at (P := Tryz.prog) (ty := 0) hit hes (fun e he => hc e (hsub e he)) hcc with ⟨h0, hrun⟩ | ⟨e, he, w8, hrun, m8, hit8⟩
  · refine ⟨_, w5, hrun, .inl ⟨rfl, h w5 ⟨es, clock, hes, ?_, hnes, fun e he => hc e (hsub e he)⟩ m5⟩⟩
    have hall : ∀ e ∈ es.toList, seen.contains e.born = true := by
      intro e he
      cases hs : seen.contains e.born with
      | true => rfl
      | false =>
        have hl : e ∈ (leftOf es seen).toList := by simp only [leftOf, Array.toList_filter]; exact List.mem_filter.2 ⟨he, by rw [hs]; rfl⟩
        rw [List.eq_nil_of_length_eq_zero (l := (leftOf es seen).toList) (by simpa using h0)] at hl
        cases hl
    have hfin : es.toList = es0.toList.filter fun e => !p (kb e.key) := by
      rw [hfl]
      apply List.filter_congr
      intro e he
      cases hp : p (kb e.key) with
      | false => simp
      | true =>
        cases hs : seen.contains e.born with
        | true => rfl
        | false =>
          have : e ∈ es.toList := by rw [hfl]; exact List.mem_filter.2 ⟨he, by rw [hs]; rfl⟩
          rw [hall e this] at hs
          cases hs
    rw [hfin]
    have : (B.filter fun b => !p b) = (es0.toList.filter fun e => !p (kb e.key)).map fun e => kb e.key := by
      rw [← hkeys, List.filter_map]; rfl
    rw [this, kvL, bnL, List.map_map, List.map_map]
    apply List.map_congr_left
    intro e he
    obtain ⟨h1, h2⟩ := hkey e (List.mem_filter.1 he).1
    simp only [Function.comp]
    rw [← h1, h2]
  · refine ⟨_, w8, hrun, .inr ⟨_, _, rfl, ?_⟩⟩
    have hmem := (mem_left he).1
    have hmem0 := hsub e hmem
    have hes8 := m8.at hes (fun hS => by cases hS; omega)
    refine ⟨e.key, e.val, entry_at hit8 hes8 hmem hnes, ?_⟩
    obtain ⟨hk, hv⟩ := hkey e hmem0
    have m58 : Mod (on m) w w8 := m5.trans' m8 fun k hk hT => by cases hT; omega
    have hsz8 : w.heap.size < w8.heap.size := lt_of_heap hit8
    rw [hk, hv]
    generalize hbd : kb e.key = b at hk
    intro w11 e11
    have m11 : Mod no w8 w11 := by subst e11; exact Mod.alloc _ _
    have b11 : w11.heap[w8.heap.size]? = some (.cells [Value.string (ByteArray.mk #[]), Value.string (ByteArray.mk #[]), Value.string (ByteArray.mk #[])].toArray 35 (0, 0)) := by subst e11; exact new_at _ _
    clear e11
    intro w12 e12
    have m12 : Mod no w11 w12 := by subst e12; exact Mod.alloc _ _
    clear e12
    refine (stCells_var (vs := b.cs) (m12.at' b11) rfl (fun v hv => bndL.one b v hv) fun w13 m13 h13 => ?_ : stCells _ _ _ _ _)
    have m13' : Mod no w8 w13 := (m11.trans m12).new m13 fun k hk => by cases hk; exact Nat.le_refl _
    refine ⟨_, by rw [cl1 h13]; rfl, _, by rw [cl1 h13]; rfl, _, by rw [cl1 h13]; rfl, ?_⟩
    refine hdel b w13 (m58.trans_no m13') _ fun w14 m14 => ⟨_, rfl, ?_⟩
    have h14 := m14.at' h13
    have m814 := m13'.trans m14
    have hes14 := m814.at' hes8
    have hit14 := m814.at' hit8
    have keep : ∀ x ∈ es0.toList, x.born = e.born → x = e := fun x hx hxe => by
      obtain ⟨i, hi, rfl⟩ := List.getElem_of_mem hx
      obtain ⟨j, hj, rfl⟩ := List.getElem_of_mem hmem0
      have hpw := List.pairwise_iff_getElem.1 hn
      rcases Nat.lt_trichotomy i j with h | h | h
      · exact ((hpw i j (by simpa using hi) (by simpa using hj) h) (by simp only [List.getElem_map]; exact hxe)).elim
      · subst h; rfl
      · exact ((hpw j i (by simpa using hj) (by simpa using hi) h) (by simp only [List.getElem_map]; exact hxe.symm)).elim
    refine ifK_of (fun hpb => ?_) (fun hpb => ?_)
    · refine ⟨_, by rw [cl1 h14]; rfl, _, by rw [cl1 h14]; rfl, _, by rw [cl1 h14]; rfl, ?_⟩
      have hLs : es.toList.map (fun e => (e.key, e.val)) = kvL bndV (es.toList.map fun e => (kb e.key, e.val)) := by
        rw [kvL, List.map_map]
        apply List.map_congr_left
        intro x hx
        rw [Function.comp, ← (hkey x (hsub x hx)).1]
      obtain ⟨w15, es', hrun15, m15, hes15, hfl15⟩ := delete_entry (keys_bnd bnd_s) (u := 35) (ty := 0) (t := 68) Tryz.underlying68 hes14 hLs hnes (by
          rw [List.map_map]
          have : (es.toList.map ((·.1) ∘ fun e : MapEntry => (kb e.key, e.val))) = es.toList.map fun e => kb e.key := rfl
          rw [this, hfl]
          refine List.Nodup.sublist (List.filter_sublist.map _) ?_
          rw [hkeys]; exact hB) hmem hk (fun a b => bndV_inj) trivial fun _ _ => trivial
      have hit15 := m15.at hit14 (fun hS => by cases hS; omega)
      refine ⟨_, w15, hrun15, rfl, ⟨es', seen.push e.born, clock, hit15, Nat.le_refl _, hes15, ?_, (m58.trans_no m814).trans m15⟩, ?_⟩
      · rw [hfl15, hfl, List.filter_filter]
        apply List.filter_congr
        intro x hx
        rw [contains_push]
        by_cases hxe : x.born = e.born
        · have := keep x hx hxe
          subst this
          simp [hbd, hpb]
        · have hb : (x.born == e.born) = false := beq_false_of_ne hxe
          simp only [hb, Bool.or_false, Bool.not_false, Bool.true_and]
      · have hlt : (leftOf es' (seen.push e.born)).size < (leftOf es seen).size := by
          refine Nat.lt_of_le_of_lt ?_ (left_shrinks es seen e he)
          have : (leftOf es' (seen.push e.born)).toList.Sublist (leftOf es (seen.push e.born)).toList := by
            simp only [leftOf, Array.toList_filter, hfl15]
            exact List.filter_sublist.filter _
          simpa using this.length_le
        simp only [hit15, hes15, hit, hes]
        exact hlt
    · refine ⟨⟨es, seen.push e.born, clock, hit14, Nat.le_refl _, hes14, ?_, m58.trans_no m814⟩, ?_⟩
      · rw [hfl]
        apply List.filter_congr
        intro x hx
        rw [contains_push]
        by_cases hxe : x.born = e.born
        · have := keep x hx hxe
          subst this
          simp [hbd, hpb]
        · have hb : (x.born == e.born) = false := beq_false_of_ne hxe
          simp only [hb, Bool.or_false, Bool.not_false, Bool.true_and]
      · simp only [hit14, hes14, hit, hes]
        exact left_shrinks es seen e he
end Go.Proofs.YtehhhkcemmfjpaaGreatDoor

/- The table: what it is, and what its smaller functions do. -/
namespace Go.Proofs.YtehhhkcemmfjpaaGreatDoor
open Go Go.Proofs.YtehhhkcemmfjpaaGreatDoor Go.Proofs.YtehhhkcemmfjpaaGreatDoor.St

/-- The exchanges, as they lie in a map. -/
def exL (D : List Exc) : List (ByteArray × Value) := D.map fun e => (e.n, .agg ⟨e.cs⟩)
abbrev XMap (w : World) (m : Nat) (D : List Exc) : Prop := MapAt w m (kvL Value.string (exL D))
/-- A table at t, with its maps m1 and m2. -/
structure Tbl (w : World) (t m1 m2 : Nat) (D : List Exc) (B : List Bnd) : Prop where
  cell : w.heap[t]? = some (.cells #[.map (some m1), .map (some m2)] 70 (0, 0))
  x : XMap w m1 D
  b : BMap w m2 B
  ne : m1 ≠ m2
  dn : (D.map (·.n)).Nodup
  bn : B.Nodup
abbrev of2 (m1 m2 : Nat) : Nat → Prop := fun k => k = m1 ∨ k = m2
theorem Tbl.t1 {w : World} {t m1 m2 : Nat} {D : List Exc} {B : List Bnd} (h : Tbl w t m1 m2 D B) : t ≠ m1 := by
  obtain ⟨es, c, he, _⟩ := h.x
  have := h.cell
  rintro rfl
  rw [he] at this; cases this
theorem Tbl.t2 {w : World} {t m1 m2 : Nat} {D : List Exc} {B : List Bnd} (h : Tbl w t m1 m2 D B) : t ≠ m2 := by
  obtain ⟨es, c, he, _⟩ := h.b
  have := h.cell
  rintro rfl
  rw [he] at this; cases this
theorem Tbl.mod {S : Nat → Prop} {w w' : World} {t m1 m2 : Nat} {D : List Exc} {B : List Bnd} (h : Tbl w t m1 m2 D B) (hm : Mod S w w') (ht : ¬ S t) (h1 : ¬ S m1) (h2 : ¬ S m2) : Tbl w' t m1 m2 D B :=
  ⟨hm.at h.cell ht, h.x.mod hm h1, h.b.mod hm h2, h.ne, h.dn, h.bn⟩
theorem Tbl.no {w w' : World} {t m1 m2 : Nat} {D : List Exc} {B : List Bnd} (h : Tbl w t m1 m2 D B) (hm : Mod no w w') : Tbl w' t m1 m2 D B := h.mod hm id id id
theorem bmap_len {w : World} {m : Nat} {B : List Bnd} (h : BMap w m B) : ∃ es clock, w.heap[m]? = some (.map es clock) ∧ es.size = B.length := by
  obtain ⟨es, clock, he, hk, _⟩ := h
  refine ⟨es, clock, he, ?_⟩
  have := congrArg List.length hk
  simpa [kvL, bnL] using this
theorem xmap_len {w : World} {m : Nat} {D : List Exc} (h : XMap w m D) : ∃ es clock, w.heap[m]? = some (.map es clock) ∧ es.size = D.length := by
  obtain ⟨es, clock, he, hk, _⟩ := h
  refine ⟨es, clock, he, ?_⟩
  have := congrArg List.length hk
  simpa [kvL, exL] using this

theorem made_nil (w : World) (R : Value → World → Prop) (h : R (.bool false) w) : Ca Tryz.prog 44 #[.pointer none] w R :=
  ca44 none w R (ifK_of (fun h => by cases h) fun _ => h)
theorem made_ok {w : World} {t m1 m2 : Nat} {D : List Exc} {B : List Bnd} (hT : Tbl w t m1 m2 D B) (R : Value → World → Prop) (h : R (.bool true) w) : Ca Tryz.prog 44 #[.pointer (some ⟨t, 0, none⟩)] w R :=
  ca44 (some ⟨t, 0, none⟩) w R (ifK_of (fun _ => ⟨some m1, by rw [cl1 hT.cell]; rfl, h⟩) fun h => by cases h)
/-- A table that no call made. -/
theorem made_zero {w : World} {t : Nat} {e : TypeId} {fz : Nat × Nat} {v : Value} (hT : w.heap[t]? = some (.cells #[.map none, v] e fz)) (R : Value → World → Prop) (h : R (.bool false) w) : Ca Tryz.prog 44 #[.pointer (some ⟨t, 0, none⟩)] w R :=
  ca44 (some ⟨t, 0, none⟩) w R (ifK_of (fun _ => ⟨none, by rw [cl1 hT]; rfl, h⟩) fun h => by cases h)

theorem new_ok (w : World) (R : Value → World → Prop) (h : ∀ w' t m1 m2, Tbl w' t m1 m2 [] [] → Mod no w w' → w.heap.size ≤ t → w.heap.size ≤ m1 → w.heap.size ≤ m2 → R (.pointer (some ⟨t, 0, none⟩)) w') : Ca Tryz.prog 10 #[] w R := by
  refine ca10 w R ?_
  intro w0 e0
  have m0 : Mod no w w0 := by subst e0; exact Mod.alloc _ _
  have b0 : w0.heap[w.heap.size]? = some (.map #[] 0) := by subst e0; exact new_at _ _
  have s0 : w0.heap.size = w.heap.size + 1 := by subst e0; simp
  clear e0
  intro w1 e1
  have m1 : Mod no w0 w1 := by subst e1; exact Mod.alloc _ _
  have b1 : w1.heap[w0.heap.size]? = some (.map #[] 0) := by subst e1; exact new_at _ _
  have s1 : w1.heap.size = w0.heap.size + 1 := by subst e1; simp
  clear e1
  intro w2 e2
  have m2 : Mod no w1 w2 := by subst e2; exact Mod.alloc _ _
  have b2 : w2.heap[w1.heap.size]? = some (.cells #[.map (some w.heap.size), .map (some w0.heap.size)] 70 (0, 0)) := by subst e2; exact new_at _ _
  clear e2
  exact h w2 w1.heap.size w.heap.size w0.heap.size ⟨b2, ⟨_, _, m2.at' (m1.at' b0), rfl, by simp, by simp⟩, ⟨_, _, m2.at' b1, rfl, by simp, by simp⟩, by omega, by simp, by simp⟩ ((m0.trans m1).trans m2) (by omega) (by omega) (by omega)

/-- What a test of bindings does. -/
abbrev Tests (so : Value) (p : Bnd → Bool) (w : World) (m : Nat) : Prop :=
  ∀ b w', Mod (on m) w w' → ∀ R : Value → World → Prop, (∀ w'', Mod no w' w'' → R (.bool (p b)) w'') → CaV Tryz.prog so #[.agg ⟨b.cs⟩] w' R
theorem sweep_ok (f : Fn) (fa ca : Array Value) (p : Bnd → Bool) {w : World} {t m1 m2 : Nat} {D : List Exc} {B : List Bnd} (hT : Tbl w t m1 m2 D B) (hl : B.length < 1099511627776) (hso : Tests (.func f fa ca) p w m2) (R : Value → World → Prop)
    (h : ∀ w', Tbl w' t m1 m2 D (B.filter fun b => !p b) → Mod (on m2) w w' → R (.int .i64 ((B.length : Int) - (B.filter fun b => !p b).length)) w') :
    Ca Tryz.prog 57 #[.pointer (some ⟨t, 0, none⟩), .func f fa ca] w R := by
  refine ca57 (some ⟨t, 0, none⟩) (.func f fa ca) w R ?_
  intro w0 e0
  have m0 : Mod no w w0 := by subst e0; exact Mod.alloc _ _
  have b0 : w0.heap[w.heap.size]? = some (.cells #[.func f fa ca] 45 (0, 0)) := by subst e0; exact new_at _ _
  clear e0
  have hT0 := hT.no m0
  obtain ⟨es, clock, hes, hlen⟩ := bmap_len hT0.b
  refine ⟨some m2, by rw [cl1 hT0.cell]; rfl, es, clock, hes, some m2, by rw [cl1 hT0.cell]; rfl, ?_⟩
  have hmlt : m2 < w.heap.size := by obtain ⟨_, _, hh, _⟩ := hT.b; exact lt_of_heap hh
  refine dfun_ok m2 B p _ w0 hT0.b hT.bn ?_ _ fun w7 hb7 m7 => ⟨rfl, ?_⟩
  · intro b w' mw R' hR'
    refine (ca86 b.x b.q b.p (some ⟨w.heap.size, 0, none⟩) w' R' ?_ : Ca _ _ _ _ _)
    have bb := mw.at b0 (fun hS => by cases hS; omega)
    intro u0 e0
    have u0m : Mod no w' u0 := by subst e0; exact Mod.alloc _ _
    have ub : u0.heap[w'.heap.size]? = some (.cells #[.string b.x, .string b.q, .string b.p] 35 (0, 0)) := by subst e0; exact new_at _ _
    clear e0
    intro u1 e1
    have u1m : Mod no u0 u1 := by subst e1; exact Mod.alloc _ _
    clear e1
    have ub := u1m.at' ub
    have bb := (u0m.trans u1m).at' bb
    refine ⟨_, by rw [cl bb]; rfl, _, by rw [cl1 ub]; rfl, _, by rw [cl1 ub]; rfl, _, by rw [cl1 ub]; rfl, ?_⟩
    exact hso b u1 ((m0.no_trans mw).trans_no (u0m.trans u1m)) _ fun u2 m2 => ⟨_, rfl, hR' u2 ((u0m.trans u1m).trans m2)⟩
  · have m07 := m0.no_trans m7
    have hT7 : Tbl w7 t m1 m2 D (B.filter fun b => !p b) := ⟨m07.at hT.cell (fun hS => hT.t2 hS), hT.x.mod m07 (fun hS => hT.ne hS), hb7, hT.ne, hT.dn, hT.bn.sublist List.filter_sublist⟩
    obtain ⟨es', clock', hes', hlen'⟩ := bmap_len hb7
    refine ⟨some m2, by rw [cl1 hT7.cell]; rfl, es', clock', hes', ?_⟩
    rw [hlen, hlen']
    have := h w7 hT7 m07
    have hle : (B.filter fun b => !p b).length ≤ B.length := List.length_filter_le _ _
    have e : IntKind.i64.wrap ((B.length : Int) - ((B.filter fun b => !p b).length : Nat)) = (B.length : Int) - ((B.filter fun b => !p b).length : Nat) := (by first | (simp only [IntKind.wrap_i64]; omega) | omega)
    show R (.int .i64 (IntKind.i64.wrap ((B.length : Int) - ((B.filter fun b => !p b).length : Nat)))) w7
    rw [e]
    exact this

/-! ### The tests -/
theorem toList_beq (x y : ByteArray) : (x.toList == y.toList) = decide (x = y) := by
  by_cases h : x = y
  · simp [h]
  · have : ¬ x.toList = y.toList := fun h' => h (ba_toList _ _ h')
    simp [h, this]
theorem test1 (n : ByteArray) {w : World} {k m : Nat} {e : TypeId} (hk : w.heap[k]? = some (.cells #[.string n] e (0, 0))) (hne : k ≠ m) : Tests (.func (.func 59) #[] #[.pointer (some ⟨k, 0, none⟩)]) (fun b => decide (b.x = n)) w m := by
  intro b w' mw R hR
  refine (ca59 b.x b.q b.p (some ⟨k, 0, none⟩) w' R ?_ : Ca _ _ _ _ _)
  have hk := mw.at hk hne
  intro u0 e0
  have u0m : Mod no w' u0 := by subst e0; exact Mod.alloc _ _
  have ub : u0.heap[w'.heap.size]? = some (.cells #[.string b.x, .string b.q, .string b.p] 35 (0, 0)) := by subst e0; exact new_at _ _
  clear e0
  refine ⟨_, by rw [cl1 ub]; rfl, _, by rw [cl (u0m.at' hk)]; rfl, ?_⟩
  rw [toList_beq]
  exact hR u0 u0m
theorem test2 (n : ByteArray) {w : World} {k m : Nat} {e : TypeId} (hk : w.heap[k]? = some (.cells #[.string n] e (0, 0))) (hne : k ≠ m) : Tests (.func (.func 74) #[] #[.pointer (some ⟨k, 0, none⟩)]) (fun b => decide (b.q = n)) w m := by
  intro b w' mw R hR
  refine (ca74 b.x b.q b.p (some ⟨k, 0, none⟩) w' R ?_ : Ca _ _ _ _ _)
  have hk := mw.at hk hne
  intro u0 e0
  have u0m : Mod no w' u0 := by subst e0; exact Mod.alloc _ _
  have ub : u0.heap[w'.heap.size]? = some (.cells #[.string b.x, .string b.q, .string b.p] 35 (0, 0)) := by subst e0; exact new_at _ _
  clear e0
  refine ⟨_, by rw [cl1 ub]; rfl, _, by rw [cl (u0m.at' hk)]; rfl, ?_⟩
  rw [toList_beq]
  exact hR u0 u0m
theorem test3 (n : Bnd) {w : World} {k m : Nat} {e : TypeId} (hk : w.heap[k]? = some (.cells #[.string n.x, .string n.q, .string n.p] e (0, 0))) (hne : k ≠ m) : Tests (.func (.func 58) #[] #[.pointer (some ⟨k, 0, none⟩)]) (fun b => decide (b = n)) w m := by
  intro b w' mw R hR
  refine (ca58 b.x b.q b.p (some ⟨k, 0, none⟩) w' R ?_ : Ca _ _ _ _ _)
  have hk := mw.at hk hne
  intro u0 e0
  have u0m : Mod no w' u0 := by subst e0; exact Mod.alloc _ _
  have ub : u0.heap[w'.heap.size]? = some (.cells #[.string b.x, .string b.q, .string b.p] 35 (0, 0)) := by subst e0; exact new_at _ _
  clear e0
  have hk := u0m.at' hk
  refine ⟨_, by rw [cl1 ub]; rfl, _, by rw [cl1 ub]; rfl, _, by rw [cl1 ub]; rfl, _, by rw [cl1 hk]; rfl, _, by rw [cl1 hk]; rfl, _, by rw [cl1 hk]; rfl, ?_⟩
  exact eqA_agg bnd_s.guard (bnd_s.eq b n) (hR u0 u0m)
end Go.Proofs.YtehhhkcemmfjpaaGreatDoor

/- The formulas of functions, printed by a program of mine (gen.py) out of the translation. -/
namespace Go.Proofs.YtehhhkcemmfjpaaGreatDoor
open Go Go.Proofs.YtehhhkcemmfjpaaGreatDoor.St
open _root_.Go.Value (string int bool slice pointer agg tuple map func nilFunc iface)
open _root_.Go.World (cell? frozen? setCell alloc drew)
open _root_.Go.Addr (add)
open _root_.Go.Obj (cells)
open _root_.Go.IntKind (wrap i64 u64 i32 u32 u8)
set_option maxRecDepth 100000

/-- (*staith/bind.Table).Find -/
noncomputable def C17 : Code := (Tryz.f17.body).getD .skip
def pl17 : Nat → Plan := fun _ => .done
def ls17 : Nat → List (Nat × LT) := fun _ => []
def W17 (t : Option Addr) (name : ByteArray) (w : World) (R : Value → World → Prop) : Prop :=
  (atW (alloc w (cells (Array.mk [string (ByteArray.mk #[]), int i64 0, bool false]) 33 (0, 0))) (fun w0 =>
(Ca Tryz.prog (44) (Array.mk [pointer t]) (w0) (fun v1 => (fun w2 =>
(∃ b3 : Bool, ((v1 = bool b3) ∧ (ifK (!b3)
(st1 (add (nw w) 0) (string (ByteArray.mk #[])) w2 (fun w5 =>
(st1 (add (nw w) 1) (int i64 0) w5 (fun w7 =>
(st1 (add (nw w) 2) (bool false) w7 (fun w9 =>
(∃ s10 : ByteArray, ((cell? w9 (add (nw w) 0) = some (string s10)) ∧ (∃ x11 : Int, ((cell? w9 (add (nw w) 1) = some (int i64 x11)) ∧ (∃ b12 : Bool, ((cell? w9 (add (nw w) 2) = some (bool b12)) ∧ (R (tuple (Array.mk [agg (Array.mk (List.reverse [bool b12, int i64 x11, string s10])), bool false])) (w9))))))))))))))
(onP (t) (fun a13 =>
(∃ p14 : Option Nat, ((cell? w2 (add a13 0) = some (map p14)) ∧ (∃ v15 : Value, (∃ w16 : World, ((Sem.run Tryz.prog (Instr.lookup 67 (map p14) (string name) true) w2 = Result.ok v15 w16) ∧ (∃ s17 : ByteArray, (∃ x18 : Int, (∃ b19 : Bool, (∃ b20 : Bool, ((v15 = tuple (Array.mk (List.reverse [bool b20, agg (Array.mk (List.reverse [bool b19, int i64 x18, string s17]))]))) ∧ (atW (alloc w16 (cells (Array.mk [string (ByteArray.mk #[]), int i64 0, bool false]) 33 (0, 0))) (fun w21 =>
(st1 (add (nw w16) 0) (string s17) w21 (fun w23 =>
(st1 (add (nw w16) 1) (int i64 x18) w23 (fun w25 =>
(st1 (add (nw w16) 2) (bool b19) w25 (fun w27 =>
(∃ s28 : ByteArray, ((cell? w27 (add (nw w16) 0) = some (string s28)) ∧ (∃ x29 : Int, ((cell? w27 (add (nw w16) 1) = some (int i64 x29)) ∧ (∃ b30 : Bool, ((cell? w27 (add (nw w16) 2) = some (bool b30)) ∧ (st1 (add (nw w) 0) (string s28) w27 (fun w32 =>
(st1 (add (nw w) 1) (int i64 x29) w32 (fun w34 =>
(st1 (add (nw w) 2) (bool b30) w34 (fun w36 =>
(∃ s37 : ByteArray, ((cell? w36 (add (nw w) 0) = some (string s37)) ∧ (∃ x38 : Int, ((cell? w36 (add (nw w) 1) = some (int i64 x38)) ∧ (∃ b39 : Bool, ((cell? w36 (add (nw w) 2) = some (bool b39)) ∧ (R (tuple (Array.mk [agg (Array.mk (List.reverse [bool b39, int i64 x38, string s37])), bool b20])) (w36))))))))))))))))))))))))))))))))))))))))))))))))
theorem ca17 (t : Option Addr) (name : ByteArray) (w : World) (R : Value → World → Prop) (h : W17 t name w R) : Ca Tryz.prog 17 ⟨[(.pointer t), (.string name)]⟩ w R :=
  caB (fn := Tryz.f17) (pl := pl17) (ls := ls17) Tryz.func17 (by kernel_rfl) (by kernel_rfl) h

/-- staith/bind.Good -/
noncomputable def C18 : Code := (Tryz.f18.body).getD .skip
def pl18 : Nat → Plan := fun _ => .done
def ls18 : Nat → List (Nat × LT) := fun _ => []
def W18 (x0_ : ByteArray) (x1_ : Int) (x2_ : Bool) (w : World) (R : Value → World → Prop) : Prop :=
  (atW (alloc w (cells (Array.mk [string x0_, int i64 x1_, bool x2_]) 33 (0, 0))) (fun w0 =>
(∃ s1 : ByteArray, ((cell? w0 (add (nw w) 0) = some (string s1)) ∧ (Ca Tryz.prog (53) (Array.mk [string s1]) (w0) (fun v2 => (fun w3 =>
(∃ b4 : Bool, ((v2 = bool b4) ∧ (ifK (b4)
(∃ x5 : Int, ((cell? w3 (add (nw w) 1) = some (int i64 x5)) ∧ (ifK (x5 == 1)
(R (bool true) (w3))
(∃ x6 : Int, ((cell? w3 (add (nw w) 1) = some (int i64 x6)) ∧ (ifK (x6 == 2)
(R (bool true) (w3))
(∃ x7 : Int, ((cell? w3 (add (nw w) 1) = some (int i64 x7)) ∧ (R (bool (x7 == 3)) (w3))))))))))
(R (bool false) (w3))))))))))))
theorem ca18 (x0_ : ByteArray) (x1_ : Int) (x2_ : Bool) (w : World) (R : Value → World → Prop) (h : W18 x0_ x1_ x2_ w R) : Ca Tryz.prog 18 ⟨[(.agg ⟨[(.string x0_), (.int .i64 x1_), (.bool x2_)]⟩)]⟩ w R :=
  caB (fn := Tryz.f18) (pl := pl18) (ls := ls18) Tryz.func18 (by kernel_rfl) (by kernel_rfl) h

/-- (*staith/bind.Table).Declare -/
noncomputable def C35 : Code := (Tryz.f35.body).getD .skip
def pl35 : Nat → Plan
  | 5 => (.quiet 0 (.quiet 1 (.quiet 2 (.quiet 3 (.quiet 4 (.quiet 5 (.fork (.eff 6 [] (.quiet 7 (.quiet 8 (.quiet 9 (.eff 10 [3, 5] (.eff 11 [] (.quiet 12 .done))))))) (.eff 10 [3, 5] (.eff 6 [] (.quiet 7 (.quiet 8 (.quiet 9 (.eff 11 [] (.quiet 12 .done))))))))))))))
  | 12 => (.quiet 0 (.quiet 1 (.quiet 2 (.quiet 3 (.quiet 4 (.quiet 5 (.quiet 6 (.eff 7 [] .done))))))))
  | _ => .done
def ls35 : Nat → List (Nat × LT)
  | 6 => [(0, .agg []), (5, (.one .ptr)), (6, (.one .bool))]
  | _ => []
def W35 (t : Option Addr) (x0_ : ByteArray) (x1_ : Int) (x2_ : Bool) (w : World) (R : Value → World → Prop) : Prop :=
  (atW (alloc w (cells (Array.mk [string x0_, int i64 x1_, bool x2_]) 33 (0, 0))) (fun w0 =>
(Ca Tryz.prog (44) (Array.mk [pointer t]) (w0) (fun v1 => (fun w2 =>
(∃ b3 : Bool, ((v1 = bool b3) ∧ (ifK (!b3)
(R (int i64 1) (w2))
(∃ s4 : ByteArray, ((cell? w2 (add (nw w) 0) = some (string s4)) ∧ (∃ x5 : Int, ((cell? w2 (add (nw w) 1) = some (int i64 x5)) ∧ (∃ b6 : Bool, ((cell? w2 (add (nw w) 2) = some (bool b6)) ∧ (Ca Tryz.prog (18) (Array.mk [agg (Array.mk (List.reverse [bool b6, int i64 x5, string s4]))]) (w2) (fun v7 => (fun w8 =>
(∃ b9 : Bool, ((v7 = bool b9) ∧ (ifK (!b9)
(R (int i64 2) (w8))
(∃ z10 : Option Addr → Bool → World → Prop, ((atW (drew w8) (fun w11 =>
(onP (t) (fun a12 =>
(∃ p13 : Option Nat, ((cell? w11 (add a12 0) = some (map p13)) ∧ (∃ s14 : ByteArray, ((cell? w11 (add (nw w) 0) = some (string s14)) ∧ ((∃ v15 : Value, (∃ w16 : World, ((Sem.run Tryz.prog (Instr.lookup 67 (map p13) (string s14) true) w11 = Result.ok v15 w16) ∧ (∃ s17 : ByteArray, (∃ x18 : Int, (∃ b19 : Bool, (∃ b20 : Bool, ((v15 = tuple (Array.mk (List.reverse [bool b20, agg (Array.mk (List.reverse [bool b19, int i64 x18, string s17]))]))) ∧ (atW (alloc w16 (cells (Array.mk [string (ByteArray.mk #[]), int i64 0, bool false]) 33 (0, 0))) (fun w21 =>
((cell? w21 (add (add a12 0) 0) = some (map p13)) ∧ ((cell? w21 (add (add (nw w) 0) 0) = some (string s14)) ∧ (st1 (add (nw w16) 0) (string s17) w21 (fun w23 =>
(st1 (add (nw w16) 1) (int i64 x18) w23 (fun w25 =>
(st1 (add (nw w16) 2) (bool b19) w25 (fun w27 =>
(z10 (some (nw w16)) (b20) (w27)))))))))))))))))))) ∧ (atW (alloc w11 (cells (Array.mk [string (ByteArray.mk #[]), int i64 0, bool false]) 33 (0, 0))) (fun w28 =>
((cell? w28 (add (add a12 0) 0) = some (map p13)) ∧ ((cell? w28 (add (add (nw w) 0) 0) = some (string s14)) ∧ (∃ v29 : Value, (∃ w30 : World, ((Sem.run Tryz.prog (Instr.lookup 67 (map p13) (string s14) true) w28 = Result.ok v29 w30) ∧ (∃ s31 : ByteArray, (∃ x32 : Int, (∃ b33 : Bool, (∃ b34 : Bool, ((v29 = tuple (Array.mk (List.reverse [bool b34, agg (Array.mk (List.reverse [bool b33, int i64 x32, string s31]))]))) ∧ (st1 (add (nw w11) 0) (string s31) w30 (fun w36 =>
(st1 (add (nw w11) 1) (int i64 x32) w36 (fun w38 =>
(st1 (add (nw w11) 2) (bool b33) w38 (fun w40 =>
(z10 (some (nw w11)) (b34) (w40))))))))))))))))))))))))))))) ∧ (∀ (_ : Nat → Value), (∀ (p42 : Option Addr), (∀ (b43 : Bool), (∀ (w44 : World), ((z10 (p42) (b43) (w44)) → (ifK (b43)
(onP (p42) (fun a45 =>
(∃ s46 : ByteArray, ((cell? w44 (add a45 0) = some (string s46)) ∧ (∃ x47 : Int, ((cell? w44 (add a45 1) = some (int i64 x47)) ∧ (∃ b48 : Bool, ((cell? w44 (add a45 2) = some (bool b48)) ∧ (∃ s49 : ByteArray, ((cell? w44 (add (nw w) 0) = some (string s49)) ∧ (∃ x50 : Int, ((cell? w44 (add (nw w) 1) = some (int i64 x50)) ∧ (∃ b51 : Bool, ((cell? w44 (add (nw w) 2) = some (bool b51)) ∧ (eqA Tryz.prog 33 (agg (Array.mk (List.reverse [bool b48, int i64 x47, string s46]))) (agg (Array.mk (List.reverse [bool b51, int i64 x50, string s49]))) (w44) (fun b52 => (fun w53 =>
(ifK (b52)
(R (int i64 0) (w53))
(ifK (b43)
(R (int i64 12) (w53))
(onP (t) (fun a54 =>
(∃ p55 : Option Nat, ((cell? w53 (add a54 0) = some (map p55)) ∧ (lenM (p55) (w53) (fun x56 =>
(ifK (decide (x56 ≥ 8))
(R (int i64 5) (w53))
(atW (drew w53) (fun w57 =>
(onP (t) (fun a58 =>
(∃ p59 : Option Nat, ((cell? w57 (add a58 0) = some (map p59)) ∧ (∃ s60 : ByteArray, ((cell? w57 (add (nw w) 0) = some (string s60)) ∧ (∃ s61 : ByteArray, ((cell? w57 (add (nw w) 0) = some (string s61)) ∧ (∃ x62 : Int, ((cell? w57 (add (nw w) 1) = some (int i64 x62)) ∧ (∃ b63 : Bool, ((cell? w57 (add (nw w) 2) = some (bool b63)) ∧ (∃ w64 : World, ((Sem.run Tryz.prog (Instr.mapUpdate 67 (map p59) (string s60) (agg (Array.mk (List.reverse [bool b63, int i64 x62, string s61])))) w57 = Result.ok () w64) ∧ (R (int i64 0) (w64))))))))))))))))))))))))))))))))))))))))))))
(ifK (b43)
(R (int i64 12) (w44))
(onP (t) (fun a65 =>
(∃ p66 : Option Nat, ((cell? w44 (add a65 0) = some (map p66)) ∧ (lenM (p66) (w44) (fun x67 =>
(ifK (decide (x67 ≥ 8))
(R (int i64 5) (w44))
(atW (drew w44) (fun w68 =>
(onP (t) (fun a69 =>
(∃ p70 : Option Nat, ((cell? w68 (add a69 0) = some (map p70)) ∧ (∃ s71 : ByteArray, ((cell? w68 (add (nw w) 0) = some (string s71)) ∧ (∃ s72 : ByteArray, ((cell? w68 (add (nw w) 0) = some (string s72)) ∧ (∃ x73 : Int, ((cell? w68 (add (nw w) 1) = some (int i64 x73)) ∧ (∃ b74 : Bool, ((cell? w68 (add (nw w) 2) = some (bool b74)) ∧ (∃ w75 : World, ((Sem.run Tryz.prog (Instr.mapUpdate 67 (map p70) (string s71) (agg (Array.mk (List.reverse [bool b74, int i64 x73, string s72])))) w68 = Result.ok () w75) ∧ (R (int i64 0) (w75))))))))))))))))))))))))))))))))))))))))))))))))))))))
theorem ca35 (t : Option Addr) (x0_ : ByteArray) (x1_ : Int) (x2_ : Bool) (w : World) (R : Value → World → Prop) (h : W35 t x0_ x1_ x2_ w R) : Ca Tryz.prog 35 ⟨[(.pointer t), (.agg ⟨[(.string x0_), (.int .i64 x1_), (.bool x2_)]⟩)]⟩ w R :=
  caB (fn := Tryz.f35) (pl := pl35) (ls := ls35) Tryz.func35 (by kernel_rfl) (by kernel_rfl) h

/-- (*staith/bind.Table).Bind -/
noncomputable def C21 : Code := (Tryz.f21.body).getD .skip
def pl21 : Nat → Plan
  | 3 => (.quiet 0 (.quiet 1 (.quiet 2 (.quiet 3 (.quiet 4 (.quiet 5 (.fork (.eff 6 [] (.quiet 7 (.quiet 8 (.quiet 9 (.eff 10 [3, 5] (.eff 11 [] (.quiet 12 .done))))))) (.eff 10 [3, 5] (.eff 6 [] (.quiet 7 (.quiet 8 (.quiet 9 (.eff 11 [] (.quiet 12 .done))))))))))))))
  | 4 => (.quiet 0 (.quiet 1 (.quiet 2 (.quiet 3 (.quiet 4 (.fork (.eff 5 [] (.quiet 6 (.quiet 7 (.quiet 8 (.eff 9 [3, 4] (.eff 10 [] (.quiet 11 .done))))))) (.eff 9 [3, 4] (.eff 5 [] (.quiet 6 (.quiet 7 (.quiet 8 (.eff 10 [] (.quiet 11 .done)))))))))))))
  | 13 => (.quiet 0 (.quiet 1 (.quiet 2 (.quiet 3 (.quiet 4 (.quiet 5 (.eff 6 [] .done)))))))
  | _ => .done
def ls21 : Nat → List (Nat × LT)
  | 4 => [(0, .agg []), (5, (.one .ptr)), (6, (.one .bool))]
  | 5 => [(0, .agg []), (8, (.one .bool))]
  | _ => []
def W21 (t : Option Addr) (b0_ : ByteArray) (b1_ : ByteArray) (b2_ : ByteArray) (w : World) (R : Value → World → Prop) : Prop :=
  (atW (alloc w (cells (Array.mk [string b0_, string b1_, string b2_]) 35 (0, 0))) (fun w0 =>
(Ca Tryz.prog (44) (Array.mk [pointer t]) (w0) (fun v1 => (fun w2 =>
(∃ b3 : Bool, ((v1 = bool b3) ∧ (ifK (!b3)
(R (int i64 1) (w2))
(∃ z4 : Option Addr → Bool → World → Prop, ((atW (drew w2) (fun w5 =>
(onP (t) (fun a6 =>
(∃ p7 : Option Nat, ((cell? w5 (add a6 0) = some (map p7)) ∧ (∃ s8 : ByteArray, ((cell? w5 (add (nw w) 0) = some (string s8)) ∧ ((∃ v9 : Value, (∃ w10 : World, ((Sem.run Tryz.prog (Instr.lookup 67 (map p7) (string s8) true) w5 = Result.ok v9 w10) ∧ (∃ s11 : ByteArray, (∃ x12 : Int, (∃ b13 : Bool, (∃ b14 : Bool, ((v9 = tuple (Array.mk (List.reverse [bool b14, agg (Array.mk (List.reverse [bool b13, int i64 x12, string s11]))]))) ∧ (atW (alloc w10 (cells (Array.mk [string (ByteArray.mk #[]), int i64 0, bool false]) 33 (0, 0))) (fun w15 =>
((cell? w15 (add (add a6 0) 0) = some (map p7)) ∧ ((cell? w15 (add (add (nw w) 0) 0) = some (string s8)) ∧ (st1 (add (nw w10) 0) (string s11) w15 (fun w17 =>
(st1 (add (nw w10) 1) (int i64 x12) w17 (fun w19 =>
(st1 (add (nw w10) 2) (bool b13) w19 (fun w21 =>
(z4 (some (nw w10)) (b14) (w21)))))))))))))))))))) ∧ (atW (alloc w5 (cells (Array.mk [string (ByteArray.mk #[]), int i64 0, bool false]) 33 (0, 0))) (fun w22 =>
((cell? w22 (add (add a6 0) 0) = some (map p7)) ∧ ((cell? w22 (add (add (nw w) 0) 0) = some (string s8)) ∧ (∃ v23 : Value, (∃ w24 : World, ((Sem.run Tryz.prog (Instr.lookup 67 (map p7) (string s8) true) w22 = Result.ok v23 w24) ∧ (∃ s25 : ByteArray, (∃ x26 : Int, (∃ b27 : Bool, (∃ b28 : Bool, ((v23 = tuple (Array.mk (List.reverse [bool b28, agg (Array.mk (List.reverse [bool b27, int i64 x26, string s25]))]))) ∧ (st1 (add (nw w5) 0) (string s25) w24 (fun w30 =>
(st1 (add (nw w5) 1) (int i64 x26) w30 (fun w32 =>
(st1 (add (nw w5) 2) (bool b27) w32 (fun w34 =>
(z4 (some (nw w5)) (b28) (w34))))))))))))))))))))))))))))) ∧ (∀ (_ : Nat → Value), (∀ (p36 : Option Addr), (∀ (b37 : Bool), (∀ (w38 : World), ((z4 (p36) (b37) (w38)) → (∃ z39 : Bool → World → Prop, ((atW (drew w38) (fun w40 =>
(onP (t) (fun a41 =>
(∃ p42 : Option Nat, ((cell? w40 (add a41 1) = some (map p42)) ∧ (∃ s43 : ByteArray, ((cell? w40 (add (nw w) 0) = some (string s43)) ∧ (∃ s44 : ByteArray, ((cell? w40 (add (nw w) 1) = some (string s44)) ∧ (∃ s45 : ByteArray, ((cell? w40 (add (nw w) 2) = some (string s45)) ∧ ((∃ v46 : Value, (∃ w47 : World, ((Sem.run Tryz.prog (Instr.lookup 68 (map p42) (agg (Array.mk (List.reverse [string s45, string s44, string s43]))) true) w40 = Result.ok v46 w47) ∧ (∃ b48 : Bool, ((v46 = tuple (Array.mk (List.reverse [bool b48, agg (Array.mk (List.reverse []))]))) ∧ (atW (alloc w47 (cells (Array.mk []) 85 (0, 0))) (fun w49 =>
((cell? w49 (add (add a41 1) 0) = some (map p42)) ∧ ((cell? w49 (add (nw w) 0) = some (string s43)) ∧ ((cell? w49 (add (nw w) 1) = some (string s44)) ∧ ((cell? w49 (add (nw w) 2) = some (string s45)) ∧ (z39 (b48) (w49))))))))))))) ∧ (atW (alloc w40 (cells (Array.mk []) 85 (0, 0))) (fun w50 =>
((cell? w50 (add (add a41 1) 0) = some (map p42)) ∧ ((cell? w50 (add (nw w) 0) = some (string s43)) ∧ ((cell? w50 (add (nw w) 1) = some (string s44)) ∧ ((cell? w50 (add (nw w) 2) = some (string s45)) ∧ (∃ v51 : Value, (∃ w52 : World, ((Sem.run Tryz.prog (Instr.lookup 68 (map p42) (agg (Array.mk (List.reverse [string s45, string s44, string s43]))) true) w50 = Result.ok v51 w52) ∧ (∃ b53 : Bool, ((v51 = tuple (Array.mk (List.reverse [bool b53, agg (Array.mk (List.reverse []))]))) ∧ (z39 (b53) (w52)))))))))))))))))))))))))) ∧ (∀ (_ : Nat → Value), (∀ (b55 : Bool), (∀ (w56 : World), ((z39 (b55) (w56)) → (∃ s57 : ByteArray, ((cell? w56 (add (nw w) 1) = some (string s57)) ∧ (Ca Tryz.prog (53) (Array.mk [string s57]) (w56) (fun v58 => (fun w59 =>
(∃ b60 : Bool, ((v58 = bool b60) ∧ (ifK (!b60)
(R (int i64 2) (w59))
(ifK (!b37)
(R (int i64 3) (w59))
(onP (p36) (fun a61 =>
(∃ s62 : ByteArray, ((cell? w59 (add a61 0) = some (string s62)) ∧ (∃ x63 : Int, ((cell? w59 (add a61 1) = some (int i64 x63)) ∧ (∃ b64 : Bool, ((cell? w59 (add a61 2) = some (bool b64)) ∧ (∃ s65 : ByteArray, ((cell? w59 (add (nw w) 2) = some (string s65)) ∧ (Ca Tryz.prog (56) (Array.mk [agg (Array.mk (List.reverse [bool b64, int i64 x63, string s62])), string s65]) (w59) (fun v66 => (fun w67 =>
(∃ b68 : Bool, ((v66 = bool b68) ∧ (ifK (!b68)
(R (int i64 2) (w67))
(ifK (!b55)
(onP (t) (fun a69 =>
(∃ p70 : Option Nat, ((cell? w67 (add a69 1) = some (map p70)) ∧ (lenM (p70) (w67) (fun x71 =>
(ifK (decide (x71 ≥ 32))
(R (int i64 5) (w67))
(atW (drew w67) (fun w72 =>
(onP (t) (fun a73 =>
(∃ p74 : Option Nat, ((cell? w72 (add a73 1) = some (map p74)) ∧ (∃ s75 : ByteArray, ((cell? w72 (add (nw w) 0) = some (string s75)) ∧ (∃ s76 : ByteArray, ((cell? w72 (add (nw w) 1) = some (string s76)) ∧ (∃ s77 : ByteArray, ((cell? w72 (add (nw w) 2) = some (string s77)) ∧ (∃ w78 : World, ((Sem.run Tryz.prog (Instr.mapUpdate 68 (map p74) (agg (Array.mk (List.reverse [string s77, string s76, string s75]))) (agg (Array.mk (Array.toList (Array.mk []))))) w72 = Result.ok () w78) ∧ (R (int i64 0) (w78)))))))))))))))))))))))
(atW (drew w67) (fun w79 =>
(onP (t) (fun a80 =>
(∃ p81 : Option Nat, ((cell? w79 (add a80 1) = some (map p81)) ∧ (∃ s82 : ByteArray, ((cell? w79 (add (nw w) 0) = some (string s82)) ∧ (∃ s83 : ByteArray, ((cell? w79 (add (nw w) 1) = some (string s83)) ∧ (∃ s84 : ByteArray, ((cell? w79 (add (nw w) 2) = some (string s84)) ∧ (∃ w85 : World, ((Sem.run Tryz.prog (Instr.mapUpdate 68 (map p81) (agg (Array.mk (List.reverse [string s84, string s83, string s82]))) (agg (Array.mk (Array.toList (Array.mk []))))) w79 = Result.ok () w85) ∧ (R (int i64 0) (w85)))))))))))))))))))))))))))))))))))))))))))))))))))))))))))))))
theorem ca21 (t : Option Addr) (b0_ : ByteArray) (b1_ : ByteArray) (b2_ : ByteArray) (w : World) (R : Value → World → Prop) (h : W21 t b0_ b1_ b2_ w R) : Ca Tryz.prog 21 ⟨[(.pointer t), (.agg ⟨[(.string b0_), (.string b1_), (.string b2_)]⟩)]⟩ w R :=
  caB (fn := Tryz.f21) (pl := pl21) (ls := ls21) Tryz.func21 (by kernel_rfl) (by kernel_rfl) h

/-- (*staith/bind.Table).Drop -/
noncomputable def C23 : Code := (Tryz.f23.body).getD .skip
def pl23 : Nat → Plan
  | 3 => (.quiet 0 (.quiet 1 (.quiet 2 (.quiet 3 (.quiet 4 (.fork (.eff 5 [] (.quiet 6 (.quiet 7 (.quiet 8 (.eff 9 [3, 4] (.eff 10 [] (.quiet 11 .done))))))) (.eff 9 [3, 4] (.eff 5 [] (.quiet 6 (.quiet 7 (.quiet 8 (.eff 10 [] (.quiet 11 .done)))))))))))))
  | 6 => (.quiet 0 (.quiet 1 (.quiet 2 (.quiet 3 (.quiet 4 (.eff 5 [] .done))))))
  | _ => .done
def ls23 : Nat → List (Nat × LT)
  | 5 => [(0, .agg []), (6, (.one .bool))]
  | _ => []
def W23 (t : Option Addr) (name : ByteArray) (w : World) (R : Value → World → Prop) : Prop :=
  (atW (alloc w (cells (Array.mk [string name]) 9 (0, 0))) (fun w0 =>
(Ca Tryz.prog (44) (Array.mk [pointer t]) (w0) (fun v1 => (fun w2 =>
(∃ b3 : Bool, ((v1 = bool b3) ∧ (ifK (!b3)
(R (int i64 1) (w2))
(∃ z4 : Bool → World → Prop, ((atW (drew w2) (fun w5 =>
(onP (t) (fun a6 =>
(∃ p7 : Option Nat, ((cell? w5 (add a6 0) = some (map p7)) ∧ (∃ s8 : ByteArray, ((cell? w5 (nw w) = some (string s8)) ∧ ((∃ v9 : Value, (∃ w10 : World, ((Sem.run Tryz.prog (Instr.lookup 67 (map p7) (string s8) true) w5 = Result.ok v9 w10) ∧ (∃ s11 : ByteArray, (∃ x12 : Int, (∃ b13 : Bool, (∃ b14 : Bool, ((v9 = tuple (Array.mk (List.reverse [bool b14, agg (Array.mk (List.reverse [bool b13, int i64 x12, string s11]))]))) ∧ (atW (alloc w10 (cells (Array.mk [string (ByteArray.mk #[]), int i64 0, bool false]) 33 (0, 0))) (fun w15 =>
((cell? w15 (add (add a6 0) 0) = some (map p7)) ∧ ((cell? w15 (add (nw w) 0) = some (string s8)) ∧ (st1 (add (nw w10) 0) (string s11) w15 (fun w17 =>
(st1 (add (nw w10) 1) (int i64 x12) w17 (fun w19 =>
(st1 (add (nw w10) 2) (bool b13) w19 (fun w21 =>
(z4 (b14) (w21)))))))))))))))))))) ∧ (atW (alloc w5 (cells (Array.mk [string (ByteArray.mk #[]), int i64 0, bool false]) 33 (0, 0))) (fun w22 =>
((cell? w22 (add (add a6 0) 0) = some (map p7)) ∧ ((cell? w22 (add (nw w) 0) = some (string s8)) ∧ (∃ v23 : Value, (∃ w24 : World, ((Sem.run Tryz.prog (Instr.lookup 67 (map p7) (string s8) true) w22 = Result.ok v23 w24) ∧ (∃ s25 : ByteArray, (∃ x26 : Int, (∃ b27 : Bool, (∃ b28 : Bool, ((v23 = tuple (Array.mk (List.reverse [bool b28, agg (Array.mk (List.reverse [bool b27, int i64 x26, string s25]))]))) ∧ (st1 (add (nw w5) 0) (string s25) w24 (fun w30 =>
(st1 (add (nw w5) 1) (int i64 x26) w30 (fun w32 =>
(st1 (add (nw w5) 2) (bool b27) w32 (fun w34 =>
(z4 (b28) (w34))))))))))))))))))))))))))))) ∧ (∀ (_ : Nat → Value), (∀ (b36 : Bool), (∀ (w37 : World), ((z4 (b36) (w37)) → (ifK (!b36)
(R (int i64 3) (w37))
(atW (drew w37) (fun w38 =>
(onP (t) (fun a39 =>
(∃ p40 : Option Nat, ((cell? w38 (add a39 0) = some (map p40)) ∧ (∃ s41 : ByteArray, ((cell? w38 (nw w) = some (string s41)) ∧ (∃ v42 : Value, (∃ w43 : World, ((Sem.run Tryz.prog (Builtin.delete_ (Array.mk [67, 9]) 0 (Array.mk [map p40, string s41])) w38 = Result.ok v42 w43) ∧ ((v42 = tuple (Array.mk (List.reverse []))) ∧ (Ca Tryz.prog (57) (Array.mk [pointer t, func (Fn.func 59) (Array.mk []) (Array.mk [pointer (some (nw w))])]) (w43) (fun v44 => (fun w45 =>
(∃ x46 : Int, ((v44 = int i64 x46) ∧ (R (int i64 0) (w45))))))))))))))))))))))))))))))))))
theorem ca23 (t : Option Addr) (name : ByteArray) (w : World) (R : Value → World → Prop) (h : W23 t name w R) : Ca Tryz.prog 23 ⟨[(.pointer t), (.string name)]⟩ w R :=
  caB (fn := Tryz.f23) (pl := pl23) (ls := ls23) Tryz.func23 (by kernel_rfl) (by kernel_rfl) h

/-- staith/bind.may -/
noncomputable def C56 : Code := (Tryz.f56.body).getD .skip
def pl56 : Nat → Plan := fun _ => .done
def ls56 : Nat → List (Nat × LT) := fun _ => []
def W56 (x0_ : ByteArray) (x1_ : Int) (x2_ : Bool) (pattern : ByteArray) (w : World) (R : Value → World → Prop) : Prop :=
  (atW (alloc w (cells (Array.mk [string x0_, int i64 x1_, bool x2_]) 33 (0, 0))) (fun w0 =>
(∃ x1 : Int, ((cell? w0 (add (nw w) 1) = some (int i64 x1)) ∧ (ifK (x1 == 1)
(Ca Tryz.prog (66) (Array.mk [string pattern]) (w0) (fun v2 => (fun w3 =>
(∃ b4 : Bool, ((v2 = bool b4) ∧ (R (bool b4) (w3)))))))
(ifK (x1 == 3)
(Ca Tryz.prog (84) (Array.mk [string pattern]) (w0) (fun v5 => (fun w6 =>
(∃ b7 : Bool, ((v5 = bool b7) ∧ (R (bool b7) (w6)))))))
(R (bool (ByteArray.toList pattern == ByteArray.toList (ByteArray.mk #[]))) (w0))))))))
theorem ca56 (x0_ : ByteArray) (x1_ : Int) (x2_ : Bool) (pattern : ByteArray) (w : World) (R : Value → World → Prop) (h : W56 x0_ x1_ x2_ pattern w R) : Ca Tryz.prog 56 ⟨[(.agg ⟨[(.string x0_), (.int .i64 x1_), (.bool x2_)]⟩), (.string pattern)]⟩ w R :=
  caB (fn := Tryz.f56) (pl := pl56) (ls := ls56) Tryz.func56 (by kernel_rfl) (by kernel_rfl) h

/-- staith/topic.Name -/
noncomputable def C53 : Code := (Tryz.f53.body).getD .skip
def pl53 : Nat → Plan := fun _ => .done
def ls53 : Nat → List (Nat × LT) := fun _ => []
def W53 (s : ByteArray) (w : World) (R : Value → World → Prop) : Prop :=
  (ifK (decide ((↑(ByteArray.size s) : Int) ≤ 20))
(Ca Tryz.prog (82) (Array.mk [string s]) (w) (fun v0 => (fun w1 =>
(∃ b2 : Bool, ((v0 = bool b2) ∧ (R (bool b2) (w1)))))))
(R (bool false) (w)))
theorem ca53 (s : ByteArray) (w : World) (R : Value → World → Prop) (h : W53 s w R) : Ca Tryz.prog 53 ⟨[(.string s)]⟩ w R :=
  caB (fn := Tryz.f53) (pl := pl53) (ls := ls53) Tryz.func53 (by kernel_rfl) (by kernel_rfl) h

/-- staith/topic.plain -/
noncomputable def C82 : Code := (Tryz.f82.body).getD .skip
def pl82 : Nat → Plan := fun _ => .done
def ls82 : Nat → List (Nat × LT)
  | 3 => []
  | _ => []
def W82 (w_ : ByteArray) (w : World) (R : Value → World → Prop) : Prop :=
  (atW (alloc w (Obj.stringIter w_ 0)) (fun w0 =>
(∃ z1 : World → Prop, (∃ z2 : World → Nat, ((z1 (w0)) ∧ (∀ (_ : Nat → Value), (∀ (w4 : World), ((z1 (w4)) → (nxtS (Array.size (World.heap w)) (w4) (fun _ => (fun x6 => (fun w7 =>
(ifK (decide (x6 ≥ 97))
(ifK (decide (x6 ≤ 122))
((z1 (w7)) ∧ (z2 w7 < z2 w4))
(ifK (decide (x6 ≥ 48))
(ifK (decide (x6 ≤ 57))
((z1 (w7)) ∧ (z2 w7 < z2 w4))
(ifK (x6 == 45)
((z1 (w7)) ∧ (z2 w7 < z2 w4))
(ifK (x6 == 95)
((z1 (w7)) ∧ (z2 w7 < z2 w4))
(R (bool false) (w7)))))
(ifK (x6 == 45)
((z1 (w7)) ∧ (z2 w7 < z2 w4))
(ifK (x6 == 95)
((z1 (w7)) ∧ (z2 w7 < z2 w4))
(R (bool false) (w7))))))
(ifK (decide (x6 ≥ 48))
(ifK (decide (x6 ≤ 57))
((z1 (w7)) ∧ (z2 w7 < z2 w4))
(ifK (x6 == 45)
((z1 (w7)) ∧ (z2 w7 < z2 w4))
(ifK (x6 == 95)
((z1 (w7)) ∧ (z2 w7 < z2 w4))
(R (bool false) (w7)))))
(ifK (x6 == 45)
((z1 (w7)) ∧ (z2 w7 < z2 w4))
(ifK (x6 == 95)
((z1 (w7)) ∧ (z2 w7 < z2 w4))
(R (bool false) (w7))))))))) (fun w8 =>
(R (bool !ByteArray.toList w_ == ByteArray.toList (ByteArray.mk #[])) (w8))))))))))))
theorem ca82 (w_ : ByteArray) (w : World) (R : Value → World → Prop) (h : W82 w_ w R) : Ca Tryz.prog 82 ⟨[(.string w_)]⟩ w R :=
  caB (fn := Tryz.f82) (pl := pl82) (ls := ls82) Tryz.func82 (by kernel_rfl) (by kernel_rfl) h

/-- staith/topic.Key -/
noncomputable def C66 : Code := (Tryz.f66.body).getD .skip
def pl66 : Nat → Plan := fun _ => .done
def ls66 : Nat → List (Nat × LT) := fun _ => []
def W66 (s : ByteArray) (w : World) (R : Value → World → Prop) : Prop :=
  (Ca Tryz.prog (89) (Array.mk [string s, func (Fn.func 82) #[] #[]]) (w) (fun v0 => (fun w1 =>
(∃ b2 : Bool, ((v0 = bool b2) ∧ (R (bool b2) (w1)))))))
theorem ca66 (s : ByteArray) (w : World) (R : Value → World → Prop) (h : W66 s w R) : Ca Tryz.prog 66 ⟨[(.string s)]⟩ w R :=
  caB (fn := Tryz.f66) (pl := pl66) (ls := ls66) Tryz.func66 (by kernel_rfl) (by kernel_rfl) h

/-- staith/topic.Pattern -/
noncomputable def C84 : Code := (Tryz.f84.body).getD .skip
def pl84 : Nat → Plan := fun _ => .done
def ls84 : Nat → List (Nat × LT) := fun _ => []
def W84 (s : ByteArray) (w : World) (R : Value → World → Prop) : Prop :=
  (Ca Tryz.prog (89) (Array.mk [string s, func (Fn.func 103) #[] #[]]) (w) (fun v0 => (fun w1 =>
(∃ b2 : Bool, ((v0 = bool b2) ∧ (R (bool b2) (w1)))))))
theorem ca84 (s : ByteArray) (w : World) (R : Value → World → Prop) (h : W84 s w R) : Ca Tryz.prog 84 ⟨[(.string s)]⟩ w R :=
  caB (fn := Tryz.f84) (pl := pl84) (ls := ls84) Tryz.func84 (by kernel_rfl) (by kernel_rfl) h

/-- staith/topic.Pattern$1 -/
noncomputable def C103 : Code := (Tryz.f103.body).getD .skip
def pl103 : Nat → Plan := fun _ => .done
def ls103 : Nat → List (Nat × LT) := fun _ => []
def W103 (w_ : ByteArray) (w : World) (R : Value → World → Prop) : Prop :=
  (ifK (ByteArray.toList w_ == ByteArray.toList (ByteArray.mk #[42]))
(R (bool true) (w))
(ifK (ByteArray.toList w_ == ByteArray.toList (ByteArray.mk #[35]))
(R (bool true) (w))
(Ca Tryz.prog (82) (Array.mk [string w_]) (w) (fun v0 => (fun w1 =>
(∃ b2 : Bool, ((v0 = bool b2) ∧ (R (bool b2) (w1)))))))))
theorem ca103 (w_ : ByteArray) (w : World) (R : Value → World → Prop) (h : W103 w_ w R) : Ca Tryz.prog 103 ⟨[(.string w_)]⟩ w R :=
  caB (fn := Tryz.f103) (pl := pl103) (ls := ls103) Tryz.func103 (by kernel_rfl) (by kernel_rfl) h

/-- staith/topic.made -/
noncomputable def C89 : Code := (Tryz.f89.body).getD .skip
def pl89 : Nat → Plan := fun _ => .done
def ls89 : Nat → List (Nat × LT) := fun _ => []
def W89 (s : ByteArray) (so : Value) (w : World) (R : Value → World → Prop) : Prop :=
  (atW (alloc w (cells (Value.cells so) 88 (0, 0))) (fun w0 =>
(Ca Tryz.prog (105) (Array.mk [string s]) (w0) (fun v1 => (fun w2 =>
(∃ p3 : Option Addr, (∃ n4 : Nat, (∃ n5 : Nat, ((v1 = slice p3 n4 n5) ∧ (ifK (decide ((↑(ByteArray.size s) : Int) ≤ 60))
(ifK (decide ((↑n4 : Int) ≤ 12))
(Ca Tryz.prog (107) (Array.mk [slice p3 n4 n5, func (Fn.func 106) (Array.mk []) (Array.mk [pointer (some (nw w))])]) (w2) (fun v6 => (fun w7 =>
(∃ b8 : Bool, ((v6 = bool b8) ∧ (R (bool !b8) (w7)))))))
(R (bool false) (w2)))
(R (bool false) (w2))))))))))))
theorem ca89 (s : ByteArray) (so : Value) (w : World) (R : Value → World → Prop) (h : W89 s so w R) : Ca Tryz.prog 89 ⟨[(.string s), so]⟩ w R :=
  caB (fn := Tryz.f89) (pl := pl89) (ls := ls89) Tryz.func89 (by kernel_rfl) (by kernel_rfl) h

/-- staith/topic.made$1 -/
noncomputable def C106 : Code := (Tryz.f106.body).getD .skip
def pl106 : Nat → Plan := fun _ => .done
def ls106 : Nat → List (Nat × LT) := fun _ => []
def W106 (w_ : ByteArray) (c0 : Option Addr) (w : World) (R : Value → World → Prop) : Prop :=
  (onP (c0) (fun a0 =>
(∃ v1 : Value, ((cell? w a0 = some v1) ∧ (CaV Tryz.prog (v1) (Array.mk [string w_]) (w) (fun v2 => (fun w3 =>
(∃ b4 : Bool, ((v2 = bool b4) ∧ (R (bool !b4) (w3)))))))))))
theorem ca106 (w_ : ByteArray) (c0 : Option Addr) (w : World) (R : Value → World → Prop) (h : W106 w_ c0 w R) : Ca Tryz.prog 106 ⟨[(.string w_), (.pointer c0)]⟩ w R :=
  caB (fn := Tryz.f106) (pl := pl106) (ls := ls106) Tryz.func106 (by kernel_rfl) (by kernel_rfl) h

/-- staith/topic.Words -/
noncomputable def C105 : Code := (Tryz.f105.body).getD .skip
def pl105 : Nat → Plan := fun _ => .done
def ls105 : Nat → List (Nat × LT) := fun _ => []
def W105 (s : ByteArray) (w : World) (R : Value → World → Prop) : Prop :=
  (ifK (ByteArray.toList s == ByteArray.toList (ByteArray.mk #[]))
(R (slice none 0 0) (w))
(atW (alloc w (cells (Array.mk [slice none 0 0]) 55 (0, 0))) (fun w0 =>
(Ca Tryz.prog (137) (Array.mk [string s, string (ByteArray.mk #[46])]) (w0) (fun v1 => (fun w2 =>
(∃ v3 : Value, ((v1 = v3) ∧ (rfW Tryz.prog (v3) (w2) (fun v4 => (fun w5 => (fun z6 => (fun z7 =>
(onS (v4) (fun s8 =>
(z6 (fun w9 =>
(∃ p10 : Option Addr, (∃ n11 : Nat, (∃ n12 : Nat, ((cell? w9 (nw w) = some (slice p10 n11 n12)) ∧ (atW (alloc w9 (cells (Array.mk [string s8]) 9 (0, 0))) (fun w13 =>
(∃ v14 : Value, (∃ w15 : World, ((Sem.run Tryz.prog (Builtin.append_ (Array.mk [55, 55]) 55 (Array.mk [slice p10 n11 n12, slice (some (nw w9)) 1 1])) w13 = Result.ok v14 w15) ∧ (∃ p16 : Option Addr, (∃ n17 : Nat, (∃ n18 : Nat, ((v14 = slice p16 n17 n18) ∧ (st1 (add (nw w) 0) (slice p16 n17 n18) w15 (fun w20 =>
(z7 (w20)))))))))))))))))) (w5)))))))) (fun w21 =>
(∃ p22 : Option Addr, (∃ n23 : Nat, (∃ n24 : Nat, ((cell? w21 (nw w) = some (slice p22 n23 n24)) ∧ (((World.heap w21)[Array.size (World.heap w2)]? = some (Obj.deferred (some []))) ∧ (atW (World.putObj w21 (Array.size (World.heap w2)) (Obj.deferred none)) (fun w25 =>
(R (slice p22 n23 n24) (w25)))))))))))))))))))
theorem ca105 (s : ByteArray) (w : World) (R : Value → World → Prop) (h : W105 s w R) : Ca Tryz.prog 105 ⟨[(.string s)]⟩ w R :=
  caB (fn := Tryz.f105) (pl := pl105) (ls := ls105) Tryz.func105 (by kernel_rfl) (by kernel_rfl) h

/-- slices.ContainsFunc[[]string,string] -/
noncomputable def C107 : Code := (Tryz.f107.body).getD .skip
def pl107 : Nat → Plan := fun _ => .done
def ls107 : Nat → List (Nat × LT) := fun _ => []
def W107 (sa : Option Addr) (sl : Nat) (sc : Nat) (f : Value) (w : World) (R : Value → World → Prop) : Prop :=
  (Ca Tryz.prog (138) (Array.mk [slice sa sl sc, f]) (w) (fun v0 => (fun w1 =>
(∃ x2 : Int, ((v0 = int i64 x2) ∧ (R (bool (decide (x2 ≥ 0))) (w1)))))))
theorem ca107 (sa : Option Addr) (sl : Nat) (sc : Nat) (f : Value) (w : World) (R : Value → World → Prop) (h : W107 sa sl sc f w R) : Ca Tryz.prog 107 ⟨[(.slice sa sl sc), f]⟩ w R :=
  caB (fn := Tryz.f107) (pl := pl107) (ls := ls107) Tryz.func107 (by kernel_rfl) (by kernel_rfl) h

/-- slices.IndexFunc[[]string,string] -/
noncomputable def C138 : Code := (Tryz.f138.body).getD .skip
def pl138 : Nat → Plan := fun _ => .done
def ls138 : Nat → List (Nat × LT)
  | 3 => [(8, (.one (.int .i64)))]
  | _ => []
def W138 (sa : Option Addr) (sl : Nat) (_sc : Nat) (f : Value) (w : World) (R : Value → World → Prop) : Prop :=
  (∃ z0 : Int → World → Prop, (∃ z1 : Int → World → Nat, ((z0 (0) (w)) ∧ (∀ (_ : Nat → Value), (∀ (x3 : Int), (∀ (w4 : World), ((z0 (x3) (w4)) → (ifK (decide (x3 < (↑sl : Int)))
(∃ a5 : Addr, ((sa = some a5) ∧ (((0 : Int) ≤ x3) ∧ (((x3 : Int) < (↑sl : Int)) ∧ (∃ s6 : ByteArray, ((cell? w4 (add a5 (Int.toNat x3 * 1)) = some (string s6)) ∧ (CaV Tryz.prog (f) (Array.mk [string s6]) (w4) (fun v7 => (fun w8 =>
(∃ b9 : Bool, ((v7 = bool b9) ∧ (ifK (b9)
(R (int i64 x3) (w8))
((z0 (wrap i64 (x3 + 1)) (w8)) ∧ (z1 (wrap i64 (x3 + 1)) w8 < z1 x3 w4))))))))))))))
(R (int i64 (-1)) (w4))))))))))
theorem ca138 (sa : Option Addr) (sl : Nat) (sc : Nat) (f : Value) (w : World) (R : Value → World → Prop) (h : W138 sa sl sc f w R) : Ca Tryz.prog 138 ⟨[(.slice sa sl sc), f]⟩ w R :=
  caB (fn := Tryz.f138) (pl := pl138) (ls := ls138) Tryz.func138 (by kernel_rfl) (by kernel_rfl) h
end Go.Proofs.YtehhhkcemmfjpaaGreatDoor
