/- Parts of the proof of VaultNoneCard. -/
import Derived.Test.YtbmcbbmgdcbhjaaGreatDoorProg
import Derived.Test.YtbmcbbmgdcbhjaaGreatDoorTie
import Derived.Test.YtbmcbbmgdcbhjaaGreatDoorRows
import Derived.JoinedOf
import Derived.KernelRfl
import GoSem.ClaimGoes
import Derived.Test.YtbmcbbmgdcbhjaaGreatDoorV2
/- A machine that reckons closed calls: long runs in parts (a call whose beginning and end are written down). It names no program. -/
noncomputable section
namespace Go.Proofs.YtbmcbbmgdcbhjaaGreatDoor.St
open Go
def eqON : Option Nat → Option Nat → Bool
  | none, none => true
  | some a, some b => Nat.beq a b
  | _, _ => false
def eqNs : List Nat → List Nat → Bool
  | [], [] => true
  | a :: l, b :: r => Nat.beq a b && eqNs l r
  | _, _ => false
mutual
def eqVV : AV → AV → Bool
  | .f g x y, .f g' x' y' => Nat.beq g g' && (eqVL x x' && eqVL y y')
  | .a x, .a y => eqVL x y
  | .t x, .t y => eqVL x y
  | x, y => eqV x y
def eqVL : List AV → List AV → Bool
  | [], [] => true
  | x :: l, y :: r => eqVV x y && eqVL l r
  | _, _ => false
end
mutual
theorem eqVV_eq : ∀ {a b : AV}, eqVV a b = true → a = b := by
  intro a b h
  unfold eqVV at h
  split at h
  · simp only [Bool.and_eq_true, beq_iff] at h; rw [h.1, eqVL_eq h.2.1, eqVL_eq h.2.2]
  · rw [eqVL_eq h]
  · rw [eqVL_eq h]
  · exact eqV_eq h
termination_by a => SizeOf.sizeOf a
theorem eqVL_eq : ∀ {a b : List AV}, eqVL a b = true → a = b
  | [], [], _ => rfl
  | [], _ :: _, h => by cases h
  | _ :: _, [], h => by cases h
  | x :: l, y :: r, h => by simp only [eqVL, Bool.and_eq_true] at h; rw [eqVV_eq h.1, eqVL_eq h.2]
termination_by a => SizeOf.sizeOf a
end
def eqEV : List Ent → List Ent → Bool
  | [], [] => true
  | a :: l, b :: r => eqVV a.1 b.1 && (eqVV a.2.1 b.2.1 && (Nat.beq a.2.2 b.2.2 && eqEV l r))
  | _, _ => false
theorem eqEV_eq : ∀ {a b : List Ent}, eqEV a b = true → a = b
  | [], [], _ => rfl
  | [], _ :: _, h => by cases h
  | _ :: _, [], h => by cases h
  | (a1, a2, a3) :: l, (b1, b2, b3) :: r, h => by
    simp only [eqEV, Bool.and_eq_true, beq_iff] at h
    rw [eqVV_eq h.1, eqVV_eq h.2.1, h.2.2.1, eqEV_eq h.2.2.2]
theorem eqON_eq : ∀ {a b : Option Nat}, eqON a b = true → a = b
  | none, none, _ => rfl
  | some a, some b, h => by rw [(beq_iff a b).1 h]
  | none, some _, h => by cases h
  | some _, none, h => by cases h
theorem eqNs_eq : ∀ {a b : List Nat}, eqNs a b = true → a = b
  | [], [], _ => rfl
  | [], _ :: _, h => by cases h
  | _ :: _, [], h => by cases h
  | x :: l, y :: r, h => by simp only [eqNs, Bool.and_eq_true, beq_iff] at h; rw [h.1, eqNs_eq h.2]
def eqOb : AO → AO → Bool
  | .c vs al ro es, .c vs' al' ro' es' => eqVL vs vs' && (eqON al al' && ((ro == ro') && Nat.beq es es'))
  | .m es ck, .m es' ck' => eqEV es es' && Nat.beq ck ck'
  | .it m s l k, .it m' s' l' k' => eqON m m' && (Nat.beq s s' && (eqNs l l' && Nat.beq k k'))
  | .si x p, .si y q => (x == y) && Nat.beq p q
  | .rf x, .rf y => x == y
  | .dn, .dn => true
  | _, _ => false
theorem eqOb_eq {a b : AO} (h : eqOb a b = true) : a = b := by
  unfold eqOb at h
  split at h
  · simp only [Bool.and_eq_true, beq_iff, beq_iff_eq] at h; rw [eqVL_eq h.1, eqON_eq h.2.1, h.2.2.1, h.2.2.2]
  · simp only [Bool.and_eq_true, beq_iff] at h; rw [eqEV_eq h.1, h.2]
  · simp only [Bool.and_eq_true, beq_iff] at h; rw [eqON_eq h.1, h.2.1, eqNs_eq h.2.2.1, h.2.2.2]
  · simp only [Bool.and_eq_true, beq_iff_eq, beq_iff] at h; rw [h.1, h.2]
  · simp only [beq_iff_eq] at h; rw [h]
  · rfl
  · cases h
/-- A heap that is written down: names and blocks. -/
def putO : List (Nat × AO) → Tr AO → Tr AO
  | [], t => t
  | x :: r, t => putO r (t.put (some x.2) dep x.1)
def mkH (l : List (Nat × AO)) (nx : Nat) : AH := ⟨putO l .lf, nx⟩
/-- All that is written down lies in H. -/
def inH (H : AH) (l : List (Nat × AO)) : Bool := l.all fun x => Nat.blt x.1 tmax && (match H.get x.1 with | some o => eqOb o x.2 | none => false)
theorem putO_get : ∀ {l : List (Nat × AO)} {t : Tr AO} {n : Nat} {o : AO}, (∀ x ∈ l, Nat.blt x.1 tmax = true) → (putO l t).get n = some o → (n, o) ∈ l ∨ t.get n = some o
  | [], t, n, o, _, h => .inr h
  | x :: r, t, n, o, hl, h => by
    rcases putO_get (fun y hy => hl y (List.mem_cons_of_mem _ hy)) h with h | h
    · exact .inl (List.mem_cons_of_mem _ h)
    · rw [Tr.get_dep _ _ (hl x (List.mem_cons_self ..))] at h
      by_cases e : n = x.1
      · rw [if_pos e] at h; cases h; subst e; exact .inl (List.mem_cons_self ..)
      · rw [if_neg e] at h; exact .inr h
section
variable {P : Program} {B : World} {gm : Nat → Option Nat} {pls : Nat → Nat → Plan}
theorem Rep.part {ρ : Rho} {H : AH} {w : World} (h : Rep B ρ H w) {l : List (Nat × AO)} {nx : Nat} (hn : H.nx = nx) (hl : inH H l = true) : Rep B ρ (mkH l nx) w := by
  have hl' := List.all_eq_true.1 hl
  have hb : ∀ x ∈ l, Nat.blt x.1 tmax = true := fun x hx => by have := hl' x hx; rw [Bool.and_eq_true] at this; exact this.1
  have hg : ∀ {n : Nat} {o : AO}, (mkH l nx).get n = some o → H.get n = some o := fun {n o} e => by
    rcases putO_get hb e with h | h
    · have := hl' _ h
      rw [Bool.and_eq_true] at this
      have h2 := this.2
      simp only at h2
      split at h2
      · rename_i o' ho'; rw [ho', eqOb_eq h2]
      · cases h2
    · cases h
  have e : (mkH l nx).nx = H.nx := hn.symm
  exact ⟨fun n o ho => h.ok n o (hg ho), fun n q hq => by rw [e]; exact h.fr n q hq, by rw [e]; exact h.mx, fun n o j ho hj => by rw [e]; exact h.al n o j (hg ho) hj,
    fun i j o o' q q' hi hj qi qj hij ha k => h.sep i j o o' q q' (hg hi) (hg hj) qi qj hij ha k, fun i o q ho hq hro k hk => h.new i o q (hg ho) hq hro k hk, h.md⟩
/-- A call that begins with what is written down ends with what is written down. -/
structure PartD where
  ags : List AV
  hi : List (Nat × AO)
  ni : Nat
  v : AV
  ho : List (Nat × AO)
  no : Nat
def okPart (o : Outs) (d : PartD) : Bool :=
  match o with
  | some [r] => eqVV r.1 d.v && (Nat.beq r.2.nx d.no && inH r.2 d.ho)
  | _ => false
def runP (P : Program) (gm : Nat → Option Nat) (nat : Nat') (pls : Nat → Nat → Plan) (g : Nat) (d : PartD) : Outs := callE P nat pls (evC P gm nat pls 100000) [] (.f g [] []) d.ags (mkH d.hi d.ni)
/-- Calls of g: these are told; all others are reckoned. -/
def toldO (P : Program) (gm : Nat → Option Nat) (nat : Nat') (pls : Nat → Nat → Plan) (g : Nat) : List PartD → List AV → AH → Outs
  | [], ags, H => callE P nat pls (evC P gm nat pls 100000) [] (.f g [] []) ags H
  | d :: r, ags, H => bif eqVL ags d.ags && (Nat.beq H.nx d.ni && inH H d.hi) then some [(d.v, mkH d.ho d.no)] else toldO P gm nat pls g r ags H
def withP (P : Program) (gm : Nat → Option Nat) (nat : Nat') (pls : Nat → Nat → Plan) (g : Nat) (ds : List PartD) : Nat' := fun k => bif Nat.beq k g then some (toldO P gm nat pls g ds) else nat k
theorem part_W (hm : P.follows .mixedOrders = true) (hrg : RgsOK P pls) {ρ0 ρ : Rho} {nat : Nat'} (hnat : NatOK P B gm ρ0 nat) {g : Nat} {d : PartD} (hd : okPart (runP P gm nat pls g d) d = true) {w : World} (hR : Rep B ρ (mkH d.hi d.ni) w) (hG : GR gm ρ0 ρ) {args' : List Value} (ha : embL ρ d.ags = some args')
    {K : Value → World → Prop} (hK : AllK B ρ [(d.v, mkH d.ho d.no)] K) : Ca P g ⟨args'⟩ w K := by
  unfold okPart at hd
  split at hd
  · rename_i r hr
    simp only [Bool.and_eq_true, beq_iff] at hd
    refine call_reckoned hm hrg (ρ := ρ) (fun g h hg ρ' H w hR' hG' => hnat g h hg ρ' H w hR' ⟨hG'.g, hG.le.trans hG'.le⟩) (k := 100000) hr hR hG.g ha fun o ho ρ' w' x a1 a2 a3 => ?_
    obtain rfl := List.mem_singleton.1 ho
    exact hK _ (List.mem_singleton.2 rfl) ρ' w' x a1 (a2.part hd.2.1 hd.2.2) (by rw [← eqVV_eq hd.1]; exact a3)
  · cases hd
theorem toldO_W (hm : P.follows .mixedOrders = true) (hrg : RgsOK P pls) {ρ0 : Rho} {nat : Nat'} (hnat : NatOK P B gm ρ0 nat) {g : Nat} : ∀ {ds : List PartD}, (∀ d ∈ ds, okPart (runP P gm nat pls g d) d = true) → ∀ ρ H w, Rep B ρ H w → GR gm ρ0 ρ → ∀ args outs args', toldO P gm nat pls g ds args H = some outs → embL ρ args = some args' → ∀ K, AllK B ρ outs K → Ca P g ⟨args'⟩ w K
  | [], _, ρ, H, w, hR, hG, args, outs, args', h, ha, K, hK => call_reckoned hm hrg (ρ := ρ) (fun g h hg ρ' H w hR' hG' => hnat g h hg ρ' H w hR' ⟨hG'.g, hG.le.trans hG'.le⟩) h hR hG.g ha hK
  | d :: r, hd, ρ, H, w, hR, hG, args, outs, args', h, ha, K, hK => by
    unfold toldO at h
    cases hc : (eqVL args d.ags && (Nat.beq H.nx d.ni && inH H d.hi)) with
    | true =>
      rw [hc] at h
      cases h
      simp only [Bool.and_eq_true, beq_iff] at hc
      rw [eqVL_eq hc.1] at ha
      exact part_W hm hrg hnat (hd d (List.mem_cons_self ..)) (hR.part hc.2.1 hc.2.2) hG ha hK
    | false =>
      rw [hc] at h
      exact toldO_W hm hrg hnat (fun d' hd' => hd d' (List.mem_cons_of_mem _ hd')) ρ H w hR hG args outs args' h ha K hK
theorem withP_ok (hm : P.follows .mixedOrders = true) (hrg : RgsOK P pls) {ρ0 : Rho} {nat : Nat'} (hnat : NatOK P B gm ρ0 nat) {g : Nat} {ds : List PartD} (hd : ∀ d ∈ ds, okPart (runP P gm nat pls g d) d = true) : NatOK P B gm ρ0 (withP P gm nat pls g ds) := by
  intro k h hk ρ H w hR hG args outs args' ho ha K hK
  unfold withP at hk
  cases hc : Nat.beq k g with
  | true =>
    rw [hc] at hk; cases hk
    obtain rfl := (beq_iff _ _).1 hc
    exact toldO_W hm hrg hnat hd ρ H w hR hG args outs args' ho ha K hK
  | false => rw [hc] at hk; exact hnat k h hk ρ H w hR hG args outs args' ho ha K hK
end
end Go.Proofs.YtbmcbbmgdcbhjaaGreatDoor.St

/- lives() of chapter 16, reckoned: its second Open, told by itself. -/
noncomputable section
namespace Go.Proofs.YtbmcbbmgdcbhjaaGreatDoor
open Go Go.ChangeShapes Go.WideShapes Go.Deep Go.RowKit Go.Proofs.YtbmcbbmgdcbhjaaGreatDoor.St
set_option maxRecDepth 1000000
/-- What act.shapes holds. -/
def shapesS : List (List UInt8) := [[45], [110, 99], [110], [120], [110], [98], [98], [109], [110], [110, 116], [110, 116], [111, 99], []]
def widthsZ : List Int := [1, 2, 4, 8]
def tabsV : List Tab := [(0, shapesS.map .s), (1, widthsZ.map (.i .i64))]
def Vars (w : World) : Prop := ∀ x ∈ tabsV, TabOk w x
def natL : Nat' := fun g => bif Nat.beq g 114 || (Nat.beq g 128 || (Nat.beq g 129 || Nat.beq g 133)) then some mclO else none
theorem cond_some {α : Type} {b : Bool} {x y : Option α} {z : α} (h : (bif b then x else y) = some z) : (b = true ∧ x = some z) ∨ (b = false ∧ y = some z) := by
  cases b
  · exact .inr ⟨rfl, h⟩
  · exact .inl ⟨rfl, h⟩
theorem natL_ok {W : World} {gm : Nat → Option Nat} {ρ0 : Rho} : NatOK Tryz.prog W gm ρ0 natL := by
  intro g h hg ρ H w hR hG args outs args' ho ha K hK
  rcases cond_some hg with ⟨hc, hg⟩ | ⟨_, hg⟩
  · cases hg
    simp only [Bool.or_eq_true, beq_iff] at hc
    rcases hc with rfl | rfl | rfl | rfl
    · exact mcl_ok cloneD_run cloneD_calls cloneD_nil hR ho ha hK
    · exact mcl_ok cloneX_run cloneX_calls cloneX_nil hR ho ha hK
    · exact mcl_ok cloneB_run cloneB_calls cloneB_nil hR ho ha hK
    · exact mcl_ok cloneI_run cloneI_calls cloneI_nil hR ho ha hK
  · cases hg
def isT (o : AV × AH) : Bool := match o.1 with | .b t => t | _ => false
theorem isT_W {o : AV × AH} (h : isT o = true) {ρ : Rho} {x : Value} (hx : emb ρ o.1 = some x) : x = .bool true := by
  unfold isT at h
  split at h
  · rename_i t ht; rw [ht] at hx; rw [h] at hx; exact (Option.some.inj hx).symm
  · cases h
def allT (o : Outs) : Bool := match o with | some outs => outs.all isT | none => false
theorem of_run {o : Outs} (h : allT o = true) : ∃ outs, o = some outs ∧ outs.all isT = true := by
  unfold allT at h
  split at h
  · exact ⟨_, rfl, h⟩
  · cases h
def part1 : PartD where
  ags := [.p 4 0, .i .i64 1, .a [.i .i64 2, .sl 235 0 1 1, .i .i64 2], .a [.i .i64 4, .i .i64 3, .i .i64 200, .i .i64 6]]
  hi := [(0, .c [.s [45], .s [110, 99], .s [110], .s [120], .s [110], .s [98], .s [98], .s [109], .s [110], .s [110, 116], .s [110, 116], .s [111, 99], .s []] none true 0), (1, .c [.i .i64 1, .i .i64 2, .i .i64 4, .i .i64 8] none true 0), (2, .m [(.s [108, 111, 103, 46, 49], .p 51 0, 0)] 1), (3, .m [] 0), (4, .c [.i .i64 50000, .m 233, .m 53, .b false, .i .i64 6, .i .i64 0, .i .i64 0] none false 0), (5, .c [.i .i64 2, .sl 6 0 1 1, .i .i64 2] none false 0), (6, .c [.i .i64 1, .i .i64 2] none false 0), (7, .c [.i .i64 4, .i .i64 3, .i .i64 200, .i .i64 6] none false 0), (8, .c [.i .i64 2, .sl 6 0 1 1, .i .i64 2] none false 0), (9, .c [.i .i64 4, .i .i64 3, .i .i64 200, .i .i64 6] none false 0), (18, .c [.i .i64 1, .i .i64 2] none false 2), (19, .m [] 0), (20, .m [] 0), (21, .c [.m 19, .m 20] none false 0), (22, .m [] 0), (23, .c [.p 24 0, .p 25 0, .p 26 0, .p 27 0, .p 28 0, .p 29 0, .p 30 0, .p 31 0, .p 32 0, .b true] none false 0), (24, .c [.ns, .b true] none false 0), (25, .c [.ns, .b true] none false 0), (26, .c [.ns, .b true] none false 0), (27, .c [.ns, .b true] none false 0), (28, .c [.ns, .b true] none false 0), (29, .c [.ns, .b true] none false 0), (30, .c [.ns, .b true] none false 0), (31, .c [.ns, .b true] none false 0), (32, .c [.ns, .b true] none false 0), (33, .m [] 0), (34, .c [.i .i64 1, .i .i64 2, .su 18 0 1 0, .i .i64 2, .i .u64 0, .i .u64 0, .p 21 0, .m 22, .p 23 0, .m 33] none false 0), (35, .c [.i .i64 4, .i .i64 3, .i .i64 200, .i .i64 6] none false 0), (36, .c [.p 4 0] none false 0), (37, .c [.i .u8 99, .i .u8 104, .i .u8 101, .i .u8 99, .i .u8 107] none true 1), (38, .c [.i .u8 99, .i .u8 104, .i .u8 101, .i .u8 99, .i .u8 107] none true 1), (39, .c [.i .i64 1] none false 0), (40, .c [.m 2] none false 0), (41, .c [.ns] none false 0), (43, .it (some 2) 0 [] 0), (44, .c [.i .i64 (-1)] none false 0), (45, .c [.i .i64 1] none false 0), (46, .c [.f 97 [] [.p 36 0, .p 39 0], .f 67 [.p 4 0] []] none false 0), (47, .c [.p 4 0] none false 0), (48, .c [.s [108, 111, 103, 46, 49]] none false 0), (49, .c [.i .u8 108, .i .u8 111, .i .u8 103, .i .u8 46, .i .u8 49] none true 1), (50, .it (some 2) 0 [] 0), (51, .c [.su 221 0 31 0, .su 221 0 31 0] none false 0), (52, .c [.p 4 0] none false 0), (53, .m [(.s [108, 111, 103, 46, 49], .p 51 0, 0)] 1), (54, .c [.p 4 0, .i .i64 200, .i .i64 1, .ns, .b false] none false 0), (55, .c [.p 54 0, .p 4 0, .p 132 0, .i .i64 6, .i .i64 2, .i .i64 0, .b false] none false 0), (56, .c [.i .i64 12, .s [], .i .i64 0, .i .u64 0, .i .i64 0, .s [], .i .i64 0, .b false, .s [], .s [], .s [], .i .i64 0, .i .u64 0, .i .i64 0, .s [], .s [], .s []] none false 0), (57, .c [.i .i64 1, .i .i64 2, .su 18 0 1 0, .i .i64 2, .i .u64 0, .i .u64 1, .p 60 0, .m 74, .p 61 0, .m 75] none false 0), (58, .m [] 0), (59, .m [] 0), (60, .c [.m 58, .m 59] none false 0), (61, .c [.p 62 0, .p 63 0, .p 64 0, .p 65 0, .p 66 0, .p 67 0, .p 68 0, .p 69 0, .p 70 0, .b true] none false 0), (62, .c [.ns, .b true] none false 0), (63, .c [.ns, .b true] none false 0), (64, .c [.ns, .b true] none false 0), (65, .c [.ns, .b true] none false 0), (66, .c [.ns, .b true] none false 0), (67, .c [.ns, .b true] none false 0), (68, .c [.ns, .b true] none false 0), (69, .c [.ns, .b true] none false 0), (70, .c [.ns, .b true] none false 0), (71, .c [.p 61 0] none false 0), (72, .c [.p 23 0] none false 0), (74, .m [] 0), (75, .m [] 0), (76, .it (some 22) 0 [] 0), (77, .it (some 33) 0 [] 0), (78, .c [.i .i64 12, .s [], .i .i64 0, .i .u64 0, .i .i64 0, .s [], .i .i64 0, .b false, .s [], .s [], .s [], .i .i64 0, .i .u64 0, .i .i64 0, .s [], .s [], .s []] none false 0), (79, .c [.i .i64 12, .s [], .i .i64 0, .i .u64 0, .i .i64 0, .s [], .i .i64 0, .b false, .s [], .s [], .s [], .i .i64 0, .i .u64 0, .i .i64 0, .s [], .s [], .s []] none false 0), (80, .c [.i .i64 12, .s [], .i .i64 0, .i .u64 0, .i .i64 0, .s [], .i .i64 0, .b false, .s [], .s [], .s [], .i .i64 0, .i .u64 0, .i .i64 0, .s [], .s [], .s []] none false 0), (81, .c [.i .i64 12, .s [], .i .i64 0, .i .u64 0, .i .i64 0, .s [], .i .i64 0, .b false, .s [], .s [], .s [], .i .i64 0, .i .u64 0, .i .i64 0, .s [], .s [], .s []] none false 0), (82, .c [.i .i64 12, .s [], .i .i64 0, .i .u64 0, .i .i64 0, .s [], .i .i64 0, .b false, .s [], .s [], .s [], .i .i64 0, .i .u64 0, .i .i64 0, .s [], .s [], .s []] none false 0), (83, .it (some 74) 0 [] 0), (84, .c [.sl 95 0 5 10] none false 0), (85, .c [.i .u8 0, .i .u8 1, .i .u8 0, .i .u8 0, .i .u8 0, .i .u8 0, .i .u8 0, .i .u8 0] none false 0), (86, .c [.i .u8 0] none false 0), (87, .c [.i .u8 1] none false 0), (88, .c [.i .i64 12, .s [], .i .i64 0, .i .u64 0, .i .i64 0, .s [], .i .i64 0, .b false, .s [], .s [], .s [], .i .i64 0, .i .u64 0, .i .i64 0, .s [], .s [], .s []] none false 0), (89, .c [.i .i64 12, .s [], .i .i64 0, .i .u64 0, .i .i64 0, .s [], .i .i64 0, .b false, .s [], .s [], .s [], .i .i64 0, .i .u64 0, .i .i64 0, .s [], .s [], .s []] none false 0), (90, .c [.i .i64 12, .s [], .i .i64 0, .i .u64 0, .i .i64 0, .s [], .i .i64 0, .b false, .s [], .s [], .s [], .i .i64 0, .i .u64 0, .i .i64 0, .s [], .s [], .s []] none false 0), (91, .c [.i .i64 12, .s [], .i .i64 0, .i .u64 0, .i .i64 0, .s [], .i .i64 0, .b false, .s [], .s [], .s [], .i .i64 0, .i .u64 0, .i .i64 0, .s [], .s [], .s []] none false 0), (92, .c [.sl 93 0 1 8] none false 0), (93, .c [.i .u8 12, .i .u8 0, .i .u8 0, .i .u8 0, .i .u8 0, .i .u8 0, .i .u8 0, .i .u8 0] none false 0), (94, .c [.i .u8 12] none false 0), (95, .c [.i .u8 0, .i .u8 1, .i .u8 0, .i .u8 1, .i .u8 12, .i .u8 0, .i .u8 0, .i .u8 0, .i .u8 0, .i .u8 0] none false 0), (96, .c [.i .u8 0] none false 0), (97, .c [.i .u8 1] none false 0), (98, .c [] none false 0), (99, .c [.i .u8 0, .i .u8 1, .i .u8 0, .i .u8 1, .i .u8 12] none false 1), (100, .c [.su 99 0 5 0] none false 0), (101, .c [.su 99 0 5 0] none false 1), (102, .c [.p 54 0] none false 0), (103, .c [.su 115 0 13 0] none false 0), (104, .c [.i .u8 0, .i .u8 0, .i .u8 0, .i .u8 5, .i .u8 0, .i .u8 0, .i .u8 0, .i .u8 0] none false 0), (105, .c [.i .u8 0] none false 0), (106, .c [.i .u8 0] none false 0), (107, .c [.i .u8 0] none false 0), (108, .c [.i .u8 5] none false 0), (109, .c [.i .u8 0, .i .u8 0, .i .u8 0, .i .u8 5, .i .u8 0, .i .u8 1, .i .u8 0, .i .u8 1, .i .u8 12] none false 1), (110, .c [.i .u8 0, .i .u8 0, .i .u8 0, .i .u8 5, .i .u8 0, .i .u8 1, .i .u8 0, .i .u8 1, .i .u8 12, .i .u8 188, .i .u8 218, .i .u8 52, .i .u8 179, .i .u8 0, .i .u8 0, .i .u8 0, .i .u8 0] none false 0), (111, .c [.i .u8 188] none false 0), (112, .c [.i .u8 218] none false 0), (113, .c [.i .u8 52] none false 0), (114, .c [.i .u8 179] none false 0), (115, .c [.i .u8 0, .i .u8 0, .i .u8 0, .i .u8 5, .i .u8 0, .i .u8 1, .i .u8 0, .i .u8 1, .i .u8 12, .i .u8 188, .i .u8 218, .i .u8 52, .i .u8 179] none false 1), (116, .c [.s [108, 111, 103, 46, 49]] none false 0), (117, .c [.f 50 [] [.p 102 0, .p 116 0, .p 103 0], .f 52 [] [.p 102 0, .p 116 0]] none false 0), (118, .c [.su 115 0 13 0] none false 0), (119, .c [.i .u8 108, .i .u8 111, .i .u8 103, .i .u8 46, .i .u8 49] none true 1), (120, .c [.p 51 0] none false 0), (121, .it (some 2) 1 [0] 1), (122, .c [.ns, .su 115 0 13 0] none false 0), (124, .c [] (some 125) false 1), (125, .c [.i .u8 0, .i .u8 0, .i .u8 0, .i .u8 5, .i .u8 0, .i .u8 1, .i .u8 0, .i .u8 1, .i .u8 12, .i .u8 188, .i .u8 218, .i .u8 52, .i .u8 179] (some 124) false 1), (126, .c [.i .u8 108, .i .u8 111, .i .u8 103, .i .u8 46, .i .u8 49] none true 1), (127, .c [.p 51 0] none false 0), (128, .c [.i .u8 108, .i .u8 111, .i .u8 103, .i .u8 46, .i .u8 49] none true 1), (129, .c [] none false 0), (130, .c [.i .u8 0, .i .u8 0, .i .u8 0, .i .u8 5, .i .u8 0, .i .u8 1, .i .u8 0, .i .u8 1, .i .u8 12, .i .u8 188, .i .u8 218, .i .u8 52, .i .u8 179] none false 1), (131, .c [.i .i64 1, .s [113], .i .i64 5, .i .u64 0, .i .i64 0, .s [], .i .i64 0, .b false, .s [], .s [], .s [], .i .i64 0, .i .u64 0, .i .i64 0, .s [], .s [], .s []] none false 0), (132, .c [.i .i64 1, .i .i64 2, .su 18 0 1 0, .i .i64 2, .i .u64 0, .i .u64 1, .p 135 0, .m 149, .p 136 0, .m 150] none false 0), (133, .m [] 0), (134, .m [] 0), (135, .c [.m 133, .m 134] none false 0), (136, .c [.p 137 0, .p 138 0, .p 139 0, .p 140 0, .p 141 0, .p 142 0, .p 143 0, .p 144 0, .p 145 0, .b true] none false 0), (137, .c [.ns, .b true] none false 0), (138, .c [.ns, .b true] none false 0), (139, .c [.ns, .b true] none false 0), (140, .c [.ns, .b true] none false 0), (141, .c [.ns, .b true] none false 0), (142, .c [.ns, .b true] none false 0), (143, .c [.ns, .b true] none false 0), (144, .c [.ns, .b true] none false 0), (145, .c [.ns, .b true] none false 0), (146, .c [.p 136 0] none false 0), (147, .c [.p 61 0] none false 0), (149, .m [(.s [113], .p 166 0, 0)] 1), (150, .m [] 0), (151, .it (some 74) 0 [] 0), (152, .it (some 75) 0 [] 0), (153, .c [.i .i64 1, .s [113], .i .i64 5, .i .u64 0, .i .i64 0, .s [], .i .i64 0, .b false, .s [], .s [], .s [], .i .i64 0, .i .u64 0, .i .i64 0, .s [], .s [], .s []] none false 0), (154, .c [.i .i64 1, .s [113], .i .i64 5, .i .u64 0, .i .i64 0, .s [], .i .i64 0, .b false, .s [], .s [], .s [], .i .i64 0, .i .u64 0, .i .i64 0, .s [], .s [], .s []] none false 0), (155, .c [.i .i64 1, .s [113], .i .i64 5, .i .u64 0, .i .i64 0, .s [], .i .i64 0, .b false, .s [], .s [], .s [], .i .i64 0, .i .u64 0, .i .i64 0, .s [], .s [], .s []] none false 0), (156, .c [.i .i64 1, .s [113], .i .i64 5, .i .u64 0, .i .i64 0, .s [], .i .i64 0, .b false, .s [], .s [], .s [], .i .i64 0, .i .u64 0, .i .i64 0, .s [], .s [], .s []] none false 0), (157, .c [.i .i64 1, .s [113], .i .i64 5, .i .u64 0, .i .i64 0, .s [], .i .i64 0, .b false, .s [], .s [], .s [], .i .i64 0, .i .u64 0, .i .i64 0, .s [], .s [], .s []] none false 0), (158, .c [.i .i64 1, .s [113], .i .i64 0, .i .u64 0, .i .i64 0, .s [], .i .i64 0, .b false, .s [], .s [], .s [], .i .i64 0, .i .u64 0, .i .i64 0, .s [], .s [], .s []] none false 0), (159, .c [.i .i64 1, .s [113], .i .i64 0, .i .u64 0, .i .i64 0, .s [], .i .i64 0, .b false, .s [], .s [], .s [], .i .i64 0, .i .u64 0, .i .i64 0, .s [], .s [], .s []] none false 0), (160, .si [113] 1), (161, .c [.i .i64 1, .s [113], .i .i64 5, .i .u64 0, .i .i64 0, .s [], .i .i64 0, .b false, .s [], .s [], .s [], .i .i64 0, .i .u64 0, .i .i64 0, .s [], .s [], .s []] none false 0), (162, .c [.i .i64 1, .s [113], .i .i64 5, .i .u64 0, .i .i64 0, .s [], .i .i64 0, .b false, .s [], .s [], .s [], .i .i64 0, .i .u64 0, .i .i64 0, .s [], .s [], .s []] none false 0), (163, .c [.i .i64 1, .s [113], .i .i64 5, .i .u64 0, .i .i64 0, .s [], .i .i64 0, .b false, .s [], .s [], .s [], .i .i64 0, .i .u64 0, .i .i64 0, .s [], .s [], .s []] none false 0), (164, .c [.i .i64 1, .s [113], .i .i64 5, .i .u64 0, .i .i64 0, .s [], .i .i64 0, .b false, .s [], .s [], .s [], .i .i64 0, .i .u64 0, .i .i64 0, .s [], .s [], .s []] none false 0), (165, .m [] 0), (166, .c [.i .i64 5, .i .u64 1, .ns, .m 165] none false 0), (167, .c [.sl 191 0 10 10] none false 0), (168, .c [.i .u8 0, .i .u8 1, .i .u8 0, .i .u8 0, .i .u8 0, .i .u8 0, .i .u8 0, .i .u8 0] none false 0), (169, .c [.i .u8 0] none false 0), (170, .c [.i .u8 1] none false 0), (171, .c [.i .i64 1, .s [113], .i .i64 5, .i .u64 0, .i .i64 0, .s [], .i .i64 0, .b false, .s [], .s [], .s [], .i .i64 0, .i .u64 0, .i .i64 0, .s [], .s [], .s []] none false 0), (172, .c [.i .i64 1, .s [113], .i .i64 5, .i .u64 0, .i .i64 0, .s [], .i .i64 0, .b false, .s [], .s [], .s [], .i .i64 0, .i .u64 0, .i .i64 0, .s [], .s [], .s []] none false 0), (173, .c [.i .i64 1, .s [113], .i .i64 5, .i .u64 0, .i .i64 0, .s [], .i .i64 0, .b false, .s [], .s [], .s [], .i .i64 0, .i .u64 0, .i .i64 0, .s [], .s [], .s []] none false 0), (174, .c [.i .i64 1, .s [113], .i .i64 5, .i .u64 0, .i .i64 0, .s [], .i .i64 0, .b false, .s [], .s [], .s [], .i .i64 0, .i .u64 0, .i .i64 0, .s [], .s [], .s []] none false 0), (175, .c [.i .i64 1, .s [113], .i .i64 5, .i .u64 0, .i .i64 0, .s [], .i .i64 0, .b false, .s [], .s [], .s [], .i .i64 0, .i .u64 0, .i .i64 0, .s [], .s [], .s []] none false 0), (176, .c [.i .i64 1, .s [113], .i .i64 0, .i .u64 0, .i .i64 0, .s [], .i .i64 0, .b false, .s [], .s [], .s [], .i .i64 0, .i .u64 0, .i .i64 0, .s [], .s [], .s []] none false 0), (177, .c [.i .i64 1, .s [113], .i .i64 0, .i .u64 0, .i .i64 0, .s [], .i .i64 0, .b false, .s [], .s [], .s [], .i .i64 0, .i .u64 0, .i .i64 0, .s [], .s [], .s []] none false 0), (178, .si [113] 1), (179, .c [.i .i64 1, .s [113], .i .i64 5, .i .u64 0, .i .i64 0, .s [], .i .i64 0, .b false, .s [], .s [], .s [], .i .i64 0, .i .u64 0, .i .i64 0, .s [], .s [], .s []] none false 0), (180, .c [.i .i64 1, .s [113], .i .i64 5, .i .u64 0, .i .i64 0, .s [], .i .i64 0, .b false, .s [], .s [], .s [], .i .i64 0, .i .u64 0, .i .i64 0, .s [], .s [], .s []] none false 0), (181, .c [.i .i64 1, .s [113], .i .i64 5, .i .u64 0, .i .i64 0, .s [], .i .i64 0, .b false, .s [], .s [], .s [], .i .i64 0, .i .u64 0, .i .i64 0, .s [], .s [], .s []] none false 0), (182, .c [.sl 188 0 6 12] none false 0), (183, .c [.i .u8 1, .i .u8 0, .i .u8 0, .i .u8 0, .i .u8 0, .i .u8 0, .i .u8 0, .i .u8 0] none false 0), (184, .c [.i .u8 1] none false 0), (185, .c [.i .u8 1, .i .u8 0, .i .u8 1, .i .u8 113, .i .u8 0, .i .u8 0, .i .u8 0, .i .u8 0, .i .u8 0] none false 0), (186, .c [.i .u8 0] none false 0), (187, .c [.i .u8 1] none false 0), (188, .c [.i .u8 1, .i .u8 0, .i .u8 1, .i .u8 113, .i .u8 0, .i .u8 5, .i .u8 0, .i .u8 0, .i .u8 0, .i .u8 0, .i .u8 0, .i .u8 0] none false 0), (189, .c [.i .u8 0] none false 0), (190, .c [.i .u8 5] none false 0), (191, .c [.i .u8 0, .i .u8 1, .i .u8 0, .i .u8 6, .i .u8 1, .i .u8 0, .i .u8 1, .i .u8 113, .i .u8 0, .i .u8 5] none false 0), (192, .c [.i .u8 0] none false 0), (193, .c [.i .u8 6] none false 0), (194, .c [] none false 0), (195, .c [.i .u8 0, .i .u8 1, .i .u8 0, .i .u8 6, .i .u8 1, .i .u8 0, .i .u8 1, .i .u8 113, .i .u8 0, .i .u8 5] none false 1), (196, .c [.su 195 0 10 0] none false 0), (197, .c [.su 195 0 10 0] none false 1), (198, .c [.p 54 0] none false 0), (199, .c [.su 211 0 18 0] none false 0), (200, .c [.i .u8 0, .i .u8 0, .i .u8 0, .i .u8 10, .i .u8 0, .i .u8 0, .i .u8 0, .i .u8 0] none false 0), (201, .c [.i .u8 0] none false 0), (202, .c [.i .u8 0] none false 0), (203, .c [.i .u8 0] none false 0), (204, .c [.i .u8 10] none false 0), (205, .c [.i .u8 0, .i .u8 0, .i .u8 0, .i .u8 10, .i .u8 0, .i .u8 1, .i .u8 0, .i .u8 6, .i .u8 1, .i .u8 0, .i .u8 1, .i .u8 113, .i .u8 0, .i .u8 5] none false 1), (206, .c [.i .u8 0, .i .u8 0, .i .u8 0, .i .u8 10, .i .u8 0, .i .u8 1, .i .u8 0, .i .u8 6, .i .u8 1, .i .u8 0, .i .u8 1, .i .u8 113, .i .u8 0, .i .u8 5, .i .u8 170, .i .u8 86, .i .u8 184, .i .u8 242, .i .u8 0, .i .u8 0, .i .u8 0, .i .u8 0] none false 0), (207, .c [.i .u8 170] none false 0), (208, .c [.i .u8 86] none false 0), (209, .c [.i .u8 184] none false 0), (210, .c [.i .u8 242] none false 0), (211, .c [.i .u8 0, .i .u8 0, .i .u8 0, .i .u8 10, .i .u8 0, .i .u8 1, .i .u8 0, .i .u8 6, .i .u8 1, .i .u8 0, .i .u8 1, .i .u8 113, .i .u8 0, .i .u8 5, .i .u8 170, .i .u8 86, .i .u8 184, .i .u8 242] none false 1), (212, .c [.s [108, 111, 103, 46, 49]] none false 0), (213, .c [.f 50 [] [.p 198 0, .p 212 0, .p 199 0], .f 52 [] [.p 198 0, .p 212 0]] none false 0), (214, .c [.su 211 0 18 0] none false 0), (215, .c [.i .u8 108, .i .u8 111, .i .u8 103, .i .u8 46, .i .u8 49] none true 1), (216, .c [.p 51 0] none false 0), (217, .it (some 2) 1 [0] 1), (218, .c [.su 125 0 13 0, .su 211 0 18 0] none false 0), (220, .c [.i .u8 0, .i .u8 0, .i .u8 0, .i .u8 5, .i .u8 0, .i .u8 1, .i .u8 0, .i .u8 1, .i .u8 12, .i .u8 188, .i .u8 218, .i .u8 52, .i .u8 179] (some 221) false 1), (221, .c [.i .u8 0, .i .u8 0, .i .u8 0, .i .u8 5, .i .u8 0, .i .u8 1, .i .u8 0, .i .u8 1, .i .u8 12, .i .u8 188, .i .u8 218, .i .u8 52, .i .u8 179, .i .u8 0, .i .u8 0, .i .u8 0, .i .u8 10, .i .u8 0, .i .u8 1, .i .u8 0, .i .u8 6, .i .u8 1, .i .u8 0, .i .u8 1, .i .u8 113, .i .u8 0, .i .u8 5, .i .u8 170, .i .u8 86, .i .u8 184, .i .u8 242] (some 220) false 1), (222, .c [.i .u8 108, .i .u8 111, .i .u8 103, .i .u8 46, .i .u8 49] none true 1), (223, .c [.p 51 0] none false 0), (224, .c [.i .u8 108, .i .u8 111, .i .u8 103, .i .u8 46, .i .u8 49] none true 1), (225, .c [] none false 0), (226, .c [.i .u8 0, .i .u8 0, .i .u8 0, .i .u8 5, .i .u8 0, .i .u8 1, .i .u8 0, .i .u8 1, .i .u8 12, .i .u8 188, .i .u8 218, .i .u8 52, .i .u8 179, .i .u8 0, .i .u8 0, .i .u8 0, .i .u8 10, .i .u8 0, .i .u8 1, .i .u8 0, .i .u8 6, .i .u8 1, .i .u8 0, .i .u8 1, .i .u8 113, .i .u8 0, .i .u8 5, .i .u8 170, .i .u8 86, .i .u8 184, .i .u8 242] none false 1), (227, .c [.i .i64 0] none false 0), (228, .c [.p 4 0] none false 0), (230, .m [(.p 51 0, .b true, 0)] 1), (231, .it (some 2) 1 [0] 1), (232, .it (some 53) 1 [0] 1), (233, .m [(.s [108, 111, 103, 46, 49], .p 51 0, 0)] 1), (234, .c [.i .i64 2, .sl 235 0 1 1, .i .i64 2] none false 0), (235, .c [.i .i64 1, .i .i64 2] none false 0), (236, .c [.i .i64 4, .i .i64 3, .i .i64 200, .i .i64 6] none false 0)]
  ni := 237
  v := .t [.p 293 0, .i .i64 0]
  ho := [(0, .c [.s [45], .s [110, 99], .s [110], .s [120], .s [110], .s [98], .s [98], .s [109], .s [110], .s [110, 116], .s [110, 116], .s [111, 99], .s []] none true 0), (1, .c [.i .i64 1, .i .i64 2, .i .i64 4, .i .i64 8] none true 0), (2, .m [(.s [108, 111, 103, 46, 49], .p 51 0, 0)] 1), (3, .m [] 0), (4, .c [.i .i64 50000, .m 233, .m 53, .b false, .i .i64 8, .i .i64 0, .i .i64 0] none false 0), (5, .c [.i .i64 2, .sl 6 0 1 1, .i .i64 2] none false 0), (6, .c [.i .i64 1, .i .i64 2] none false 0), (7, .c [.i .i64 4, .i .i64 3, .i .i64 200, .i .i64 6] none false 0), (8, .c [.i .i64 2, .sl 6 0 1 1, .i .i64 2] none false 0), (9, .c [.i .i64 4, .i .i64 3, .i .i64 200, .i .i64 6] none false 0), (18, .c [.i .i64 1, .i .i64 2] none false 2), (19, .m [] 0), (20, .m [] 0), (21, .c [.m 19, .m 20] none false 0), (22, .m [] 0), (23, .c [.p 24 0, .p 25 0, .p 26 0, .p 27 0, .p 28 0, .p 29 0, .p 30 0, .p 31 0, .p 32 0, .b true] none false 0), (24, .c [.ns, .b true] none false 0), (25, .c [.ns, .b true] none false 0), (26, .c [.ns, .b true] none false 0), (27, .c [.ns, .b true] none false 0), (28, .c [.ns, .b true] none false 0), (29, .c [.ns, .b true] none false 0), (30, .c [.ns, .b true] none false 0), (31, .c [.ns, .b true] none false 0), (32, .c [.ns, .b true] none false 0), (33, .m [] 0), (34, .c [.i .i64 1, .i .i64 2, .su 18 0 1 0, .i .i64 2, .i .u64 0, .i .u64 0, .p 21 0, .m 22, .p 23 0, .m 33] none false 0), (35, .c [.i .i64 4, .i .i64 3, .i .i64 200, .i .i64 6] none false 0), (36, .c [.p 4 0] none false 0), (37, .c [.i .u8 99, .i .u8 104, .i .u8 101, .i .u8 99, .i .u8 107] none true 1), (38, .c [.i .u8 99, .i .u8 104, .i .u8 101, .i .u8 99, .i .u8 107] none true 1), (39, .c [.i .i64 1] none false 0), (40, .c [.m 2] none false 0), (41, .c [.ns] none false 0), (43, .it (some 2) 0 [] 0), (44, .c [.i .i64 (-1)] none false 0), (45, .c [.i .i64 1] none false 0), (46, .c [.f 97 [] [.p 36 0, .p 39 0], .f 67 [.p 4 0] []] none false 0), (47, .c [.p 4 0] none false 0), (48, .c [.s [108, 111, 103, 46, 49]] none false 0), (49, .c [.i .u8 108, .i .u8 111, .i .u8 103, .i .u8 46, .i .u8 49] none true 1), (50, .it (some 2) 0 [] 0), (51, .c [.su 416 0 44 0, .su 416 0 44 0] none false 0), (52, .c [.p 4 0] none false 0), (53, .m [(.s [108, 111, 103, 46, 49], .p 51 0, 0)] 1), (54, .c [.p 4 0, .i .i64 200, .i .i64 1, .ns, .b false] none false 0), (55, .c [.p 54 0, .p 4 0, .p 132 0, .i .i64 6, .i .i64 2, .i .i64 0, .b false] none false 0), (56, .c [.i .i64 12, .s [], .i .i64 0, .i .u64 0, .i .i64 0, .s [], .i .i64 0, .b false, .s [], .s [], .s [], .i .i64 0, .i .u64 0, .i .i64 0, .s [], .s [], .s []] none false 0), (57, .c [.i .i64 1, .i .i64 2, .su 18 0 1 0, .i .i64 2, .i .u64 0, .i .u64 1, .p 60 0, .m 74, .p 61 0, .m 75] none false 0), (58, .m [] 0), (59, .m [] 0), (60, .c [.m 58, .m 59] none false 0), (61, .c [.p 62 0, .p 63 0, .p 64 0, .p 65 0, .p 66 0, .p 67 0, .p 68 0, .p 69 0, .p 70 0, .b true] none false 0), (62, .c [.ns, .b true] none false 0), (63, .c [.ns, .b true] none false 0), (64, .c [.ns, .b true] none false 0), (65, .c [.ns, .b true] none false 0), (66, .c [.ns, .b true] none false 0), (67, .c [.ns, .b true] none false 0), (68, .c [.ns, .b true] none false 0), (69, .c [.ns, .b true] none false 0), (70, .c [.ns, .b true] none false 0), (71, .c [.p 61 0] none false 0), (72, .c [.p 23 0] none false 0), (74, .m [] 0), (75, .m [] 0), (76, .it (some 22) 0 [] 0), (77, .it (some 33) 0 [] 0), (78, .c [.i .i64 12, .s [], .i .i64 0, .i .u64 0, .i .i64 0, .s [], .i .i64 0, .b false, .s [], .s [], .s [], .i .i64 0, .i .u64 0, .i .i64 0, .s [], .s [], .s []] none false 0), (79, .c [.i .i64 12, .s [], .i .i64 0, .i .u64 0, .i .i64 0, .s [], .i .i64 0, .b false, .s [], .s [], .s [], .i .i64 0, .i .u64 0, .i .i64 0, .s [], .s [], .s []] none false 0), (80, .c [.i .i64 12, .s [], .i .i64 0, .i .u64 0, .i .i64 0, .s [], .i .i64 0, .b false, .s [], .s [], .s [], .i .i64 0, .i .u64 0, .i .i64 0, .s [], .s [], .s []] none false 0), (81, .c [.i .i64 12, .s [], .i .i64 0, .i .u64 0, .i .i64 0, .s [], .i .i64 0, .b false, .s [], .s [], .s [], .i .i64 0, .i .u64 0, .i .i64 0, .s [], .s [], .s []] none false 0), (82, .c [.i .i64 12, .s [], .i .i64 0, .i .u64 0, .i .i64 0, .s [], .i .i64 0, .b false, .s [], .s [], .s [], .i .i64 0, .i .u64 0, .i .i64 0, .s [], .s [], .s []] none false 0), (83, .it (some 74) 0 [] 0), (84, .c [.sl 95 0 5 10] none false 0), (85, .c [.i .u8 0, .i .u8 1, .i .u8 0, .i .u8 0, .i .u8 0, .i .u8 0, .i .u8 0, .i .u8 0] none false 0), (86, .c [.i .u8 0] none false 0), (87, .c [.i .u8 1] none false 0), (88, .c [.i .i64 12, .s [], .i .i64 0, .i .u64 0, .i .i64 0, .s [], .i .i64 0, .b false, .s [], .s [], .s [], .i .i64 0, .i .u64 0, .i .i64 0, .s [], .s [], .s []] none false 0), (89, .c [.i .i64 12, .s [], .i .i64 0, .i .u64 0, .i .i64 0, .s [], .i .i64 0, .b false, .s [], .s [], .s [], .i .i64 0, .i .u64 0, .i .i64 0, .s [], .s [], .s []] none false 0), (90, .c [.i .i64 12, .s [], .i .i64 0, .i .u64 0, .i .i64 0, .s [], .i .i64 0, .b false, .s [], .s [], .s [], .i .i64 0, .i .u64 0, .i .i64 0, .s [], .s [], .s []] none false 0), (91, .c [.i .i64 12, .s [], .i .i64 0, .i .u64 0, .i .i64 0, .s [], .i .i64 0, .b false, .s [], .s [], .s [], .i .i64 0, .i .u64 0, .i .i64 0, .s [], .s [], .s []] none false 0), (92, .c [.sl 93 0 1 8] none false 0), (93, .c [.i .u8 12, .i .u8 0, .i .u8 0, .i .u8 0, .i .u8 0, .i .u8 0, .i .u8 0, .i .u8 0] none false 0), (94, .c [.i .u8 12] none false 0), (95, .c [.i .u8 0, .i .u8 1, .i .u8 0, .i .u8 1, .i .u8 12, .i .u8 0, .i .u8 0, .i .u8 0, .i .u8 0, .i .u8 0] none false 0), (96, .c [.i .u8 0] none false 0), (97, .c [.i .u8 1] none false 0), (98, .c [] none false 0), (99, .c [.i .u8 0, .i .u8 1, .i .u8 0, .i .u8 1, .i .u8 12] none false 1), (100, .c [.su 99 0 5 0] none false 0), (101, .c [.su 99 0 5 0] none false 1), (102, .c [.p 54 0] none false 0), (103, .c [.su 115 0 13 0] none false 0), (104, .c [.i .u8 0, .i .u8 0, .i .u8 0, .i .u8 5, .i .u8 0, .i .u8 0, .i .u8 0, .i .u8 0] none false 0), (105, .c [.i .u8 0] none false 0), (106, .c [.i .u8 0] none false 0), (107, .c [.i .u8 0] none false 0), (108, .c [.i .u8 5] none false 0), (109, .c [.i .u8 0, .i .u8 0, .i .u8 0, .i .u8 5, .i .u8 0, .i .u8 1, .i .u8 0, .i .u8 1, .i .u8 12] none false 1), (110, .c [.i .u8 0, .i .u8 0, .i .u8 0, .i .u8 5, .i .u8 0, .i .u8 1, .i .u8 0, .i .u8 1, .i .u8 12, .i .u8 188, .i .u8 218, .i .u8 52, .i .u8 179, .i .u8 0, .i .u8 0, .i .u8 0, .i .u8 0] none false 0), (111, .c [.i .u8 188] none false 0), (112, .c [.i .u8 218] none false 0), (113, .c [.i .u8 52] none false 0), (114, .c [.i .u8 179] none false 0), (115, .c [.i .u8 0, .i .u8 0, .i .u8 0, .i .u8 5, .i .u8 0, .i .u8 1, .i .u8 0, .i .u8 1, .i .u8 12, .i .u8 188, .i .u8 218, .i .u8 52, .i .u8 179] none false 1), (116, .c [.s [108, 111, 103, 46, 49]] none false 0), (117, .c [.f 50 [] [.p 102 0, .p 116 0, .p 103 0], .f 52 [] [.p 102 0, .p 116 0]] none false 0), (118, .c [.su 115 0 13 0] none false 0), (119, .c [.i .u8 108, .i .u8 111, .i .u8 103, .i .u8 46, .i .u8 49] none true 1), (120, .c [.p 51 0] none false 0), (121, .it (some 2) 1 [0] 1), (122, .c [.ns, .su 115 0 13 0] none false 0), (124, .c [] (some 125) false 1), (125, .c [.i .u8 0, .i .u8 0, .i .u8 0, .i .u8 5, .i .u8 0, .i .u8 1, .i .u8 0, .i .u8 1, .i .u8 12, .i .u8 188, .i .u8 218, .i .u8 52, .i .u8 179] (some 124) false 1), (126, .c [.i .u8 108, .i .u8 111, .i .u8 103, .i .u8 46, .i .u8 49] none true 1), (127, .c [.p 51 0] none false 0), (128, .c [.i .u8 108, .i .u8 111, .i .u8 103, .i .u8 46, .i .u8 49] none true 1), (129, .c [] none false 0), (130, .c [.i .u8 0, .i .u8 0, .i .u8 0, .i .u8 5, .i .u8 0, .i .u8 1, .i .u8 0, .i .u8 1, .i .u8 12, .i .u8 188, .i .u8 218, .i .u8 52, .i .u8 179] none false 1), (131, .c [.i .i64 1, .s [113], .i .i64 5, .i .u64 0, .i .i64 0, .s [], .i .i64 0, .b false, .s [], .s [], .s [], .i .i64 0, .i .u64 0, .i .i64 0, .s [], .s [], .s []] none false 0), (132, .c [.i .i64 1, .i .i64 2, .su 18 0 1 0, .i .i64 2, .i .u64 0, .i .u64 1, .p 135 0, .m 149, .p 136 0, .m 150] none false 0), (133, .m [] 0), (134, .m [] 0), (135, .c [.m 133, .m 134] none false 0), (136, .c [.p 137 0, .p 138 0, .p 139 0, .p 140 0, .p 141 0, .p 142 0, .p 143 0, .p 144 0, .p 145 0, .b true] none false 0), (137, .c [.ns, .b true] none false 0), (138, .c [.ns, .b true] none false 0), (139, .c [.ns, .b true] none false 0), (140, .c [.ns, .b true] none false 0), (141, .c [.ns, .b true] none false 0), (142, .c [.ns, .b true] none false 0), (143, .c [.ns, .b true] none false 0), (144, .c [.ns, .b true] none false 0), (145, .c [.ns, .b true] none false 0), (146, .c [.p 136 0] none false 0), (147, .c [.p 61 0] none false 0), (149, .m [(.s [113], .p 166 0, 0)] 1), (150, .m [] 0), (151, .it (some 74) 0 [] 0), (152, .it (some 75) 0 [] 0), (153, .c [.i .i64 1, .s [113], .i .i64 5, .i .u64 0, .i .i64 0, .s [], .i .i64 0, .b false, .s [], .s [], .s [], .i .i64 0, .i .u64 0, .i .i64 0, .s [], .s [], .s []] none false 0), (154, .c [.i .i64 1, .s [113], .i .i64 5, .i .u64 0, .i .i64 0, .s [], .i .i64 0, .b false, .s [], .s [], .s [], .i .i64 0, .i .u64 0, .i .i64 0, .s [], .s [], .s []] none false 0), (155, .c [.i .i64 1, .s [113], .i .i64 5, .i .u64 0, .i .i64 0, .s [], .i .i64 0, .b false, .s [], .s [], .s [], .i .i64 0, .i .u64 0, .i .i64 0, .s [], .s [], .s []] none false 0), (156, .c [.i .i64 1, .s [113], .i .i64 5, .i .u64 0, .i .i64 0, .s [], .i .i64 0, .b false, .s [], .s [], .s [], .i .i64 0, .i .u64 0, .i .i64 0, .s [], .s [], .s []] none false 0), (157, .c [.i .i64 1, .s [113], .i .i64 5, .i .u64 0, .i .i64 0, .s [], .i .i64 0, .b false, .s [], .s [], .s [], .i .i64 0, .i .u64 0, .i .i64 0, .s [], .s [], .s []] none false 0), (158, .c [.i .i64 1, .s [113], .i .i64 0, .i .u64 0, .i .i64 0, .s [], .i .i64 0, .b false, .s [], .s [], .s [], .i .i64 0, .i .u64 0, .i .i64 0, .s [], .s [], .s []] none false 0), (159, .c [.i .i64 1, .s [113], .i .i64 0, .i .u64 0, .i .i64 0, .s [], .i .i64 0, .b false, .s [], .s [], .s [], .i .i64 0, .i .u64 0, .i .i64 0, .s [], .s [], .s []] none false 0), (160, .si [113] 1), (161, .c [.i .i64 1, .s [113], .i .i64 5, .i .u64 0, .i .i64 0, .s [], .i .i64 0, .b false, .s [], .s [], .s [], .i .i64 0, .i .u64 0, .i .i64 0, .s [], .s [], .s []] none false 0), (162, .c [.i .i64 1, .s [113], .i .i64 5, .i .u64 0, .i .i64 0, .s [], .i .i64 0, .b false, .s [], .s [], .s [], .i .i64 0, .i .u64 0, .i .i64 0, .s [], .s [], .s []] none false 0), (163, .c [.i .i64 1, .s [113], .i .i64 5, .i .u64 0, .i .i64 0, .s [], .i .i64 0, .b false, .s [], .s [], .s [], .i .i64 0, .i .u64 0, .i .i64 0, .s [], .s [], .s []] none false 0), (164, .c [.i .i64 1, .s [113], .i .i64 5, .i .u64 0, .i .i64 0, .s [], .i .i64 0, .b false, .s [], .s [], .s [], .i .i64 0, .i .u64 0, .i .i64 0, .s [], .s [], .s []] none false 0), (165, .m [] 0), (166, .c [.i .i64 5, .i .u64 1, .ns, .m 165] none false 0), (167, .c [.sl 191 0 10 10] none false 0), (168, .c [.i .u8 0, .i .u8 1, .i .u8 0, .i .u8 0, .i .u8 0, .i .u8 0, .i .u8 0, .i .u8 0] none false 0), (169, .c [.i .u8 0] none false 0), (170, .c [.i .u8 1] none false 0), (171, .c [.i .i64 1, .s [113], .i .i64 5, .i .u64 0, .i .i64 0, .s [], .i .i64 0, .b false, .s [], .s [], .s [], .i .i64 0, .i .u64 0, .i .i64 0, .s [], .s [], .s []] none false 0), (172, .c [.i .i64 1, .s [113], .i .i64 5, .i .u64 0, .i .i64 0, .s [], .i .i64 0, .b false, .s [], .s [], .s [], .i .i64 0, .i .u64 0, .i .i64 0, .s [], .s [], .s []] none false 0), (173, .c [.i .i64 1, .s [113], .i .i64 5, .i .u64 0, .i .i64 0, .s [], .i .i64 0, .b false, .s [], .s [], .s [], .i .i64 0, .i .u64 0, .i .i64 0, .s [], .s [], .s []] none false 0), (174, .c [.i .i64 1, .s [113], .i .i64 5, .i .u64 0, .i .i64 0, .s [], .i .i64 0, .b false, .s [], .s [], .s [], .i .i64 0, .i .u64 0, .i .i64 0, .s [], .s [], .s []] none false 0), (175, .c [.i .i64 1, .s [113], .i .i64 5, .i .u64 0, .i .i64 0, .s [], .i .i64 0, .b false, .s [], .s [], .s [], .i .i64 0, .i .u64 0, .i .i64 0, .s [], .s [], .s []] none false 0), (176, .c [.i .i64 1, .s [113], .i .i64 0, .i .u64 0, .i .i64 0, .s [], .i .i64 0, .b false, .s [], .s [], .s [], .i .i64 0, .i .u64 0, .i .i64 0, .s [], .s [], .s []] none false 0), (177, .c [.i .i64 1, .s [113], .i .i64 0, .i .u64 0, .i .i64 0, .s [], .i .i64 0, .b false, .s [], .s [], .s [], .i .i64 0, .i .u64 0, .i .i64 0, .s [], .s [], .s []] none false 0), (178, .si [113] 1), (179, .c [.i .i64 1, .s [113], .i .i64 5, .i .u64 0, .i .i64 0, .s [], .i .i64 0, .b false, .s [], .s [], .s [], .i .i64 0, .i .u64 0, .i .i64 0, .s [], .s [], .s []] none false 0), (180, .c [.i .i64 1, .s [113], .i .i64 5, .i .u64 0, .i .i64 0, .s [], .i .i64 0, .b false, .s [], .s [], .s [], .i .i64 0, .i .u64 0, .i .i64 0, .s [], .s [], .s []] none false 0), (181, .c [.i .i64 1, .s [113], .i .i64 5, .i .u64 0, .i .i64 0, .s [], .i .i64 0, .b false, .s [], .s [], .s [], .i .i64 0, .i .u64 0, .i .i64 0, .s [], .s [], .s []] none false 0), (182, .c [.sl 188 0 6 12] none false 0), (183, .c [.i .u8 1, .i .u8 0, .i .u8 0, .i .u8 0, .i .u8 0, .i .u8 0, .i .u8 0, .i .u8 0] none false 0), (184, .c [.i .u8 1] none false 0), (185, .c [.i .u8 1, .i .u8 0, .i .u8 1, .i .u8 113, .i .u8 0, .i .u8 0, .i .u8 0, .i .u8 0, .i .u8 0] none false 0), (186, .c [.i .u8 0] none false 0), (187, .c [.i .u8 1] none false 0), (188, .c [.i .u8 1, .i .u8 0, .i .u8 1, .i .u8 113, .i .u8 0, .i .u8 5, .i .u8 0, .i .u8 0, .i .u8 0, .i .u8 0, .i .u8 0, .i .u8 0] none false 0), (189, .c [.i .u8 0] none false 0), (190, .c [.i .u8 5] none false 0), (191, .c [.i .u8 0, .i .u8 1, .i .u8 0, .i .u8 6, .i .u8 1, .i .u8 0, .i .u8 1, .i .u8 113, .i .u8 0, .i .u8 5] none false 0), (192, .c [.i .u8 0] none false 0), (193, .c [.i .u8 6] none false 0), (194, .c [] none false 0), (195, .c [.i .u8 0, .i .u8 1, .i .u8 0, .i .u8 6, .i .u8 1, .i .u8 0, .i .u8 1, .i .u8 113, .i .u8 0, .i .u8 5] none false 1), (196, .c [.su 195 0 10 0] none false 0), (197, .c [.su 195 0 10 0] none false 1), (198, .c [.p 54 0] none false 0), (199, .c [.su 211 0 18 0] none false 0), (200, .c [.i .u8 0, .i .u8 0, .i .u8 0, .i .u8 10, .i .u8 0, .i .u8 0, .i .u8 0, .i .u8 0] none false 0), (201, .c [.i .u8 0] none false 0), (202, .c [.i .u8 0] none false 0), (203, .c [.i .u8 0] none false 0), (204, .c [.i .u8 10] none false 0), (205, .c [.i .u8 0, .i .u8 0, .i .u8 0, .i .u8 10, .i .u8 0, .i .u8 1, .i .u8 0, .i .u8 6, .i .u8 1, .i .u8 0, .i .u8 1, .i .u8 113, .i .u8 0, .i .u8 5] none false 1), (206, .c [.i .u8 0, .i .u8 0, .i .u8 0, .i .u8 10, .i .u8 0, .i .u8 1, .i .u8 0, .i .u8 6, .i .u8 1, .i .u8 0, .i .u8 1, .i .u8 113, .i .u8 0, .i .u8 5, .i .u8 170, .i .u8 86, .i .u8 184, .i .u8 242, .i .u8 0, .i .u8 0, .i .u8 0, .i .u8 0] none false 0), (207, .c [.i .u8 170] none false 0), (208, .c [.i .u8 86] none false 0), (209, .c [.i .u8 184] none false 0), (210, .c [.i .u8 242] none false 0), (211, .c [.i .u8 0, .i .u8 0, .i .u8 0, .i .u8 10, .i .u8 0, .i .u8 1, .i .u8 0, .i .u8 6, .i .u8 1, .i .u8 0, .i .u8 1, .i .u8 113, .i .u8 0, .i .u8 5, .i .u8 170, .i .u8 86, .i .u8 184, .i .u8 242] none false 1), (212, .c [.s [108, 111, 103, 46, 49]] none false 0), (213, .c [.f 50 [] [.p 198 0, .p 212 0, .p 199 0], .f 52 [] [.p 198 0, .p 212 0]] none false 0), (214, .c [.su 211 0 18 0] none false 0), (215, .c [.i .u8 108, .i .u8 111, .i .u8 103, .i .u8 46, .i .u8 49] none true 1), (216, .c [.p 51 0] none false 0), (217, .it (some 2) 1 [0] 1), (218, .c [.su 125 0 13 0, .su 211 0 18 0] none false 0), (220, .c [.i .u8 0, .i .u8 0, .i .u8 0, .i .u8 5, .i .u8 0, .i .u8 1, .i .u8 0, .i .u8 1, .i .u8 12, .i .u8 188, .i .u8 218, .i .u8 52, .i .u8 179] (some 221) false 1), (221, .c [.i .u8 0, .i .u8 0, .i .u8 0, .i .u8 5, .i .u8 0, .i .u8 1, .i .u8 0, .i .u8 1, .i .u8 12, .i .u8 188, .i .u8 218, .i .u8 52, .i .u8 179, .i .u8 0, .i .u8 0, .i .u8 0, .i .u8 10, .i .u8 0, .i .u8 1, .i .u8 0, .i .u8 6, .i .u8 1, .i .u8 0, .i .u8 1, .i .u8 113, .i .u8 0, .i .u8 5, .i .u8 170, .i .u8 86, .i .u8 184, .i .u8 242] (some 220) false 1), (222, .c [.i .u8 108, .i .u8 111, .i .u8 103, .i .u8 46, .i .u8 49] none true 1), (223, .c [.p 51 0] none false 0), (224, .c [.i .u8 108, .i .u8 111, .i .u8 103, .i .u8 46, .i .u8 49] none true 1), (225, .c [] none false 0), (226, .c [.i .u8 0, .i .u8 0, .i .u8 0, .i .u8 5, .i .u8 0, .i .u8 1, .i .u8 0, .i .u8 1, .i .u8 12, .i .u8 188, .i .u8 218, .i .u8 52, .i .u8 179, .i .u8 0, .i .u8 0, .i .u8 0, .i .u8 10, .i .u8 0, .i .u8 1, .i .u8 0, .i .u8 6, .i .u8 1, .i .u8 0, .i .u8 1, .i .u8 113, .i .u8 0, .i .u8 5, .i .u8 170, .i .u8 86, .i .u8 184, .i .u8 242] none false 1), (227, .c [.i .i64 0] none false 0), (228, .c [.p 4 0] none false 0), (230, .m [(.p 51 0, .b true, 0)] 1), (231, .it (some 2) 1 [0] 1), (232, .it (some 53) 1 [0] 1), (233, .m [(.s [108, 111, 103, 46, 49], .p 51 0, 0)] 1), (234, .c [.i .i64 2, .sl 235 0 1 1, .i .i64 2] none false 0), (235, .c [.i .i64 1, .i .i64 2] none false 0), (236, .c [.i .i64 4, .i .i64 3, .i .i64 200, .i .i64 6] none false 0), (237, .c [.i .i64 2, .sl 235 0 1 1, .i .i64 2] none false 0), (238, .c [.i .i64 4, .i .i64 3, .i .i64 200, .i .i64 6] none false 0), (247, .c [.i .i64 1, .i .i64 2] none false 2), (248, .m [] 0), (249, .m [] 0), (250, .c [.m 248, .m 249] none false 0), (251, .m [(.s [113], .p 340 0, 0)] 1), (252, .c [.p 253 0, .p 254 0, .p 255 0, .p 256 0, .p 257 0, .p 258 0, .p 259 0, .p 260 0, .p 261 0, .b true] none false 0), (253, .c [.ns, .b true] none false 0), (254, .c [.ns, .b true] none false 0), (255, .c [.ns, .b true] none false 0), (256, .c [.ns, .b true] none false 0), (257, .c [.ns, .b true] none false 0), (258, .c [.ns, .b true] none false 0), (259, .c [.ns, .b true] none false 0), (260, .c [.ns, .b true] none false 0), (261, .c [.ns, .b true] none false 0), (262, .m [] 0), (263, .c [.i .i64 1, .i .i64 2, .su 247 0 1 0, .i .i64 2, .i .u64 0, .i .u64 1, .p 250 0, .m 251, .p 252 0, .m 262] none false 0), (264, .c [.i .i64 4, .i .i64 3, .i .i64 200, .i .i64 6] none false 0), (265, .c [.p 4 0] none false 0), (266, .c [.i .u8 99, .i .u8 104, .i .u8 101, .i .u8 99, .i .u8 107] none true 1), (267, .c [.i .u8 99, .i .u8 104, .i .u8 101, .i .u8 99, .i .u8 107] none true 1), (268, .c [.i .i64 1] none false 0), (269, .c [.m 233] none false 0), (270, .c [.su 274 0 1 0] none false 0), (272, .it (some 233) 1 [0] 1), (273, .c [.s [108, 111, 103, 46, 49]] none false 0), (274, .c [.s [108, 111, 103, 46, 49]] none false 1), (275, .c [.i .u8 49] none true 1), (276, .c [.i .i64 1] none false 0), (277, .c [.i .i64 1] none false 1), (278, .c [.i .u8 108, .i .u8 111, .i .u8 103, .i .u8 46, .i .u8 49] none true 1), (279, .c [] none false 0), (280, .c [.i .u8 0, .i .u8 0, .i .u8 0, .i .u8 5, .i .u8 0, .i .u8 1, .i .u8 0, .i .u8 1, .i .u8 12, .i .u8 188, .i .u8 218, .i .u8 52, .i .u8 179, .i .u8 0, .i .u8 0, .i .u8 0, .i .u8 10, .i .u8 0, .i .u8 1, .i .u8 0, .i .u8 6, .i .u8 1, .i .u8 0, .i .u8 1, .i .u8 113, .i .u8 0, .i .u8 5, .i .u8 170, .i .u8 86, .i .u8 184, .i .u8 242] none false 1), (283, .c [.i .u8 0, .i .u8 1, .i .u8 0, .i .u8 1, .i .u8 12] none false 1), (285, .c [.su 283 0 5 0] (some 288) false 1), (286, .c [.i .u8 0, .i .u8 1, .i .u8 0, .i .u8 6, .i .u8 1, .i .u8 0, .i .u8 1, .i .u8 113, .i .u8 0, .i .u8 5] none false 1), (288, .c [.su 283 0 5 0, .su 286 0 10 0] (some 285) false 1), (289, .c [.su 283 0 5 0, .su 286 0 10 0] none false 1), (290, .c [.i .i64 (-1)] none false 0), (291, .c [.i .i64 1] none false 0), (292, .c [.p 4 0, .i .i64 200, .i .i64 1, .ns, .b false] none false 0), (293, .c [.p 292 0, .p 4 0, .p 342 0, .i .i64 6, .i .i64 3, .i .i64 0, .b false] none false 0), (294, .c [.su 283 0 5 0, .i .i64 5] none false 0), (295, .c [.i .u8 12] none true 1), (296, .c [.i .i64 12, .s [], .i .i64 0, .i .u64 0, .i .i64 0, .s [], .i .i64 0, .b false, .s [], .s [], .s [], .i .i64 0, .i .u64 0, .i .i64 0, .s [], .s [], .s []] none false 0), (297, .c [.su 295 0 1 0, .i .i64 1] none false 0), (298, .c [.i .i64 12, .s [], .i .i64 0, .i .u64 0, .i .i64 0, .s [], .i .i64 0, .b false, .s [], .s [], .s [], .i .i64 0, .i .u64 0, .i .i64 0, .s [], .s [], .s []] none false 0), (299, .c [.i .i64 12, .s [], .i .i64 0, .i .u64 0, .i .i64 0, .s [], .i .i64 0, .b false, .s [], .s [], .s [], .i .i64 0, .i .u64 0, .i .i64 0, .s [], .s [], .s []] none false 0), (300, .c [.i .i64 12, .s [], .i .i64 0, .i .u64 0, .i .i64 0, .s [], .i .i64 0, .b false, .s [], .s [], .s [], .i .i64 0, .i .u64 0, .i .i64 0, .s [], .s [], .s []] none false 0), (301, .c [.i .i64 12, .s [], .i .i64 0, .i .u64 0, .i .i64 0, .s [], .i .i64 0, .b false, .s [], .s [], .s [], .i .i64 0, .i .u64 0, .i .i64 0, .s [], .s [], .s []] none false 0), (302, .c [.i .i64 12, .s [], .i .i64 0, .i .u64 0, .i .i64 0, .s [], .i .i64 0, .b false, .s [], .s [], .s [], .i .i64 0, .i .u64 0, .i .i64 0, .s [], .s [], .s []] none false 0), (303, .c [.i .i64 12, .s [], .i .i64 0, .i .u64 0, .i .i64 0, .s [], .i .i64 0, .b false, .s [], .s [], .s [], .i .i64 0, .i .u64 0, .i .i64 0, .s [], .s [], .s []] none false 17), (304, .c [.i .i64 12, .s [], .i .i64 0, .i .u64 0, .i .i64 0, .s [], .i .i64 0, .b false, .s [], .s [], .s [], .i .i64 0, .i .u64 0, .i .i64 0, .s [], .s [], .s []] none false 0), (305, .c [.i .i64 12, .s [], .i .i64 0, .i .u64 0, .i .i64 0, .s [], .i .i64 0, .b false, .s [], .s [], .s [], .i .i64 0, .i .u64 0, .i .i64 0, .s [], .s [], .s []] none false 0), (306, .c [.i .i64 12, .s [], .i .i64 0, .i .u64 0, .i .i64 0, .s [], .i .i64 0, .b false, .s [], .s [], .s [], .i .i64 0, .i .u64 0, .i .i64 0, .s [], .s [], .s []] none false 0), (307, .c [.i .i64 12, .s [], .i .i64 0, .i .u64 0, .i .i64 0, .s [], .i .i64 0, .b false, .s [], .s [], .s [], .i .i64 0, .i .u64 0, .i .i64 0, .s [], .s [], .s []] none false 0), (308, .c [.i .i64 12, .s [], .i .i64 0, .i .u64 0, .i .i64 0, .s [], .i .i64 0, .b false, .s [], .s [], .s [], .i .i64 0, .i .u64 0, .i .i64 0, .s [], .s [], .s []] none false 0), (309, .it (some 251) 0 [] 0), (310, .c [.su 286 0 10 0, .i .i64 10] none false 0), (311, .c [.i .u8 1, .i .u8 0, .i .u8 1, .i .u8 113, .i .u8 0, .i .u8 5] none true 1), (312, .c [.i .i64 1, .s [113], .i .i64 5, .i .u64 0, .i .i64 0, .s [], .i .i64 0, .b false, .s [], .s [], .s [], .i .i64 0, .i .u64 0, .i .i64 0, .s [], .s [], .s []] none false 0), (313, .c [.su 311 0 6 0, .i .i64 6] none false 0), (314, .c [.i .i64 1, .s [113], .i .i64 5, .i .u64 0, .i .i64 0, .s [], .i .i64 0, .b false, .s [], .s [], .s [], .i .i64 0, .i .u64 0, .i .i64 0, .s [], .s [], .s []] none false 0), (315, .c [.i .i64 1, .s [113], .i .i64 5, .i .u64 0, .i .i64 0, .s [], .i .i64 0, .b false, .s [], .s [], .s [], .i .i64 0, .i .u64 0, .i .i64 0, .s [], .s [], .s []] none false 0), (316, .c [.i .i64 1, .s [113], .i .i64 5, .i .u64 0, .i .i64 0, .s [], .i .i64 0, .b false, .s [], .s [], .s [], .i .i64 0, .i .u64 0, .i .i64 0, .s [], .s [], .s []] none false 0), (317, .c [.i .i64 1, .s [113], .i .i64 5, .i .u64 0, .i .i64 0, .s [], .i .i64 0, .b false, .s [], .s [], .s [], .i .i64 0, .i .u64 0, .i .i64 0, .s [], .s [], .s []] none false 0), (318, .c [.i .i64 1, .s [113], .i .i64 0, .i .u64 0, .i .i64 0, .s [], .i .i64 0, .b false, .s [], .s [], .s [], .i .i64 0, .i .u64 0, .i .i64 0, .s [], .s [], .s []] none false 0), (319, .c [.i .i64 1, .s [113], .i .i64 0, .i .u64 0, .i .i64 0, .s [], .i .i64 0, .b false, .s [], .s [], .s [], .i .i64 0, .i .u64 0, .i .i64 0, .s [], .s [], .s []] none false 0), (320, .si [113] 1), (321, .c [.i .i64 1, .s [113], .i .i64 5, .i .u64 0, .i .i64 0, .s [], .i .i64 0, .b false, .s [], .s [], .s [], .i .i64 0, .i .u64 0, .i .i64 0, .s [], .s [], .s []] none false 0), (322, .c [.i .i64 1, .s [113], .i .i64 5, .i .u64 0, .i .i64 0, .s [], .i .i64 0, .b false, .s [], .s [], .s [], .i .i64 0, .i .u64 0, .i .i64 0, .s [], .s [], .s []] none false 0), (323, .c [.i .i64 1, .s [113], .i .i64 5, .i .u64 0, .i .i64 0, .s [], .i .i64 0, .b false, .s [], .s [], .s [], .i .i64 0, .i .u64 0, .i .i64 0, .s [], .s [], .s []] none false 0), (324, .c [.i .i64 1, .s [113], .i .i64 5, .i .u64 0, .i .i64 0, .s [], .i .i64 0, .b false, .s [], .s [], .s [], .i .i64 0, .i .u64 0, .i .i64 0, .s [], .s [], .s []] none false 0), (325, .c [.i .i64 1, .s [113], .i .i64 5, .i .u64 0, .i .i64 0, .s [], .i .i64 0, .b false, .s [], .s [], .s [], .i .i64 0, .i .u64 0, .i .i64 0, .s [], .s [], .s []] none false 0), (326, .c [.i .i64 1, .s [113], .i .i64 5, .i .u64 0, .i .i64 0, .s [], .i .i64 0, .b false, .s [], .s [], .s [], .i .i64 0, .i .u64 0, .i .i64 0, .s [], .s [], .s []] none false 17), (327, .c [.i .i64 1, .s [113], .i .i64 5, .i .u64 0, .i .i64 0, .s [], .i .i64 0, .b false, .s [], .s [], .s [], .i .i64 0, .i .u64 0, .i .i64 0, .s [], .s [], .s []] none false 0), (328, .c [.i .i64 1, .s [113], .i .i64 5, .i .u64 0, .i .i64 0, .s [], .i .i64 0, .b false, .s [], .s [], .s [], .i .i64 0, .i .u64 0, .i .i64 0, .s [], .s [], .s []] none false 0), (329, .c [.i .i64 1, .s [113], .i .i64 5, .i .u64 0, .i .i64 0, .s [], .i .i64 0, .b false, .s [], .s [], .s [], .i .i64 0, .i .u64 0, .i .i64 0, .s [], .s [], .s []] none false 0), (330, .c [.i .i64 1, .s [113], .i .i64 5, .i .u64 0, .i .i64 0, .s [], .i .i64 0, .b false, .s [], .s [], .s [], .i .i64 0, .i .u64 0, .i .i64 0, .s [], .s [], .s []] none false 0), (331, .c [.i .i64 1, .s [113], .i .i64 5, .i .u64 0, .i .i64 0, .s [], .i .i64 0, .b false, .s [], .s [], .s [], .i .i64 0, .i .u64 0, .i .i64 0, .s [], .s [], .s []] none false 0), (332, .c [.i .i64 1, .s [113], .i .i64 0, .i .u64 0, .i .i64 0, .s [], .i .i64 0, .b false, .s [], .s [], .s [], .i .i64 0, .i .u64 0, .i .i64 0, .s [], .s [], .s []] none false 0), (333, .c [.i .i64 1, .s [113], .i .i64 0, .i .u64 0, .i .i64 0, .s [], .i .i64 0, .b false, .s [], .s [], .s [], .i .i64 0, .i .u64 0, .i .i64 0, .s [], .s [], .s []] none false 0), (334, .si [113] 1), (335, .c [.i .i64 1, .s [113], .i .i64 5, .i .u64 0, .i .i64 0, .s [], .i .i64 0, .b false, .s [], .s [], .s [], .i .i64 0, .i .u64 0, .i .i64 0, .s [], .s [], .s []] none false 0), (336, .c [.i .i64 1, .s [113], .i .i64 5, .i .u64 0, .i .i64 0, .s [], .i .i64 0, .b false, .s [], .s [], .s [], .i .i64 0, .i .u64 0, .i .i64 0, .s [], .s [], .s []] none false 0), (337, .c [.i .i64 1, .s [113], .i .i64 5, .i .u64 0, .i .i64 0, .s [], .i .i64 0, .b false, .s [], .s [], .s [], .i .i64 0, .i .u64 0, .i .i64 0, .s [], .s [], .s []] none false 0), (338, .c [.i .i64 1, .s [113], .i .i64 5, .i .u64 0, .i .i64 0, .s [], .i .i64 0, .b false, .s [], .s [], .s [], .i .i64 0, .i .u64 0, .i .i64 0, .s [], .s [], .s []] none false 0), (339, .m [] 0), (340, .c [.i .i64 5, .i .u64 1, .ns, .m 339] none false 0), (341, .c [.i .i64 12, .s [], .i .i64 0, .i .u64 0, .i .i64 0, .s [], .i .i64 0, .b false, .s [], .s [], .s [], .i .i64 0, .i .u64 0, .i .i64 0, .s [], .s [], .s []] none false 0), (342, .c [.i .i64 1, .i .i64 2, .su 247 0 1 0, .i .i64 2, .i .u64 0, .i .u64 2, .p 345 0, .m 359, .p 346 0, .m 360] none false 0), (343, .m [] 0), (344, .m [] 0), (345, .c [.m 343, .m 344] none false 0), (346, .c [.p 347 0, .p 348 0, .p 349 0, .p 350 0, .p 351 0, .p 352 0, .p 353 0, .p 354 0, .p 355 0, .b true] none false 0), (347, .c [.ns, .b true] none false 0), (348, .c [.ns, .b true] none false 0), (349, .c [.ns, .b true] none false 0), (350, .c [.ns, .b true] none false 0), (351, .c [.ns, .b true] none false 0), (352, .c [.ns, .b true] none false 0), (353, .c [.ns, .b true] none false 0), (354, .c [.ns, .b true] none false 0), (355, .c [.ns, .b true] none false 0), (356, .c [.p 346 0] none false 0), (357, .c [.p 252 0] none false 0), (359, .m [(.s [113], .p 363 0, 0)] 1), (360, .m [] 0), (361, .it (some 251) 1 [0] 1), (362, .m [] 0), (363, .c [.i .i64 5, .i .u64 1, .ns, .m 362] none false 0), (364, .it (some 262) 0 [] 0), (365, .c [.i .i64 12, .s [], .i .i64 0, .i .u64 0, .i .i64 0, .s [], .i .i64 0, .b false, .s [], .s [], .s [], .i .i64 0, .i .u64 0, .i .i64 0, .s [], .s [], .s []] none false 0), (366, .c [.i .i64 12, .s [], .i .i64 0, .i .u64 0, .i .i64 0, .s [], .i .i64 0, .b false, .s [], .s [], .s [], .i .i64 0, .i .u64 0, .i .i64 0, .s [], .s [], .s []] none false 0), (367, .c [.i .i64 12, .s [], .i .i64 0, .i .u64 0, .i .i64 0, .s [], .i .i64 0, .b false, .s [], .s [], .s [], .i .i64 0, .i .u64 0, .i .i64 0, .s [], .s [], .s []] none false 0), (368, .c [.i .i64 12, .s [], .i .i64 0, .i .u64 0, .i .i64 0, .s [], .i .i64 0, .b false, .s [], .s [], .s [], .i .i64 0, .i .u64 0, .i .i64 0, .s [], .s [], .s []] none false 0), (369, .c [.i .i64 12, .s [], .i .i64 0, .i .u64 0, .i .i64 0, .s [], .i .i64 0, .b false, .s [], .s [], .s [], .i .i64 0, .i .u64 0, .i .i64 0, .s [], .s [], .s []] none false 0), (370, .it (some 359) 1 [0] 1), (371, .c [.m 362] none false 0), (372, .c [.ns] none false 0), (374, .it (some 362) 0 [] 0), (375, .c [.sl 386 0 5 10] none false 0), (376, .c [.i .u8 0, .i .u8 1, .i .u8 0, .i .u8 0, .i .u8 0, .i .u8 0, .i .u8 0, .i .u8 0] none false 0), (377, .c [.i .u8 0] none false 0), (378, .c [.i .u8 1] none false 0), (379, .c [.i .i64 12, .s [], .i .i64 0, .i .u64 0, .i .i64 0, .s [], .i .i64 0, .b false, .s [], .s [], .s [], .i .i64 0, .i .u64 0, .i .i64 0, .s [], .s [], .s []] none false 0), (380, .c [.i .i64 12, .s [], .i .i64 0, .i .u64 0, .i .i64 0, .s [], .i .i64 0, .b false, .s [], .s [], .s [], .i .i64 0, .i .u64 0, .i .i64 0, .s [], .s [], .s []] none false 0), (381, .c [.i .i64 12, .s [], .i .i64 0, .i .u64 0, .i .i64 0, .s [], .i .i64 0, .b false, .s [], .s [], .s [], .i .i64 0, .i .u64 0, .i .i64 0, .s [], .s [], .s []] none false 0), (382, .c [.i .i64 12, .s [], .i .i64 0, .i .u64 0, .i .i64 0, .s [], .i .i64 0, .b false, .s [], .s [], .s [], .i .i64 0, .i .u64 0, .i .i64 0, .s [], .s [], .s []] none false 0), (383, .c [.sl 384 0 1 8] none false 0), (384, .c [.i .u8 12, .i .u8 0, .i .u8 0, .i .u8 0, .i .u8 0, .i .u8 0, .i .u8 0, .i .u8 0] none false 0), (385, .c [.i .u8 12] none false 0), (386, .c [.i .u8 0, .i .u8 1, .i .u8 0, .i .u8 1, .i .u8 12, .i .u8 0, .i .u8 0, .i .u8 0, .i .u8 0, .i .u8 0] none false 0), (387, .c [.i .u8 0] none false 0), (388, .c [.i .u8 1] none false 0), (389, .c [] none false 0), (390, .c [.i .u8 0, .i .u8 1, .i .u8 0, .i .u8 1, .i .u8 12] none false 1), (391, .c [.su 390 0 5 0] none false 0), (392, .c [.su 390 0 5 0] none false 1), (393, .c [.p 292 0] none false 0), (394, .c [.su 406 0 13 0] none false 0), (395, .c [.i .u8 0, .i .u8 0, .i .u8 0, .i .u8 5, .i .u8 0, .i .u8 0, .i .u8 0, .i .u8 0] none false 0), (396, .c [.i .u8 0] none false 0), (397, .c [.i .u8 0] none false 0), (398, .c [.i .u8 0] none false 0), (399, .c [.i .u8 5] none false 0), (400, .c [.i .u8 0, .i .u8 0, .i .u8 0, .i .u8 5, .i .u8 0, .i .u8 1, .i .u8 0, .i .u8 1, .i .u8 12] none false 1), (401, .c [.i .u8 0, .i .u8 0, .i .u8 0, .i .u8 5, .i .u8 0, .i .u8 1, .i .u8 0, .i .u8 1, .i .u8 12, .i .u8 188, .i .u8 218, .i .u8 52, .i .u8 179, .i .u8 0, .i .u8 0, .i .u8 0, .i .u8 0] none false 0), (402, .c [.i .u8 188] none false 0), (403, .c [.i .u8 218] none false 0), (404, .c [.i .u8 52] none false 0), (405, .c [.i .u8 179] none false 0), (406, .c [.i .u8 0, .i .u8 0, .i .u8 0, .i .u8 5, .i .u8 0, .i .u8 1, .i .u8 0, .i .u8 1, .i .u8 12, .i .u8 188, .i .u8 218, .i .u8 52, .i .u8 179] none false 1), (407, .c [.s [108, 111, 103, 46, 49]] none false 0), (408, .c [.f 50 [] [.p 393 0, .p 407 0, .p 394 0], .f 52 [] [.p 393 0, .p 407 0]] none false 0), (409, .c [.su 406 0 13 0] none false 0), (410, .c [.i .u8 108, .i .u8 111, .i .u8 103, .i .u8 46, .i .u8 49] none true 1), (411, .c [.p 51 0] none false 0), (412, .it (some 233) 1 [0] 1), (413, .c [.su 221 0 31 0, .su 406 0 13 0] none false 0), (415, .c [.i .u8 0, .i .u8 0, .i .u8 0, .i .u8 5, .i .u8 0, .i .u8 1, .i .u8 0, .i .u8 1, .i .u8 12, .i .u8 188, .i .u8 218, .i .u8 52, .i .u8 179, .i .u8 0, .i .u8 0, .i .u8 0, .i .u8 10, .i .u8 0, .i .u8 1, .i .u8 0, .i .u8 6, .i .u8 1, .i .u8 0, .i .u8 1, .i .u8 113, .i .u8 0, .i .u8 5, .i .u8 170, .i .u8 86, .i .u8 184, .i .u8 242] (some 416) false 1), (416, .c [.i .u8 0, .i .u8 0, .i .u8 0, .i .u8 5, .i .u8 0, .i .u8 1, .i .u8 0, .i .u8 1, .i .u8 12, .i .u8 188, .i .u8 218, .i .u8 52, .i .u8 179, .i .u8 0, .i .u8 0, .i .u8 0, .i .u8 10, .i .u8 0, .i .u8 1, .i .u8 0, .i .u8 6, .i .u8 1, .i .u8 0, .i .u8 1, .i .u8 113, .i .u8 0, .i .u8 5, .i .u8 170, .i .u8 86, .i .u8 184, .i .u8 242, .i .u8 0, .i .u8 0, .i .u8 0, .i .u8 5, .i .u8 0, .i .u8 1, .i .u8 0, .i .u8 1, .i .u8 12, .i .u8 188, .i .u8 218, .i .u8 52, .i .u8 179] (some 415) false 1), (417, .c [.i .u8 108, .i .u8 111, .i .u8 103, .i .u8 46, .i .u8 49] none true 1), (418, .c [.p 51 0] none false 0), (419, .c [.i .u8 108, .i .u8 111, .i .u8 103, .i .u8 46, .i .u8 49] none true 1), (420, .c [] none false 0), (421, .c [.i .u8 0, .i .u8 0, .i .u8 0, .i .u8 5, .i .u8 0, .i .u8 1, .i .u8 0, .i .u8 1, .i .u8 12, .i .u8 188, .i .u8 218, .i .u8 52, .i .u8 179, .i .u8 0, .i .u8 0, .i .u8 0, .i .u8 10, .i .u8 0, .i .u8 1, .i .u8 0, .i .u8 6, .i .u8 1, .i .u8 0, .i .u8 1, .i .u8 113, .i .u8 0, .i .u8 5, .i .u8 170, .i .u8 86, .i .u8 184, .i .u8 242, .i .u8 0, .i .u8 0, .i .u8 0, .i .u8 5, .i .u8 0, .i .u8 1, .i .u8 0, .i .u8 1, .i .u8 12, .i .u8 188, .i .u8 218, .i .u8 52, .i .u8 179] none false 1)]
  no := 422

theorem part1_ok : okPart (runP Tryz.prog (gmT tabsV 0) natL pls 9 part1) part1 = true := by kernel_rfl
def natM : Nat' := withP Tryz.prog (gmT tabsV 0) natL pls 9 [part1]
theorem natM_ok {W : World} {ρ0 : Rho} : NatOK Tryz.prog W (gmT tabsV 0) ρ0 natM :=
  withP_ok (by kernel_rfl) rgs_all natL_ok fun d hd => by obtain rfl := List.mem_singleton.1 hd; exact part1_ok
end Go.Proofs.YtbmcbbmgdcbhjaaGreatDoor

/- lives() of chapter 16, reckoned. -/
noncomputable section
namespace Go.Proofs.YtbmcbbmgdcbhjaaGreatDoor
open Go Go.ChangeShapes Go.WideShapes Go.Deep Go.RowKit Go.Proofs.YtbmcbbmgdcbhjaaGreatDoor.St
set_option maxRecDepth 1000000
def outsL : Outs := callE Tryz.prog natM pls (evC Tryz.prog (gmT tabsV 0) natM pls 100000) [] (.f 14 [] []) [] (heapT tabsV)
theorem runL_true : allT outsL = true := by kernel_rfl
theorem Vars.no {w w' : World} (h : Vars w) (hm : Mod no w w') : Vars w' := fun x hx => let ⟨c, e, fz, h1, h2⟩ := h x hx; ⟨c, e, fz, hm.at' h1, h2⟩
theorem lives_ok {w : World} (hV : Vars w) (R : Value → World → Prop) (hR : ∀ w', Mod no w w' → R (.bool true) w') : Ca Tryz.prog 14 #[] w R := by
  obtain ⟨outs, ho, hall⟩ := of_run runL_true
  unfold outsL at ho
  obtain ⟨hR0, hG⟩ := repT (tabs := tabsV) (cs := []) (w := w) (by decide) (by decide) hV
  refine call_reckoned (by kernel_rfl) rgs_all natM_ok ho hR0 hG (args' := []) rfl fun o hoo ρ' w' v _ a2 a3 => ?_
  have := isT_W (List.all_eq_true.1 hall o hoo) a3
  subst this
  exact hR w' a2.md
end Go.Proofs.YtbmcbbmgdcbhjaaGreatDoor

/- An argument that is a topology. -/
namespace Go.Proofs.YtbmcbbmgdcbhjaaGreatDoor
open Go Go.ChangeShapes Go.WideShapes Go.Deep Go.RowKit Go.Proofs.YtbmcbbmgdcbhjaaGreatDoor.St
structure TopA where
  s : Int
  a : Option Addr
  l : Nat
  c : Nat
  h : Int
def TopA.cs (x : TopA) : List Value := [.int .i64 x.s, .slice x.a x.l x.c, .int .i64 x.h]
/-- Its edges lie there. -/
def TopOk (w : World) (x : TopA) : Prop := ∃ xs : List Edg, ArgRow edgL w x.a x.l x.c xs
set_option maxRecDepth 100000 in
theorem args_top {H : Type} {enc : TypeId × Value → H} {w : World} {v : Value} {d : DataW H} {p : List MemPlace} {base : Nat} {r : Reach} {b0 : Nat} (hv : Value.okWide Tryz.prog w r b0 35 v) (h : DataW.Trod enc Tryz.prog w base (fun _ => true) true 35 v d p)
    (hz : ∀ n ∈ d.weights Tryz.prog 35, n ≤ reachBytes) : ∃ x : TopA, v = .agg ⟨x.cs⟩ ∧ TopOk w x := by
  obtain ⟨cs, h1, h2⟩ := struct_arg 5 Tryz.underlying35 hv h hz
  obtain ⟨hl, hf⟩ := leaf_struct Tryz.underlying35 h2
  rw [show Tryz.prog.cellsOf 35 = 3 by kernel_rfl] at hl
  have ci : Tryz.prog.cellsOf 3 = 1 := by kernel_rfl
  match cs, hl with
  | [c0, c1, c2], _ =>
    obtain ⟨k, e0, _⟩ := leaf_int Tryz.underlying3 (field1 (o := 0) hf 0 rfl rfl rfl ci)
    obtain ⟨a, l, c, e1, h3, h4, _, _, h5⟩ := leaf_slice Tryz.underlying33 (field1 (o := 1) hf 1 rfl rfl rfl (show Tryz.prog.cellsOf 33 = 1 by kernel_rfl))
    obtain ⟨j, e2, _⟩ := leaf_int Tryz.underlying3 (field1 (o := 2) hf 2 rfl rfl rfl ci)
    have e0 : [c0] = [Value.int .i64 k] := e0
    have e1 : [c1] = [Value.slice a l c] := e1
    have e2 : [c2] = [Value.int .i64 j] := e2
    simp only [List.cons.injEq, and_true] at e0 e1 e2
    obtain ⟨xs, hx, _⟩ := leaf_row (L := edgL) (fun _ => True) (show (2 : Nat) = Tryz.prog.cellsOf 82 by kernel_rfl) (fun cs hlen hlf => by
      obtain ⟨_, hg⟩ := leaf_struct Tryz.underlying82 hlf
      have hlen : cs.length = 2 := hlen
      match cs, hlen with
      | [x0, x1], _ =>
        obtain ⟨i, q0, _⟩ := leaf_int Tryz.underlying3 (field1 (o := 0) hg 0 rfl rfl rfl ci)
        obtain ⟨j, q1, _⟩ := leaf_int Tryz.underlying3 (field1 (o := 1) hg 1 rfl rfl rfl ci)
        have q0 : [x0] = [Value.int .i64 i] := q0
        have q1 : [x1] = [Value.int .i64 j] := q1
        simp only [List.cons.injEq, and_true] at q0 q1
        exact ⟨(i, j), by rw [q0, q1]; rfl, trivial⟩) h3 h4 h5
    exact ⟨⟨k, a, l, c, j⟩, by rw [h1, e0, e1, e2]; rfl, xs, hx⟩
end Go.Proofs.YtbmcbbmgdcbhjaaGreatDoor

/- VaultNone: its walk, reckoned. -/
noncomputable section
namespace Go.Proofs.YtbmcbbmgdcbhjaaGreatDoor
open Go Go.ChangeShapes Go.WideShapes Go.Deep Go.RowKit Go.Proofs.YtbmcbbmgdcbhjaaGreatDoor.St
set_option maxRecDepth 1000000
/-- The kinds of an act's cells; of a topology's. -/
def actK : List CT := [.int .i64, .str, .int .i64, .int .u64, .int .i64, .str, .int .i64, .bool, .str, .str, .str, .int .i64, .int .u64, .int .i64, .str, .str, .str]
def topK : List CT := [.int .i64, .slice, .int .i64]
abbrev actOk (cs : List Value) : Prop := okCs actK cs
theorem args_actS {H : Type} {enc : TypeId × Value → H} {w : World} {v : Value} {d : DataW H} {p : List MemPlace} {base : Nat} {r : Reach} {b0 : Nat} (hv : Value.okWide Tryz.prog w r b0 32 v) (h : DataW.Trod enc Tryz.prog w base (fun _ => true) true 32 v d p)
    (hz : ∀ n ∈ d.weights Tryz.prog 32, n ≤ reachBytes) : ∃ x : List Value, v = .agg ⟨id x⟩ ∧ okCs actK x :=
  args_kinds Tryz.underlying32 (by kernel_rfl) (by kernel_rfl) hv h hz
/-- staithref10.Good, told. -/
def gdO (ags : List AV) (H : AH) : Outs :=
  match ags with
  | [.a [.oi k _, .ol j, .oi k' _]] => bif sameK k .i64 && (sameK k' .i64 && Nat.beq j 18) then some [(.b true, H), (.b false, H)] else none
  | _ => none
def lvO (ags : List AV) (H : AH) : Outs :=
  match ags with
  | [] => some [(.b true, H)]
  | _ => none
def natV : Nat' := fun g => bif Nat.beq g 30 then some gdO else bif Nat.beq g 14 then some lvO else natL g
theorem natV_ok {W : World} {gm : Nat → Option Nat} {ρ0 : Rho} {t : TopA} (hV : Vars W) (ht : TopOk W t) (hos : (ρ0.os 18).2 = (t.a, t.l, t.c)) : NatOK Tryz.prog W gm ρ0 natV := by
  intro g h hg ρ H w hR hG args outs args' ho ha K hK
  rcases cond_some hg with ⟨hc, hg⟩ | ⟨_, hg⟩
  · cases hg
    obtain rfl := (beq_iff _ _).1 hc
    unfold gdO at ho
    split at ho
    · rename_i k i j k' i'
      obtain ⟨hc, ho⟩ := Conds.of ho
      cases ho
      simp only [Bool.and_eq_true, beq_iff] at hc
      obtain ⟨x, r, hx, hr, rfl⟩ := embL_cons.1 ha
      obtain rfl := embL_nil.1 hr
      simp only [emb, embL, Option.bind_some, Option.map_some, Option.some.injEq] at hx
      subst hx
      rw [sameK_eq hc.1, sameK_eq hc.2.1, hc.2.2]
      obtain ⟨xs, hxs⟩ := ht
      have he : (ρ.os 18).2 = (t.a, t.l, t.c) := by rw [hG.le.os]; exact hos
      rw [he]
      refine goodR_any (hxs.no hR.md) K fun w' b hm => ?_
      cases b
      · exact hK _ (List.mem_cons_of_mem _ (List.mem_singleton.2 rfl)) ρ w' _ (Rho.le.refl _) (hR.grow hm) rfl
      · exact hK _ (List.mem_cons_self ..) ρ w' _ (Rho.le.refl _) (hR.grow hm) rfl
    · cases ho
  rcases cond_some hg with ⟨hc, hg⟩ | ⟨_, hg⟩
  · cases hg
    obtain rfl := (beq_iff _ _).1 hc
    unfold lvO at ho
    split at ho
    · cases ho
      obtain rfl := embL_nil.1 ha
      exact lives_ok (hV.no hR.md) K fun w' hm => hK _ (List.mem_singleton.2 rfl) ρ w' _ (Rho.le.refl _) (hR.grow hm) rfl
    · cases ho
  · exact natL_ok g h hg ρ H w hR hG args outs args' ho ha K hK
def outs0 : Outs := callE Tryz.prog natV pls (evC Tryz.prog (gmT tabsV 0) natV pls 100000) [] (.f 3 [] []) [.a (opqL actK 0), .a (opqL topK 17)] (heapT tabsV)
theorem run0_true : allT outs0 = true := by kernel_rfl
theorem w_none (x : List Value) (t : TopA) (w : World) (hV : Vars w) (h : okCs actK x) (ht : TopOk w t) (R : Value → World → Prop) (hR : ∀ w', Mod no w w' → R (.bool true) w') : Ca Tryz.prog 3 #[.agg ⟨id x⟩, .agg ⟨t.cs⟩] w R := by
  obtain ⟨outs, ho, hall⟩ := of_run run0_true
  unfold outs0 at ho
  have hl : x.length = 17 := (okCs_len h).symm
  obtain ⟨hR0, hG⟩ := repT (tabs := tabsV) (cs := x ++ t.cs) (w := w) (by decide) (by decide) hV
  have h18 : ((rhoT tabsV (x ++ t.cs)).os 18).2 = (t.a, t.l, t.c) := by
    show (valS (x ++ t.cs)[18]?).2 = _
    rw [List.getElem?_append_right (by omega), hl]; rfl
  have e1 : embL (rhoT tabsV (x ++ t.cs)) (opqL actK 0) = some x := opq_at 0 (by rfl) h fun j v hj => by rw [Nat.zero_add, List.getElem?_append_left (List.getElem?_eq_some_iff.1 hj).1]; exact hj
  have e2 : embL (rhoT tabsV (x ++ t.cs)) (opqL topK 17) = some t.cs := opq_at 17 (by rfl) ⟨⟨_, rfl⟩, ⟨_, _, _, rfl⟩, ⟨_, rfl⟩, trivial⟩ fun j v hj => by rw [List.getElem?_append_right (by omega), hl, Nat.add_sub_cancel_left]; exact hj
  have e0 : embL (rhoT tabsV (x ++ t.cs)) [.a (opqL actK 0), .a (opqL topK 17)] = some [.agg ⟨x⟩, .agg ⟨t.cs⟩] :=
    embL_cons.2 ⟨_, _, by simp only [emb, e1]; rfl, embL_cons.2 ⟨_, _, by simp only [emb, e2]; rfl, rfl, rfl⟩, rfl⟩
  refine call_reckoned (by kernel_rfl) rgs_all (natV_ok hV ht h18) ho hR0 hG e0 fun o hoo ρ' w' v _ a2 a3 => ?_
  have := isT_W (List.all_eq_true.1 hall o hoo) a3
  subst this
  exact hR w' a2.md
end Go.Proofs.YtbmcbbmgdcbhjaaGreatDoor

/- The closed facts of the row VaultNone, one by one (each a lemma of its own, for the kernel's memory). -/
namespace Go.Proofs.YtbmcbbmgdcbhjaaGreatDoor
open Go
theorem and2 {a b : Bool} (ha : a = true) (hb : b = true) : (a && b) = true := by rw [ha, hb]; rfl
set_option maxRecDepth 100000 in
set_option maxHeartbeats 8000000 in
theorem joined_VaultNone : joinedFacts Tryz.prog 3 Tryz.f3 Rows.vaultNoneSpec Rows.vaultNoneRow = true := by
  unfold joinedFacts
  with_reducible repeat' (refine and2 ?_ ?_)
  all_goals as_aux_lemma => kernel_rfl
theorem joinedP_VaultNone : joinedFacts Tryz.pinned.checked.prog 3 Tryz.f3 (OpenSpec.ofChange Rows.vaultNoneSpec).bare Rows.vaultNoneRow = true :=
  Eq.trans (b := joinedFacts Tryz.prog 3 Tryz.f3 Rows.vaultNoneSpec Rows.vaultNoneRow) (by kernel_rfl) joined_VaultNone
end Go.Proofs.YtbmcbbmgdcbhjaaGreatDoor

/- No function of the program starts a goroutine: so no call does. It names no law. -/
namespace Go.Proofs.YtbmcbbmgdcbhjaaGreatDoor
open Go
theorem goes_none {P : Program} {c : OpenClaim} (hs : c.start = .entering) (h : (P.funcs.toList.all fun f => !f.goes) = true) : false = c.goesBy P := by
  have hn : ∀ g : Nat, (P.funcs[g]?).any Func.goes = false := fun g => by
    cases hg : P.funcs[g]? with
    | none => rfl
    | some f =>
      have := List.all_eq_true.1 h f (by rw [Array.mem_toList_iff]; exact Array.mem_of_getElem? hg)
      simpa using this
  have hg : ∀ f : Nat, P.goes f = false := fun f => by
    unfold Program.goes
    have h1 : ((P.closure f).any fun g => (P.funcs[g]?).any Func.goes) = false := by
      rw [Bool.eq_false_iff]; intro hh
      obtain ⟨i, _, hh⟩ := List.any_eq_true.1 hh
      rw [hn] at hh; cases hh
    have h2 : P.funcs.any Func.goes = false := by
      rw [Bool.eq_false_iff]; intro hh
      rw [Array.any_eq_true] at hh
      obtain ⟨i, hi, hh⟩ := hh
      have := hn i
      rw [Array.getElem?_eq_getElem hi] at this
      simp only [Option.any_some] at this
      rw [this] at hh; cases hh
    rw [h1, h2, Bool.and_false]; rfl
  unfold OpenClaim.goesBy Program.goesAt Program.goesFrom
  rw [hs]
  cases hf : P.funcNamed c.func with
  | none => rfl
  | some f => simp [hg f]
theorem goes_all : (Tryz.prog.funcs.toList.all fun f => !f.goes) = true := by kernel_rfl
end Go.Proofs.YtbmcbbmgdcbhjaaGreatDoor
