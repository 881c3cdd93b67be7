/- Parts of the proof of BindActsCard. -/
import Derived.Test.YtehhhkcemmfjpaaGreatDoorCore9
import Derived.Test.YtehhhkcemmfjpaaGreatDoorProg
import Derived.Laws.Externs
import Derived.MapKept
import Derived.WalkKit
import Derived.Test.YtehhhkcemmfjpaaGreatDoorZ3
/- The table's Bind. -/
namespace Go.Proofs.YtehhhkcemmfjpaaGreatDoor
open Go Go.Proofs.YtehhhkcemmfjpaaGreatDoor Go.Proofs.YtehhhkcemmfjpaaGreatDoor.St

def bindR (b : Bnd) (D : List Exc) (B : List Bnd) : Int := if nameB b.q = false then 2 else if hx b.x D = false then 3 else if mayB (fx b.x D) b.p = false then 2 else if b ∈ B then 0 else if B.length ≥ 32 then 5 else 0
def bindB (b : Bnd) (D : List Exc) (B : List Bnd) : List Bnd := if nameB b.q = true ∧ hx b.x D = true ∧ mayB (fx b.x D) b.p = true ∧ b ∉ B ∧ B.length < 32 then B ++ [b] else B
theorem setB (b : Bnd) : ∀ {B : List Bnd}, b ∈ B → setG b (.agg ⟨[]⟩) (bnL B) = bnL B
  | [], h => by cases h
  | x :: B, h => by
    simp only [bnL, List.map_cons, setG]
    by_cases he : b = x
    · subst he
      rw [if_pos (beq_self_eq_true _)]
    · rw [if_neg (fun h' => he (eq_of_beq h'))]
      congr 1
      exact setB b ((List.mem_cons.1 h).resolve_left he)
theorem put_b {w : World} {m : Nat} {B : List Bnd} (h : BMap w m B) (b : Bnd) :
    ∃ w', Sem.run Tryz.prog (Instr.mapUpdate 68 (.map (some m)) (.agg ⟨b.cs⟩) (.agg ⟨[]⟩)) w = Result.ok () w' ∧ Mod (on m) w w' ∧ BMap w' m (if b ∈ B then B else B ++ [b]) := by
  obtain ⟨w', h1, h2, h3⟩ := update_k (keys_bnd bnd_s) Tryz.underlying68 h b trivial (fun _ _ => trivial) (.agg ⟨[]⟩)
  refine ⟨w', h1, h2, ?_⟩
  by_cases hb : b ∈ B
  · rw [if_pos hb]
    rw [setB b hb] at h3
    exact h3
  · rw [if_neg hb]
    rw [setG_none (by rw [bnL_fst]; exact hb)] at h3
    have : bnL (B ++ [b]) = bnL B ++ [(b, .agg ⟨[]⟩)] := by rw [bnL, List.map_append]; rfl
    rw [BMap, this]
    exact h3

theorem bind_ok {w : World} {t m1 m2 : Nat} {D : List Exc} {B : List Bnd} (hT : Tbl w t m1 m2 D B) (b : Bnd) (hs : b.p.size < 1000000000) (R : Value → World → Prop) (h : ∀ w', Tbl w' t m1 m2 D (bindB b D B) → Mod (on m2) w w' → R (.int .i64 (bindR b D B)) w') :
    Ca Tryz.prog 21 #[.pointer (some ⟨t, 0, none⟩), .agg ⟨b.cs⟩] w R := by
  refine (ca21 (some ⟨t, 0, none⟩) b.x b.q b.p w R ?_ : Ca _ _ _ _ _)
  intro w0 e0
  have n0 : Mod no w w0 := by subst e0; exact Mod.alloc _ _
  have b0 : Bc w0 w.heap.size b := by subst e0; exact new_at _ _
  clear e0
  have hT0 := hT.no n0
  refine made_ok hT0 _ ⟨true, rfl, ifK_of (fun h => by cases h) fun _ => ?_⟩
  refine ⟨fun p o w' => ∃ k, p = some ⟨k, 0, none⟩ ∧ Xc w' k (fx b.x D) ∧ o = hx b.x D ∧ Bc w' w.heap.size b ∧ Tbl w' t m1 m2 D B ∧ Mod no w w', ?_, ?_⟩
  · intro w11 e11
    have n11 : Mod no w0 w11 := by subst e11; exact Mod.drew _
    clear e11
    have b11 := n11.at' b0
    have n011 := n0.trans n11
    have hT11 := hT.no n011
    refine ⟨some m1, by rw [cl1 hT11.cell]; rfl, _, by rw [cl1 b11]; rfl, ⟨_, _, look_x hT11.x b.x, _, _, _, _, rfl, ?_⟩, ?_⟩
    · intro w21 e21
      have n21 : Mod no w11 w21 := by subst e21; exact Mod.alloc _ _
      have b21 : Xc w21 w11.heap.size exc0 := by subst e21; exact new_at _ _
      clear e21
      have hT21 := hT11.no n21
      have bx := n21.at' b11
      refine ⟨by rw [cl2 hT21.cell]; rfl, by rw [cl2 bx]; rfl, put3 b21 fun w27 n27 b27 => ?_⟩
      have n1127 : Mod no w11 w27 := n21.new n27 fun k hk => by cases hk; exact Nat.le_refl _
      exact ⟨_, rfl, b27, rfl, n1127.at' b11, hT11.no n1127, n011.trans n1127⟩
    · intro w21 e21
      have n21 : Mod no w11 w21 := by subst e21; exact Mod.alloc _ _
      have b21 : Xc w21 w11.heap.size exc0 := by subst e21; exact new_at _ _
      clear e21
      have hT21 := hT11.no n21
      have bx := n21.at' b11
      refine ⟨by rw [cl2 hT21.cell]; rfl, by rw [cl2 bx]; rfl, _, _, look_x hT21.x b.x, _, _, _, _, rfl, put3 b21 fun w27 n27 b27 => ?_⟩
      have n1127 : Mod no w11 w27 := n21.new n27 fun k hk => by cases hk; exact Nat.le_refl _
      exact ⟨_, rfl, b27, rfl, n1127.at' b11, hT11.no n1127, n011.trans n1127⟩
  rintro _ _ _ w38 ⟨k, rfl, bk, rfl, bx, hT38, n38⟩
  refine ⟨fun o w' => o = decide (b ∈ B) ∧ Xc w' k (fx b.x D) ∧ Bc w' w.heap.size b ∧ Tbl w' t m1 m2 D B ∧ Mod no w w', ?_, ?_⟩
  · intro w40 e40
    have n40 : Mod no w38 w40 := by subst e40; exact Mod.drew _
    clear e40
    have hT40 := hT38.no n40
    have b40 := n40.at' bx
    have k40 := n40.at' bk
    have n040 := n38.trans n40
    refine ⟨some m2, by rw [cl1 hT40.cell]; rfl, _, by rw [cl1 b40]; rfl, _, by rw [cl1 b40]; rfl, _, by rw [cl1 b40]; rfl, ⟨_, _, look_b hT40.b b, _, rfl, ?_⟩, ?_⟩
    · intro w49 e49
      have n49 : Mod no w40 w49 := by subst e49; exact Mod.alloc _ _
      clear e49
      have hT49 := hT40.no n49
      have b49 := n49.at' b40
      exact ⟨by rw [cl2 hT49.cell]; rfl, by rw [cl1 b49]; rfl, by rw [cl1 b49]; rfl, by rw [cl1 b49]; rfl, rfl, n49.at' k40, b49, hT49, n040.trans n49⟩
    · intro w49 e49
      have n49 : Mod no w40 w49 := by subst e49; exact Mod.alloc _ _
      clear e49
      have hT49 := hT40.no n49
      have b49 := n49.at' b40
      exact ⟨by rw [cl2 hT49.cell]; rfl, by rw [cl1 b49]; rfl, by rw [cl1 b49]; rfl, by rw [cl1 b49]; rfl, _, _, look_b hT49.b b, _, rfl, rfl, n49.at' k40, b49, hT49, n040.trans n49⟩
  rintro _ _ w56 ⟨rfl, bk, bx, hT56, n56⟩
  refine ⟨_, by rw [cl1 bx]; rfl, name_ok _ _ _ fun w59 n59 => ⟨_, rfl, ?_⟩⟩
  have n059 := n56.trans n59
  have hT59 := hT56.no n59
  have bk := n59.at' bk
  have bx := n59.at' bx
  refine ifK_of (fun hn => ?_) fun hn => ?_
  · have hn : nameB b.q = false := by simpa using hn
    have h' := h w59 (by rw [bindB, if_neg (fun hh => by rw [hn] at hh; cases hh.1)]; exact hT59) n059.of_no
    rw [bindR, if_pos hn] at h'
    exact h'
  have hn : nameB b.q = true := by simpa using hn
  refine ifK_of (fun hh => ?_) fun hh => ?_
  · have hh : hx b.x D = false := by simpa using hh
    have h' := h w59 (by rw [bindB, if_neg (fun hc => by rw [hh] at hc; cases hc.2.1)]; exact hT59) n059.of_no
    rw [bindR, if_neg (by rw [hn]; decide), if_pos hh] at h'
    exact h'
  have hh : hx b.x D = true := by simpa using hh
  refine ⟨_, by rw [cl1 bk]; rfl, _, by rw [cl1 bk]; rfl, _, by rw [cl1 bk]; rfl, _, by rw [cl1 bx]; rfl, ?_⟩
  refine (may_ok (fx b.x D) b.p w59 hs _ fun w67 n67 => ?_ : Ca _ _ _ _ _)
  refine ⟨_, rfl, ?_⟩
  have n067 := n059.trans n67
  have hT67 := hT59.no n67
  have bx := n67.at' bx
  refine ifK_of (fun hm => ?_) fun hm => ?_
  · have hm : mayB (fx b.x D) b.p = false := by simpa using hm
    have h' := h w67 (by rw [bindB, if_neg (fun hc => by rw [hm] at hc; cases hc.2.2.1)]; exact hT67) n067.of_no
    rw [bindR, if_neg (by rw [hn]; decide), if_neg (by rw [hh]; decide), if_pos hm] at h'
    exact h'
  have hm : mayB (fx b.x D) b.p = true := by simpa using hm
  have put : ∀ w', Mod no w w' → Tbl w' t m1 m2 D B → Bc w' w.heap.size b → (b ∈ B ∨ B.length < 32) →
      atW w'.drew fun w72 => ∃ p74 : Option Nat, w72.cell? (Addr.add ⟨t, 0, none⟩ 1) = some (.map p74) ∧ ∃ s75 : ByteArray, w72.cell? (Addr.add ⟨w.heap.size, 0, none⟩ 0) = some (.string s75) ∧ ∃ s76 : ByteArray, w72.cell? (Addr.add ⟨w.heap.size, 0, none⟩ 1) = some (.string s76) ∧
        ∃ s77 : ByteArray, w72.cell? (Addr.add ⟨w.heap.size, 0, none⟩ 2) = some (.string s77) ∧ ∃ w78 : World, Sem.run Tryz.prog (Instr.mapUpdate 68 (.map p74) (.agg ⟨[.string s75, .string s76, .string s77]⟩) (.agg ⟨[]⟩)) w72 = Result.ok () w78 ∧ R (.int .i64 0) w78 := by
    intro w' nw hTw bw hor w72 e72
    have n72 : Mod no w' w72 := by subst e72; exact Mod.drew _
    clear e72
    have hT72 := hTw.no n72
    have b72 := n72.at' bw
    obtain ⟨w78, hr, n78, hb78⟩ := put_b hT72.b b
    refine ⟨some m2, by rw [cl1 hT72.cell]; rfl, _, by rw [cl1 b72]; rfl, _, by rw [cl1 b72]; rfl, _, by rw [cl1 b72]; rfl, w78, hr, ?_⟩
    have hT78 : ∀ B' : List Bnd, B'.Nodup → BMap w78 m2 B' → Tbl w78 t m1 m2 D B' := fun B' h1 h2 => ⟨n78.at hT72.cell hT.t2, hT72.x.mod n78 hT.ne, h2, hT.ne, hT.dn, h1⟩
    by_cases hb : b ∈ B
    · rw [if_pos hb] at hb78
      have h' := h w78 (by rw [bindB, if_neg (fun hc => hc.2.2.2.1 hb)]; exact hT78 B hT.bn hb78) ((nw.trans n72).no_trans n78)
      rw [bindR, if_neg (by rw [hn]; decide), if_neg (by rw [hh]; decide), if_neg (by rw [hm]; decide), if_pos hb] at h'
      exact h'
    · rw [if_neg hb] at hb78
      have hl : B.length < 32 := hor.resolve_left hb
      have h' := h w78 (by
        rw [bindB, if_pos ⟨hn, hh, hm, hb, hl⟩]
        refine hT78 (B ++ [b]) ?_ hb78
        rw [List.nodup_append]
        refine ⟨hT.bn, by simp, fun x hx y hy => ?_⟩
        simp only [List.mem_singleton] at hy
        rintro rfl
        exact hb (hy ▸ hx)) ((nw.trans n72).no_trans n78)
      rw [bindR, if_neg (by rw [hn]; decide), if_neg (by rw [hh]; decide), if_neg (by rw [hm]; decide), if_neg hb, if_neg (by omega)] at h'
      exact h'
  refine ifK_not (fun hb => ?_) (fun hb => put w67 n067 hT67 bx (.inl (of_decide_eq_true hb)))
  have hb : b ∉ B := of_decide_eq_false hb
  obtain ⟨es, clock, hes, hlen⟩ := bmap_len hT67.b
  refine ⟨some m2, by rw [cl1 hT67.cell]; rfl, es, clock, hes, ifK_dec (fun hge => ?_) (fun hlt => put w67 n067 hT67 bx (.inr (by omega)))⟩
  have h' := h w67 (by rw [bindB, if_neg (fun hc => by have := hc.2.2.2.2; omega)]; exact hT67) n067.of_no
  rw [bindR, if_neg (by rw [hn]; decide), if_neg (by rw [hh]; decide), if_neg (by rw [hm]; decide), if_neg hb, if_pos (by omega)] at h'
  exact h'
end Go.Proofs.YtehhhkcemmfjpaaGreatDoor

/- The formulas of functions, printed by a program of mine (gen.py) out of the translation. -/
namespace Go.Proofs.YtehhhkcemmfjpaaGreatDoor
open Go Go.Proofs.YtehhhkcemmfjpaaGreatDoor.St
set_option maxRecDepth 100000

/-- (*staith/bind.Table).Exchanges -/
noncomputable def C15 : Code := (Tryz.f15.body).getD .skip
def pl15 : Nat → Plan := fun _ => .done
def ls15 : Nat → List (Nat × LT) := fun _ => []
def W15 (t : Option Addr) (w : World) (R : Value → World → Prop) : Prop :=
  (Ca Tryz.prog (44) (Array.mk [Value.pointer t]) (w) (fun v0 => (fun w1 =>
    (∃ b2 : Bool, ((v0 = Value.bool b2) ∧ (ifK (!b2)
      (R (Value.slice none 0 0) (w1))
      (onP (t) (fun a3 =>
        (∃ p4 : Option Nat, ((World.cell? w1 (Addr.add a3 0) = some (Value.map p4)) ∧ (Ca Tryz.prog (46) (Array.mk [Value.map p4]) (w1) (fun v5 => (fun w6 =>
          (∃ v7 : Value, ((v5 = v7) ∧ (Ca Tryz.prog (45) (Array.mk [v7, Value.func (Fn.func 47) #[] #[]]) (w6) (fun v8 => (fun w9 =>
            (∃ p10 : Option Addr, (∃ n11 : Nat, (∃ n12 : Nat, ((v8 = Value.slice p10 n11 n12) ∧ (R (Value.slice p10 n11 n12) (w9))))))))))))))))))))))))
theorem ca15 (t : Option Addr) (w : World) (R : Value → World → Prop) (h : W15 t w R) : Ca Tryz.prog 15 ⟨[(.pointer t)]⟩ w R := by
  have h1 : Tryz.prog.follows .mixedOrders = true := by kernel_rfl
  have h2 : Tryz.f15.body = some C15 := by kernel_rfl
  have h3 : (Tryz.f15.name == "runtime.NumGoroutine") = false := by kernel_rfl
  have h6 : Tryz.f15.results.toList = [.tmp 2] := by kernel_rfl
  have h4 : Nat.ble 1 12 = true := by kernel_rfl
  have h5 : okCode 12 pl15 ls15 C15 0 = true := by kernel_rfl
  have e : W15 t w R = wpC none Tryz.prog 12 pl15 ls15 C15 0 (endP Tryz.prog [.tmp 2] R) (fr0 [(.pointer t)]) [] w := by kernel_rfl
  exact ca_of' (P := Tryz.prog) (g := 15) (fn := Tryz.f15) (c := C15) (m := 12) (rs := [.tmp 2]) (args := [(.pointer t)]) (pl := pl15) (ls := ls15) (w := w) (R := R) h1 Tryz.func15 h2 Tryz.ntmps15 h6 h3 h4 h5 (Eq.mp e h)

/-- (*staith/bind.Table).Bindings -/
noncomputable def C16 : Code := (Tryz.f16.body).getD .skip
def pl16 : Nat → Plan := fun _ => .done
def ls16 : Nat → List (Nat × LT) := fun _ => []
def W16 (t : Option Addr) (w : World) (R : Value → World → Prop) : Prop :=
  (Ca Tryz.prog (44) (Array.mk [Value.pointer t]) (w) (fun v0 => (fun w1 =>
    (∃ b2 : Bool, ((v0 = Value.bool b2) ∧ (ifK (!b2)
      (R (Value.slice none 0 0) (w1))
      (onP (t) (fun a3 =>
        (∃ p4 : Option Nat, ((World.cell? w1 (Addr.add a3 1) = some (Value.map p4)) ∧ (Ca Tryz.prog (50) (Array.mk [Value.map p4]) (w1) (fun v5 => (fun w6 =>
          (∃ v7 : Value, ((v5 = v7) ∧ (Ca Tryz.prog (49) (Array.mk [v7, Value.func (Fn.func 51) #[] #[]]) (w6) (fun v8 => (fun w9 =>
            (∃ p10 : Option Addr, (∃ n11 : Nat, (∃ n12 : Nat, ((v8 = Value.slice p10 n11 n12) ∧ (R (Value.slice p10 n11 n12) (w9))))))))))))))))))))))))
theorem ca16 (t : Option Addr) (w : World) (R : Value → World → Prop) (h : W16 t w R) : Ca Tryz.prog 16 ⟨[(.pointer t)]⟩ w R := by
  have h1 : Tryz.prog.follows .mixedOrders = true := by kernel_rfl
  have h2 : Tryz.f16.body = some C16 := by kernel_rfl
  have h3 : (Tryz.f16.name == "runtime.NumGoroutine") = false := by kernel_rfl
  have h6 : Tryz.f16.results.toList = [.tmp 2] := by kernel_rfl
  have h4 : Nat.ble 1 12 = true := by kernel_rfl
  have h5 : okCode 12 pl16 ls16 C16 0 = true := by kernel_rfl
  have e : W16 t w R = wpC none Tryz.prog 12 pl16 ls16 C16 0 (endP Tryz.prog [.tmp 2] R) (fr0 [(.pointer t)]) [] w := by kernel_rfl
  exact ca_of' (P := Tryz.prog) (g := 16) (fn := Tryz.f16) (c := C16) (m := 12) (rs := [.tmp 2]) (args := [(.pointer t)]) (pl := pl16) (ls := ls16) (w := w) (R := R) h1 Tryz.func16 h2 Tryz.ntmps16 h6 h3 h4 h5 (Eq.mp e h)

/-- slices.SortedFunc[staith/api.Exchange] -/
noncomputable def C45 : Code := (Tryz.f45.body).getD .skip
def pl45 : Nat → Plan := fun _ => .done
def ls45 : Nat → List (Nat × LT) := fun _ => []
def W45 (seq : Value) (cmp : Value) (w : World) (R : Value → World → Prop) : Prop :=
  (Ca Tryz.prog (75) (Array.mk [seq]) (w) (fun v0 => (fun w1 =>
    (∃ p2 : Option Addr, (∃ n3 : Nat, (∃ n4 : Nat, ((v0 = Value.slice p2 n3 n4) ∧ (Ca Tryz.prog (76) (Array.mk [Value.slice p2 n3 n4, cmp]) (w1) (fun v5 => (fun w6 =>
      ((v5 = Value.tuple (Array.mk (List.reverse []))) ∧ (R (Value.slice p2 n3 n4) (w6)))))))))))))
theorem ca45 (seq : Value) (cmp : Value) (w : World) (R : Value → World → Prop) (h : W45 seq cmp w R) : Ca Tryz.prog 45 ⟨[seq, cmp]⟩ w R := by
  have h1 : Tryz.prog.follows .mixedOrders = true := by kernel_rfl
  have h2 : Tryz.f45.body = some C45 := by kernel_rfl
  have h3 : (Tryz.f45.name == "runtime.NumGoroutine") = false := by kernel_rfl
  have h6 : Tryz.f45.results.toList = [.tmp 4] := by kernel_rfl
  have h4 : Nat.ble 2 12 = true := by kernel_rfl
  have h5 : okCode 12 pl45 ls45 C45 0 = true := by kernel_rfl
  have e : W45 seq cmp w R = wpC none Tryz.prog 12 pl45 ls45 C45 0 (endP Tryz.prog [.tmp 4] R) (fr0 [seq, cmp]) [] w := by kernel_rfl
  exact ca_of' (P := Tryz.prog) (g := 45) (fn := Tryz.f45) (c := C45) (m := 12) (rs := [.tmp 4]) (args := [seq, cmp]) (pl := pl45) (ls := ls45) (w := w) (R := R) h1 Tryz.func45 h2 Tryz.ntmps45 h6 h3 h4 h5 (Eq.mp e h)

/-- maps.Values[map[string]staith/api.Exchange,string,staith/api.Exchange] -/
noncomputable def C46 : Code := (Tryz.f46.body).getD .skip
def pl46 : Nat → Plan := fun _ => .done
def ls46 : Nat → List (Nat × LT) := fun _ => []
def W46 (m : Option Nat) (w : World) (R : Value → World → Prop) : Prop :=
  (atW (World.alloc w (Obj.cells (Array.mk [Value.map m]) 67 (0, 0))) (fun w0 =>
    (R (Value.func (Fn.func 77) (Array.mk []) (Array.mk [Value.pointer (some (Addr.mk (Array.size (World.heap w)) 0 none))])) (w0))))
theorem ca46 (m : Option Nat) (w : World) (R : Value → World → Prop) (h : W46 m w R) : Ca Tryz.prog 46 ⟨[(.map m)]⟩ w R := by
  have h1 : Tryz.prog.follows .mixedOrders = true := by kernel_rfl
  have h2 : Tryz.f46.body = some C46 := by kernel_rfl
  have h3 : (Tryz.f46.name == "runtime.NumGoroutine") = false := by kernel_rfl
  have h6 : Tryz.f46.results.toList = [.tmp 2] := by kernel_rfl
  have h4 : Nat.ble 1 4 = true := by kernel_rfl
  have h5 : okCode 4 pl46 ls46 C46 0 = true := by kernel_rfl
  have e : W46 m w R = wpC none Tryz.prog 4 pl46 ls46 C46 0 (endP Tryz.prog [.tmp 2] R) (fr0 [(.map m)]) [] w := by kernel_rfl
  exact ca_of' (P := Tryz.prog) (g := 46) (fn := Tryz.f46) (c := C46) (m := 4) (rs := [.tmp 2]) (args := [(.map m)]) (pl := pl46) (ls := ls46) (w := w) (R := R) h1 Tryz.func46 h2 Tryz.ntmps46 h6 h3 h4 h5 (Eq.mp e h)

/-- slices.SortedFunc[staith/api.Binding] -/
noncomputable def C49 : Code := (Tryz.f49.body).getD .skip
def pl49 : Nat → Plan := fun _ => .done
def ls49 : Nat → List (Nat × LT) := fun _ => []
def W49 (seq : Value) (cmp : Value) (w : World) (R : Value → World → Prop) : Prop :=
  (Ca Tryz.prog (79) (Array.mk [seq]) (w) (fun v0 => (fun w1 =>
    (∃ p2 : Option Addr, (∃ n3 : Nat, (∃ n4 : Nat, ((v0 = Value.slice p2 n3 n4) ∧ (Ca Tryz.prog (80) (Array.mk [Value.slice p2 n3 n4, cmp]) (w1) (fun v5 => (fun w6 =>
      ((v5 = Value.tuple (Array.mk (List.reverse []))) ∧ (R (Value.slice p2 n3 n4) (w6)))))))))))))
theorem ca49 (seq : Value) (cmp : Value) (w : World) (R : Value → World → Prop) (h : W49 seq cmp w R) : Ca Tryz.prog 49 ⟨[seq, cmp]⟩ w R := by
  have h1 : Tryz.prog.follows .mixedOrders = true := by kernel_rfl
  have h2 : Tryz.f49.body = some C49 := by kernel_rfl
  have h3 : (Tryz.f49.name == "runtime.NumGoroutine") = false := by kernel_rfl
  have h6 : Tryz.f49.results.toList = [.tmp 4] := by kernel_rfl
  have h4 : Nat.ble 2 12 = true := by kernel_rfl
  have h5 : okCode 12 pl49 ls49 C49 0 = true := by kernel_rfl
  have e : W49 seq cmp w R = wpC none Tryz.prog 12 pl49 ls49 C49 0 (endP Tryz.prog [.tmp 4] R) (fr0 [seq, cmp]) [] w := by kernel_rfl
  exact ca_of' (P := Tryz.prog) (g := 49) (fn := Tryz.f49) (c := C49) (m := 12) (rs := [.tmp 4]) (args := [seq, cmp]) (pl := pl49) (ls := ls49) (w := w) (R := R) h1 Tryz.func49 h2 Tryz.ntmps49 h6 h3 h4 h5 (Eq.mp e h)

/-- maps.Keys[map[staith/api.Binding]struct{},staith/api.Binding,struct{}] -/
noncomputable def C50 : Code := (Tryz.f50.body).getD .skip
def pl50 : Nat → Plan := fun _ => .done
def ls50 : Nat → List (Nat × LT) := fun _ => []
def W50 (m : Option Nat) (w : World) (R : Value → World → Prop) : Prop :=
  (atW (World.alloc w (Obj.cells (Array.mk [Value.map m]) 68 (0, 0))) (fun w0 =>
    (R (Value.func (Fn.func 81) (Array.mk []) (Array.mk [Value.pointer (some (Addr.mk (Array.size (World.heap w)) 0 none))])) (w0))))
theorem ca50 (m : Option Nat) (w : World) (R : Value → World → Prop) (h : W50 m w R) : Ca Tryz.prog 50 ⟨[(.map m)]⟩ w R := by
  have h1 : Tryz.prog.follows .mixedOrders = true := by kernel_rfl
  have h2 : Tryz.f50.body = some C50 := by kernel_rfl
  have h3 : (Tryz.f50.name == "runtime.NumGoroutine") = false := by kernel_rfl
  have h6 : Tryz.f50.results.toList = [.tmp 2] := by kernel_rfl
  have h4 : Nat.ble 1 4 = true := by kernel_rfl
  have h5 : okCode 4 pl50 ls50 C50 0 = true := by kernel_rfl
  have e : W50 m w R = wpC none Tryz.prog 4 pl50 ls50 C50 0 (endP Tryz.prog [.tmp 2] R) (fr0 [(.map m)]) [] w := by kernel_rfl
  exact ca_of' (P := Tryz.prog) (g := 50) (fn := Tryz.f50) (c := C50) (m := 4) (rs := [.tmp 2]) (args := [(.map m)]) (pl := pl50) (ls := ls50) (w := w) (R := R) h1 Tryz.func50 h2 Tryz.ntmps50 h6 h3 h4 h5 (Eq.mp e h)

/-- slices.Collect[staith/api.Exchange] -/
noncomputable def C75 : Code := (Tryz.f75.body).getD .skip
def pl75 : Nat → Plan := fun _ => .done
def ls75 : Nat → List (Nat × LT) := fun _ => []
def W75 (seq : Value) (w : World) (R : Value → World → Prop) : Prop :=
  (Ca Tryz.prog (98) (Array.mk [Value.slice none 0 0, seq]) (w) (fun v0 => (fun w1 =>
    (∃ p2 : Option Addr, (∃ n3 : Nat, (∃ n4 : Nat, ((v0 = Value.slice p2 n3 n4) ∧ (R (Value.slice p2 n3 n4) (w1)))))))))
theorem ca75 (seq : Value) (w : World) (R : Value → World → Prop) (h : W75 seq w R) : Ca Tryz.prog 75 ⟨[seq]⟩ w R := by
  have h1 : Tryz.prog.follows .mixedOrders = true := by kernel_rfl
  have h2 : Tryz.f75.body = some C75 := by kernel_rfl
  have h3 : (Tryz.f75.name == "runtime.NumGoroutine") = false := by kernel_rfl
  have h6 : Tryz.f75.results.toList = [.tmp 2] := by kernel_rfl
  have h4 : Nat.ble 1 5 = true := by kernel_rfl
  have h5 : okCode 5 pl75 ls75 C75 0 = true := by kernel_rfl
  have e : W75 seq w R = wpC none Tryz.prog 5 pl75 ls75 C75 0 (endP Tryz.prog [.tmp 2] R) (fr0 [seq]) [] w := by kernel_rfl
  exact ca_of' (P := Tryz.prog) (g := 75) (fn := Tryz.f75) (c := C75) (m := 5) (rs := [.tmp 2]) (args := [seq]) (pl := pl75) (ls := ls75) (w := w) (R := R) h1 Tryz.func75 h2 Tryz.ntmps75 h6 h3 h4 h5 (Eq.mp e h)

/-- maps.Values[map[string]staith/api.Exchange,string,staith/api.Exchange]$1 -/
noncomputable def C77 : Code := (Tryz.f77.body).getD .skip
def pl77 : Nat → Plan := fun _ => .done
def ls77 : Nat → List (Nat × LT)
  | 1 => []
  | _ => []
def W77 (yield : Value) (c0 : Option Addr) (w : World) (R : Value → World → Prop) : Prop :=
  (onP (c0) (fun a0 =>
    (∃ p1 : Option Nat, ((World.cell? w a0 = some (Value.map p1)) ∧ (rngM (p1) (w) (fun v2 => (fun w3 =>
      (∃ z4 : World → Prop, (∃ z5 : World → Nat, ((z4 (w3)) ∧ (∀ (_ : Nat → Value), (∀ (w7 : World), ((z4 (w7)) → (nxtM Tryz.prog (0) (v2) (w7) (fun _ => (fun _ => (fun w10 =>
        (∃ v11 : Value, (∃ v12 : Value, ((Sem.run Tryz.prog (Instr.entry v2) w10 = Result.ok (Value.tuple #[v11, v12]) w10) ∧ (atW (World.alloc w10 (Obj.cells (Array.mk [Value.string (ByteArray.mk #[]), Value.int IntKind.i64 0, Value.bool false]) 33 (0, 0))) (fun w13 =>
          (bif Nat.beq (Array.size (Value.cells v12)) 3 then
            (stCells (Array.toList (Value.cells v12)) (Addr.mk (Array.size (World.heap w10)) 0 none) 0 w13 fun x => ∃ s, World.cell? x (Addr.add (Addr.mk (Array.size (World.heap w10)) 0 none) 0) = some (Value.string s) ∧ ∃ x_1, World.cell? x (Addr.add (Addr.mk (Array.size (World.heap w10)) 0 none) 1) = some (Value.int IntKind.i64 x_1) ∧ ∃ b, World.cell? x (Addr.add (Addr.mk (Array.size (World.heap w10)) 0 none) 2) = some (Value.bool b) ∧ CaV Tryz.prog yield (Array.mk [Value.agg (Array.mk (List.reverse [Value.bool b, Value.int IntKind.i64 x_1, Value.string s]))]) x fun v w' => ∃ b, v = Value.bool b ∧ ifK (!b) (R (Value.tuple (Array.mk (List.reverse []))) w') (z4 w' ∧ z5 w' < z5 w7))
          else
            False))))))))) (fun w14 =>
        (R (Value.tuple (Array.mk (List.reverse []))) (w14)))))))))))))))))
theorem ca77 (yield : Value) (c0 : Option Addr) (w : World) (R : Value → World → Prop) (h : W77 yield c0 w R) : Ca Tryz.prog 77 ⟨[yield, (.pointer c0)]⟩ w R := by
  have h1 : Tryz.prog.follows .mixedOrders = true := by kernel_rfl
  have h2 : Tryz.f77.body = some C77 := by kernel_rfl
  have h3 : (Tryz.f77.name == "runtime.NumGoroutine") = false := by kernel_rfl
  have h6 : Tryz.f77.results.toList = [] := by kernel_rfl
  have h4 : Nat.ble 2 15 = true := by kernel_rfl
  have h5 : okCode 15 pl77 ls77 C77 0 = true := by kernel_rfl
  have e : W77 yield c0 w R = wpC none Tryz.prog 15 pl77 ls77 C77 0 (endP Tryz.prog [] R) (fr0 [yield, (.pointer c0)]) [] w := by kernel_rfl
  exact ca_of' (P := Tryz.prog) (g := 77) (fn := Tryz.f77) (c := C77) (m := 15) (rs := []) (args := [yield, (.pointer c0)]) (pl := pl77) (ls := ls77) (w := w) (R := R) h1 Tryz.func77 h2 Tryz.ntmps77 h6 h3 h4 h5 (Eq.mp e h)

/-- slices.Collect[staith/api.Binding] -/
noncomputable def C79 : Code := (Tryz.f79.body).getD .skip
def pl79 : Nat → Plan := fun _ => .done
def ls79 : Nat → List (Nat × LT) := fun _ => []
def W79 (seq : Value) (w : World) (R : Value → World → Prop) : Prop :=
  (Ca Tryz.prog (101) (Array.mk [Value.slice none 0 0, seq]) (w) (fun v0 => (fun w1 =>
    (∃ p2 : Option Addr, (∃ n3 : Nat, (∃ n4 : Nat, ((v0 = Value.slice p2 n3 n4) ∧ (R (Value.slice p2 n3 n4) (w1)))))))))
theorem ca79 (seq : Value) (w : World) (R : Value → World → Prop) (h : W79 seq w R) : Ca Tryz.prog 79 ⟨[seq]⟩ w R := by
  have h1 : Tryz.prog.follows .mixedOrders = true := by kernel_rfl
  have h2 : Tryz.f79.body = some C79 := by kernel_rfl
  have h3 : (Tryz.f79.name == "runtime.NumGoroutine") = false := by kernel_rfl
  have h6 : Tryz.f79.results.toList = [.tmp 2] := by kernel_rfl
  have h4 : Nat.ble 1 5 = true := by kernel_rfl
  have h5 : okCode 5 pl79 ls79 C79 0 = true := by kernel_rfl
  have e : W79 seq w R = wpC none Tryz.prog 5 pl79 ls79 C79 0 (endP Tryz.prog [.tmp 2] R) (fr0 [seq]) [] w := by kernel_rfl
  exact ca_of' (P := Tryz.prog) (g := 79) (fn := Tryz.f79) (c := C79) (m := 5) (rs := [.tmp 2]) (args := [seq]) (pl := pl79) (ls := ls79) (w := w) (R := R) h1 Tryz.func79 h2 Tryz.ntmps79 h6 h3 h4 h5 (Eq.mp e h)

/-- maps.Keys[map[staith/api.Binding]struct{},staith/api.Binding,struct{}]$1 -/
noncomputable def C81 : Code := (Tryz.f81.body).getD .skip
def pl81 : Nat → Plan := fun _ => .done
def ls81 : Nat → List (Nat × LT)
  | 1 => []
  | _ => []
def W81 (yield : Value) (c0 : Option Addr) (w : World) (R : Value → World → Prop) : Prop :=
  (onP (c0) (fun a0 =>
    (∃ p1 : Option Nat, ((World.cell? w a0 = some (Value.map p1)) ∧ (rngM (p1) (w) (fun v2 => (fun w3 =>
      (∃ z4 : World → Prop, (∃ z5 : World → Nat, ((z4 (w3)) ∧ (∀ (_ : Nat → Value), (∀ (w7 : World), ((z4 (w7)) → (nxtM Tryz.prog (0) (v2) (w7) (fun _ => (fun _ => (fun w10 =>
        (∃ v11 : Value, (∃ v12 : Value, ((Sem.run Tryz.prog (Instr.entry v2) w10 = Result.ok (Value.tuple #[v11, v12]) w10) ∧ (atW (World.alloc w10 (Obj.cells (Array.mk [Value.string (ByteArray.mk #[]), Value.string (ByteArray.mk #[]), Value.string (ByteArray.mk #[])]) 35 (0, 0))) (fun w13 =>
          (bif Nat.beq (Array.size (Value.cells v11)) 3 then
            (stCells (Array.toList (Value.cells v11)) (Addr.mk (Array.size (World.heap w10)) 0 none) 0 w13 fun x => ∃ s, World.cell? x (Addr.add (Addr.mk (Array.size (World.heap w10)) 0 none) 0) = some (Value.string s) ∧ ∃ s_1, World.cell? x (Addr.add (Addr.mk (Array.size (World.heap w10)) 0 none) 1) = some (Value.string s_1) ∧ ∃ s_2, World.cell? x (Addr.add (Addr.mk (Array.size (World.heap w10)) 0 none) 2) = some (Value.string s_2) ∧ CaV Tryz.prog yield (Array.mk [Value.agg (Array.mk (List.reverse [Value.string s_2, Value.string s_1, Value.string s]))]) x fun v w' => ∃ b, v = Value.bool b ∧ ifK (!b) (R (Value.tuple (Array.mk (List.reverse []))) w') (z4 w' ∧ z5 w' < z5 w7))
          else
            False))))))))) (fun w14 =>
        (R (Value.tuple (Array.mk (List.reverse []))) (w14)))))))))))))))))
theorem ca81 (yield : Value) (c0 : Option Addr) (w : World) (R : Value → World → Prop) (h : W81 yield c0 w R) : Ca Tryz.prog 81 ⟨[yield, (.pointer c0)]⟩ w R := by
  have h1 : Tryz.prog.follows .mixedOrders = true := by kernel_rfl
  have h2 : Tryz.f81.body = some C81 := by kernel_rfl
  have h3 : (Tryz.f81.name == "runtime.NumGoroutine") = false := by kernel_rfl
  have h6 : Tryz.f81.results.toList = [] := by kernel_rfl
  have h4 : Nat.ble 2 14 = true := by kernel_rfl
  have h5 : okCode 14 pl81 ls81 C81 0 = true := by kernel_rfl
  have e : W81 yield c0 w R = wpC none Tryz.prog 14 pl81 ls81 C81 0 (endP Tryz.prog [] R) (fr0 [yield, (.pointer c0)]) [] w := by kernel_rfl
  exact ca_of' (P := Tryz.prog) (g := 81) (fn := Tryz.f81) (c := C81) (m := 14) (rs := []) (args := [yield, (.pointer c0)]) (pl := pl81) (ls := ls81) (w := w) (R := R) h1 Tryz.func81 h2 Tryz.ntmps81 h6 h3 h4 h5 (Eq.mp e h)

/-- slices.AppendSeq[[]staith/api.Exchange,staith/api.Exchange] -/
noncomputable def C98 : Code := (Tryz.f98.body).getD .skip
def pl98 : Nat → Plan := fun _ => .done
def ls98 : Nat → List (Nat × LT) := fun _ => []
def W98 (sa : Option Addr) (sl : Nat) (sc : Nat) (seq : Value) (w : World) (R : Value → World → Prop) : Prop :=
  (atW (World.alloc w (Obj.cells (Array.mk [Value.slice sa sl sc]) 26 (0, 0))) (fun w0 =>
    (rfW Tryz.prog (seq) (w0) (fun v1 => (fun w2 => (fun z3 => (fun z4 =>
      (atW (World.alloc w2 (Obj.cells (Array.mk [Value.string (ByteArray.mk #[]), Value.int IntKind.i64 0, Value.bool false]) 33 (0, 0))) (fun w5 =>
        (bif Nat.beq (Array.size (Value.cells v1)) 3 then
          (stCells (Array.toList (Value.cells v1)) (Addr.mk (Array.size (World.heap w2)) 0 none) 0 w5 fun x => z3 (fun x => ∃ a l c, World.cell? x (Addr.mk (Array.size (World.heap w)) 0 none) = some (Value.slice a l c) ∧ (fun v w' => ∃ s, World.cell? w' (Addr.add (Addr.mk (Array.size (World.heap w2)) 0 none) 0) = some (Value.string s) ∧ ∃ x, World.cell? w' (Addr.add (Addr.mk (Array.size (World.heap w2)) 0 none) 1) = some (Value.int IntKind.i64 x) ∧ ∃ b, World.cell? w' (Addr.add (Addr.mk (Array.size (World.heap w2)) 0 none) 2) = some (Value.bool b) ∧ atW (World.alloc w' (Obj.cells (Array.mk [Value.string s, Value.int IntKind.i64 x, Value.bool b]) 33 (0, 0))) fun w'_1 => ∃ v_1 w'_2, Sem.run Tryz.prog (Builtin.append_ (Array.mk [26, 26]) 26 (Array.mk [v, Value.slice (some (Addr.mk (Array.size (World.heap w')) 0 none)) 1 1])) w'_1 = Result.ok v_1 w'_2 ∧ ∃ a l c, v_1 = Value.slice a l c ∧ (∃ old, World.cell? w'_2 (Addr.add (Addr.mk (Array.size (World.heap w)) 0 none) 0) = some old) ∧ World.frozen? w'_2 (Addr.add (Addr.mk (Array.size (World.heap w)) 0 none) 0) = false ∧ atW (World.setCell w'_2 (Addr.add (Addr.mk (Array.size (World.heap w)) 0 none) 0) (Value.slice a l c)) fun w' => z4 w') (Value.slice a l c) x) x)
        else
          False))))))) (fun w6 =>
      (∃ p7 : Option Addr, (∃ n8 : Nat, (∃ n9 : Nat, ((World.cell? w6 (Addr.mk (Array.size (World.heap w)) 0 none) = some (Value.slice p7 n8 n9)) ∧ (((World.heap w6)[Array.size (World.heap w0)]? = some (Obj.deferred (some []))) ∧ (atW (World.putObj w6 (Array.size (World.heap w0)) (Obj.deferred none)) (fun w10 =>
        (R (Value.slice p7 n8 n9) (w10)))))))))))))
theorem ca98 (sa : Option Addr) (sl : Nat) (sc : Nat) (seq : Value) (w : World) (R : Value → World → Prop) (h : W98 sa sl sc seq w R) : Ca Tryz.prog 98 ⟨[(.slice sa sl sc), seq]⟩ w R := by
  have h1 : Tryz.prog.follows .mixedOrders = true := by kernel_rfl
  have h2 : Tryz.f98.body = some C98 := by kernel_rfl
  have h3 : (Tryz.f98.name == "runtime.NumGoroutine") = false := by kernel_rfl
  have h6 : Tryz.f98.results.toList = [.tmp 4] := by kernel_rfl
  have h4 : Nat.ble 2 13 = true := by kernel_rfl
  have h5 : okCode 13 pl98 ls98 C98 0 = true := by kernel_rfl
  have e : W98 sa sl sc seq w R = wpC none Tryz.prog 13 pl98 ls98 C98 0 (endP Tryz.prog [.tmp 4] R) (fr0 [(.slice sa sl sc), seq]) [] w := by kernel_rfl
  exact ca_of' (P := Tryz.prog) (g := 98) (fn := Tryz.f98) (c := C98) (m := 13) (rs := [.tmp 4]) (args := [(.slice sa sl sc), seq]) (pl := pl98) (ls := ls98) (w := w) (R := R) h1 Tryz.func98 h2 Tryz.ntmps98 h6 h3 h4 h5 (Eq.mp e h)

/-- slices.AppendSeq[[]staith/api.Binding,staith/api.Binding] -/
noncomputable def C101 : Code := (Tryz.f101.body).getD .skip
def pl101 : Nat → Plan := fun _ => .done
def ls101 : Nat → List (Nat × LT) := fun _ => []
def W101 (sa : Option Addr) (sl : Nat) (sc : Nat) (seq : Value) (w : World) (R : Value → World → Prop) : Prop :=
  (atW (World.alloc w (Obj.cells (Array.mk [Value.slice sa sl sc]) 27 (0, 0))) (fun w0 =>
    (rfW Tryz.prog (seq) (w0) (fun v1 => (fun w2 => (fun z3 => (fun z4 =>
      (atW (World.alloc w2 (Obj.cells (Array.mk [Value.string (ByteArray.mk #[]), Value.string (ByteArray.mk #[]), Value.string (ByteArray.mk #[])]) 35 (0, 0))) (fun w5 =>
        (bif Nat.beq (Array.size (Value.cells v1)) 3 then
          (stCells (Array.toList (Value.cells v1)) (Addr.mk (Array.size (World.heap w2)) 0 none) 0 w5 fun x => z3 (fun x => ∃ a l c, World.cell? x (Addr.mk (Array.size (World.heap w)) 0 none) = some (Value.slice a l c) ∧ (fun v w' => ∃ s, World.cell? w' (Addr.add (Addr.mk (Array.size (World.heap w2)) 0 none) 0) = some (Value.string s) ∧ ∃ s_1, World.cell? w' (Addr.add (Addr.mk (Array.size (World.heap w2)) 0 none) 1) = some (Value.string s_1) ∧ ∃ s_2, World.cell? w' (Addr.add (Addr.mk (Array.size (World.heap w2)) 0 none) 2) = some (Value.string s_2) ∧ atW (World.alloc w' (Obj.cells (Array.mk [Value.string s, Value.string s_1, Value.string s_2]) 35 (0, 0))) fun w'_1 => ∃ v_1 w'_2, Sem.run Tryz.prog (Builtin.append_ (Array.mk [27, 27]) 27 (Array.mk [v, Value.slice (some (Addr.mk (Array.size (World.heap w')) 0 none)) 1 1])) w'_1 = Result.ok v_1 w'_2 ∧ ∃ a l c, v_1 = Value.slice a l c ∧ (∃ old, World.cell? w'_2 (Addr.add (Addr.mk (Array.size (World.heap w)) 0 none) 0) = some old) ∧ World.frozen? w'_2 (Addr.add (Addr.mk (Array.size (World.heap w)) 0 none) 0) = false ∧ atW (World.setCell w'_2 (Addr.add (Addr.mk (Array.size (World.heap w)) 0 none) 0) (Value.slice a l c)) fun w' => z4 w') (Value.slice a l c) x) x)
        else
          False))))))) (fun w6 =>
      (∃ p7 : Option Addr, (∃ n8 : Nat, (∃ n9 : Nat, ((World.cell? w6 (Addr.mk (Array.size (World.heap w)) 0 none) = some (Value.slice p7 n8 n9)) ∧ (((World.heap w6)[Array.size (World.heap w0)]? = some (Obj.deferred (some []))) ∧ (atW (World.putObj w6 (Array.size (World.heap w0)) (Obj.deferred none)) (fun w10 =>
        (R (Value.slice p7 n8 n9) (w10)))))))))))))
theorem ca101 (sa : Option Addr) (sl : Nat) (sc : Nat) (seq : Value) (w : World) (R : Value → World → Prop) (h : W101 sa sl sc seq w R) : Ca Tryz.prog 101 ⟨[(.slice sa sl sc), seq]⟩ w R := by
  have h1 : Tryz.prog.follows .mixedOrders = true := by kernel_rfl
  have h2 : Tryz.f101.body = some C101 := by kernel_rfl
  have h3 : (Tryz.f101.name == "runtime.NumGoroutine") = false := by kernel_rfl
  have h6 : Tryz.f101.results.toList = [.tmp 4] := by kernel_rfl
  have h4 : Nat.ble 2 13 = true := by kernel_rfl
  have h5 : okCode 13 pl101 ls101 C101 0 = true := by kernel_rfl
  have e : W101 sa sl sc seq w R = wpC none Tryz.prog 13 pl101 ls101 C101 0 (endP Tryz.prog [.tmp 4] R) (fr0 [(.slice sa sl sc), seq]) [] w := by kernel_rfl
  exact ca_of' (P := Tryz.prog) (g := 101) (fn := Tryz.f101) (c := C101) (m := 13) (rs := [.tmp 4]) (args := [(.slice sa sl sc), seq]) (pl := pl101) (ls := ls101) (w := w) (R := R) h1 Tryz.func101 h2 Tryz.ntmps101 h6 h3 h4 h5 (Eq.mp e h)
end Go.Proofs.YtehhhkcemmfjpaaGreatDoor

/- The library's AppendSeq, Collect: of structs of three cells. Exc, excL: their values; 33, 26: their type, and their row's. -/
namespace Go.Proofs.YtehhhkcemmfjpaaGreatDoor.SeqX
open Go Go.Proofs.YtehhhkcemmfjpaaGreatDoor Go.Proofs.YtehhhkcemmfjpaaGreatDoor.St

abbrev aggs (xs : List Exc) : List Value := xs.map fun x => .agg ⟨(excL).cs x⟩
/-- What AppendSeq has gathered: in a box that is the block w.heap.size, in a row of its own. -/
def Got (w : World) (Rdy : World → Prop) (vs : List Value) (w' : World) : Prop :=
  Rdy w' ∧ ∃ (xs : List Exc) (a : Option Addr) (l c : Nat), vs = aggs xs ∧ w'.heap[w.heap.size]? = some (.cells #[.slice a l c] 26 (0, 0)) ∧ Rx excL 33 w' a l c xs ∧ (∀ k, rowB a k → w.heap.size + 3 ≤ k) ∧ w.heap.size + 3 ≤ w'.heap.size
theorem appendSeq_ok (seq : Value) (N : Nat) (S : List Value → Prop) (w : World) (hN : N ≤ 1099511627775) (hseq : SeqOf Tryz.prog seq w.heap.size w N (fun v => ∃ x : Exc, v = .agg ⟨(excL).cs x⟩) S) (R : Value → World → Prop)
    (h : ∀ w' a l c xs, S (aggs xs) → Rx excL 33 w' a l c xs → Mod no w w' → (∀ k, rowB a k → w.heap.size < k) → R (.slice a l c) w') :
    Ca Tryz.prog 98 #[.slice none 0 0, seq] w R := by
  refine ca98 none 0 0 seq w R ?_
  intro w0 e0
  have m0 : Mod no w w0 := by subst e0; exact Mod.alloc _ _
  have b0 : w0.heap[w.heap.size]? = some (.cells #[.slice none 0 0] 26 (0, 0)) := by subst e0; exact new_at _ _
  have s0 : w0.heap.size = w.heap.size + 1 := by subst e0; simp
  clear e0
  refine ⟨hseq.1, ?_⟩
  intro Rdy Bsy hrs hbs hrb w1 m1 s1 hr1 hy
  have b1 := Mod.at' m1 b0
  have hstab : Stab (Got w Rdy) := by
    constructor
    · rintro vs w1 w2 ⟨hr, xs, a, l, c, rfl, hb, hx, hn, hz⟩ hm
      obtain ⟨h1, r, h2⟩ := hrb w1 (.inl hr)
      exact ⟨hrs w1 w2 hr (by rw [hm.at' h1, h1]) (by rw [hm.at' h2, h2]), xs, a, l, c, rfl, hm.at' hb, hx.no hm, hn, Nat.le_trans hz hm.size⟩
    · rintro vs w1 w2 b o ⟨hr, xs, a, l, c, rfl, hb, hx, hn, hz⟩ hbo hit hm
      obtain ⟨h1, r, h2⟩ := hrb w1 (.inl hr)
      have hne : ∀ k o', w1.heap[k]? = some o' → isIt o' = false → ¬ on b k := by
        intro k o' hk hf e
        cases e
        rw [hbo] at hk
        cases hk
        rw [hit] at hf
        cases hf
      refine ⟨hrs w1 w2 hr (by rw [hm.at h1 (hne _ _ h1 rfl), h1]) (by rw [hm.at h2 (hne _ _ h2 rfl), h2]), xs, a, l, c, rfl, hm.at hb (hne _ _ hb rfl), hx.mod hm ?_, hn, Nat.le_trans hz hm.size⟩
      intro k hk2
      rcases Row.block hx with ⟨h0, _⟩ | ⟨g, cur, h0, hg, _⟩
      · subst h0; cases hk2
      · subst h0; cases hk2; exact hne _ _ hg rfl
  refine hseq.2 (Got w Rdy) _ w1 _ (Kp.of_no (m0.trans m1)) hstab ⟨hr1, [], none, 0, 0, rfl, b1, Row.empty _ _ _, (fun k hk => by cases hk), by omega⟩ ?_ ?_
  · rintro pre v w2 hk2 ⟨hr2, xs, a, l, c, rfl, hb2, hx2, hn2, hz2⟩ hlen ⟨x, rfl⟩ R' hR'
    refine (hy (.agg ⟨(excL).cs x⟩) w2 (fun w3 => R' (.bool true) w3) hr2 ?_).mono fun v w3 ⟨hv, hR⟩ => by rw [hv]; exact hR
    intro w5 e5
    have n5 : Mod no w2 w5 := by subst e5; exact Mod.alloc _ _
    have b5 : w5.heap[w2.heap.size]? = some (.cells ([Value.string (ByteArray.mk #[]), Value.int .i64 0, Value.bool false]).toArray 33 (0, 0)) := by subst e5; exact new_at _ _
    clear e5
    refine (stCells_var (vs := (excL).cs x) b5 rfl (fun v hv => (excL).one x v hv) fun wx nx bx => ?_ : stCells _ _ _ _ _)
    have n2x : Mod no w2 wx := n5.new nx fun k hk => by cases hk; exact Nat.le_refl _
    obtain ⟨g1, r, g2⟩ := hrb w2 (.inl hr2)
    refine ⟨hrs w2 wx hr2 (by rw [n2x.at' g1, g1]) (by rw [n2x.at' g2, g2]), fun w6 hbz m6 s6 => ?_⟩
    have hz5 := lt_of_heap bx
    have m26 : Mod (on (w0.heap.size + 1)) w2 w6 := n2x.no_trans m6
    have b6 := m26.at hb2 (show ¬ w.heap.size = w0.heap.size + 1 by omega)
    have v6 := m6.at bx (show ¬ w2.heap.size = w0.heap.size + 1 by omega)
    have x6 : Rx excL 33 w6 a l c xs := hx2.mod m26 fun k hk hS => by cases hS; have := hn2 _ hk; omega
    have hxl := x6.len.1
    have hpl : (aggs xs).length = xs.length := List.length_map ..
    refine ⟨a, l, c, by rw [cl b6]; rfl, _, by rw [cl1 v6]; rfl, _, by rw [cl1 v6]; rfl, _, by rw [cl1 v6]; rfl, ?_⟩
    intro w10 e10
    have m10 : Mod no w6 w10 := by subst e10; exact Mod.alloc _ _
    have b10 : w10.heap[w6.heap.size]? = some (.cells ((excL).cs x).toArray 33 (0, 0)) := by subst e10; exact new_at _ _
    clear e10
    obtain ⟨a', c', w12, hrun, x12, m12, hnew⟩ := Row.push (P := Tryz.prog) (t := 26) (ty := 26) (by kernel_rfl) (x6.no m10) (b := some ⟨w6.heap.size, 0, none⟩) (m := 1) (cc := 1) (ys := [x]) rfl
      (fun ad had j v hj => by cases had; rw [cl1 b10]; simpa using hj) (fun h => by cases h) (by omega)
    have hbox : ¬ rowB a w.heap.size := fun hk => by have := hn2 _ hk; omega
    have b12 := m12.at (m10.at' b6) hbox
    refine ⟨_, w12, hrun, _, _, _, rfl, ⟨_, by rw [cl1 b12]; rfl⟩, fz1 b12 _, ?_⟩
    intro w17 e17
    have m17 : Mod (on w.heap.size) w12 w17 := by subst e17; exact Mod.set1 _ _ _ _
    have b17 : w17.heap[w.heap.size]? = some (.cells #[.slice a' (l + 1) c'] 26 (0, 0)) := by subst e17; rw [set1 b12]; rfl
    clear e17
    have hs6 := m26.size
    have hs10 := m10.size
    have hnew' : ∀ k, rowB a' k → w.heap.size + 3 ≤ k := fun k hk => (hnew k hk).elim (hn2 k) fun h => by omega
    have x17 : Rx excL 33 w17 a' (l + 1) c' (xs ++ [x]) := Rx.mod x12 m17 fun k hk e => by cases e; have := hnew' _ hk; omega
    have mA : Mod (fun k => rowB a k ∨ k = w.heap.size) w6 w17 := (m10.no_trans (m12.mono fun k _ hk => .inl hk)).trans' m17 fun k _ hk => .inr hk
    obtain ⟨h1, r', h2⟩ := hrb w6 (.inr hbz)
    have k1 : ¬ (rowB a w0.heap.size ∨ w0.heap.size = w.heap.size) := fun h => h.elim (fun h => by have := hn2 _ h; omega) (by omega)
    have k2 : ¬ (rowB a (w0.heap.size + 1) ∨ w0.heap.size + 1 = w.heap.size) := fun h => h.elim (fun h => by have := hn2 _ h; omega) (by omega)
    refine ⟨hbs w6 w17 hbz (by rw [mA.at h1 k1, h1]) (by rw [mA.at h2 k2, h2]), fun w3 hr3 m3 s3 => hR' w3 ?_ ?_⟩
    · have mB : Mod (fun k => k = w0.heap.size + 1 ∨ (rowB a k ∨ k = w.heap.size)) w2 w3 := ((m26.mono fun k _ hk => .inl hk).trans' mA fun k _ hk => .inr hk).trans' m3 fun k _ hk => .inl hk
      refine Kp.of_mod mB fun k o ho hk hS => ?_
      rcases hS with rfl | hS | rfl
      · rw [g2] at ho
        cases ho
        rcases hk with hk | hk
        · omega
        · cases hk
      · have := hn2 _ hS
        rcases hk with hk | hk
        · omega
        rcases Row.block hx2 with ⟨h0, _⟩ | ⟨g, cur, h0, hg, _⟩
        · subst h0; cases hS
        · subst h0
          cases hS
          rw [hg] at ho
          cases ho
          cases hk
      · rw [hb2] at ho
        cases ho
        rcases hk with hk | hk
        · omega
        · cases hk
    · refine ⟨hr3, xs ++ [x], a', l + 1, c', by simp [aggs], m3.at b17 (show ¬ w.heap.size = w0.heap.size + 1 by omega), x17.mod m3 fun k hk hS => by cases hS; have := hnew' _ hk; omega, hnew', ?_⟩
      have := mA.size
      omega
  · rintro w2 vs hS ⟨hr2, xs, a, l, c, rfl, hb2, hx2, hn2, hz2⟩ hk2
    refine ⟨hr2, fun w3 m3 s3 hd3 => ?_⟩
    have b3 := m3.at hb2 (by omega)
    have x3 : Rx excL 33 w3 a l c xs := hx2.mod m3 fun k hk hS => by have := hn2 _ hk; omega
    refine ⟨a, l, c, by rw [cl b3]; rfl, hd3, ?_⟩
    intro w4 e4
    have m4 : Mod (on w0.heap.size) w3 w4 := by subst e4; exact Mod.putObj _ _ _
    refine h w4 a l c xs hS (x3.mod m4 fun k hk hS => by cases hS; have := hn2 _ hk; omega) ?_ fun k hk => by have := hn2 _ hk; omega
    exact (hk2.mod.new m3 fun k hS => by omega).new m4 fun k hS => by cases hS; omega
end Go.Proofs.YtehhhkcemmfjpaaGreatDoor.SeqX

/- The library's AppendSeq, Collect: of structs of three cells. Bnd, bndL: their values; 35, 27: their type, and their row's. -/
namespace Go.Proofs.YtehhhkcemmfjpaaGreatDoor.SeqB
open Go Go.Proofs.YtehhhkcemmfjpaaGreatDoor Go.Proofs.YtehhhkcemmfjpaaGreatDoor.St

abbrev aggs (xs : List Bnd) : List Value := xs.map fun x => .agg ⟨(bndL).cs x⟩
/-- What AppendSeq has gathered: in a box that is the block w.heap.size, in a row of its own. -/
def Got (w : World) (Rdy : World → Prop) (vs : List Value) (w' : World) : Prop :=
  Rdy w' ∧ ∃ (xs : List Bnd) (a : Option Addr) (l c : Nat), vs = aggs xs ∧ w'.heap[w.heap.size]? = some (.cells #[.slice a l c] 27 (0, 0)) ∧ Rx bndL 35 w' a l c xs ∧ (∀ k, rowB a k → w.heap.size + 3 ≤ k) ∧ w.heap.size + 3 ≤ w'.heap.size
theorem appendSeq_ok (seq : Value) (N : Nat) (S : List Value → Prop) (w : World) (hN : N ≤ 1099511627775) (hseq : SeqOf Tryz.prog seq w.heap.size w N (fun v => ∃ x : Bnd, v = .agg ⟨(bndL).cs x⟩) S) (R : Value → World → Prop)
    (h : ∀ w' a l c xs, S (aggs xs) → Rx bndL 35 w' a l c xs → Mod no w w' → (∀ k, rowB a k → w.heap.size < k) → R (.slice a l c) w') :
    Ca Tryz.prog 101 #[.slice none 0 0, seq] w R := by
  refine ca101 none 0 0 seq w R ?_
  intro w0 e0
  have m0 : Mod no w w0 := by subst e0; exact Mod.alloc _ _
  have b0 : w0.heap[w.heap.size]? = some (.cells #[.slice none 0 0] 27 (0, 0)) := by subst e0; exact new_at _ _
  have s0 : w0.heap.size = w.heap.size + 1 := by subst e0; simp
  clear e0
  refine ⟨hseq.1, ?_⟩
  intro Rdy Bsy hrs hbs hrb w1 m1 s1 hr1 hy
  have b1 := Mod.at' m1 b0
  have hstab : Stab (Got w Rdy) := by
    constructor
    · rintro vs w1 w2 ⟨hr, xs, a, l, c, rfl, hb, hx, hn, hz⟩ hm
      obtain ⟨h1, r, h2⟩ := hrb w1 (.inl hr)
      exact ⟨hrs w1 w2 hr (by rw [hm.at' h1, h1]) (by rw [hm.at' h2, h2]), xs, a, l, c, rfl, hm.at' hb, hx.no hm, hn, Nat.le_trans hz hm.size⟩
    · rintro vs w1 w2 b o ⟨hr, xs, a, l, c, rfl, hb, hx, hn, hz⟩ hbo hit hm
      obtain ⟨h1, r, h2⟩ := hrb w1 (.inl hr)
      have hne : ∀ k o', w1.heap[k]? = some o' → isIt o' = false → ¬ on b k := by
        intro k o' hk hf e
        cases e
        rw [hbo] at hk
        cases hk
        rw [hit] at hf
        cases hf
      refine ⟨hrs w1 w2 hr (by rw [hm.at h1 (hne _ _ h1 rfl), h1]) (by rw [hm.at h2 (hne _ _ h2 rfl), h2]), xs, a, l, c, rfl, hm.at hb (hne _ _ hb rfl), hx.mod hm ?_, hn, Nat.le_trans hz hm.size⟩
      intro k hk2
      rcases Row.block hx with ⟨h0, _⟩ | ⟨g, cur, h0, hg, _⟩
      · subst h0; cases hk2
      · subst h0; cases hk2; exact hne _ _ hg rfl
  refine hseq.2 (Got w Rdy) _ w1 _ (Kp.of_no (m0.trans m1)) hstab ⟨hr1, [], none, 0, 0, rfl, b1, Row.empty _ _ _, (fun k hk => by cases hk), by omega⟩ ?_ ?_
  · rintro pre v w2 hk2 ⟨hr2, xs, a, l, c, rfl, hb2, hx2, hn2, hz2⟩ hlen ⟨x, rfl⟩ R' hR'
    refine (hy (.agg ⟨(bndL).cs x⟩) w2 (fun w3 => R' (.bool true) w3) hr2 ?_).mono fun v w3 ⟨hv, hR⟩ => by rw [hv]; exact hR
    intro w5 e5
    have n5 : Mod no w2 w5 := by subst e5; exact Mod.alloc _ _
    have b5 : w5.heap[w2.heap.size]? = some (.cells ([Value.string (ByteArray.mk #[]), Value.string (ByteArray.mk #[]), Value.string (ByteArray.mk #[])]).toArray 35 (0, 0)) := by subst e5; exact new_at _ _
    clear e5
    refine (stCells_var (vs := (bndL).cs x) b5 rfl (fun v hv => (bndL).one x v hv) fun wx nx bx => ?_ : stCells _ _ _ _ _)
    have n2x : Mod no w2 wx := n5.new nx fun k hk => by cases hk; exact Nat.le_refl _
    obtain ⟨g1, r, g2⟩ := hrb w2 (.inl hr2)
    refine ⟨hrs w2 wx hr2 (by rw [n2x.at' g1, g1]) (by rw [n2x.at' g2, g2]), fun w6 hbz m6 s6 => ?_⟩
    have hz5 := lt_of_heap bx
    have m26 : Mod (on (w0.heap.size + 1)) w2 w6 := n2x.no_trans m6
    have b6 := m26.at hb2 (show ¬ w.heap.size = w0.heap.size + 1 by omega)
    have v6 := m6.at bx (show ¬ w2.heap.size = w0.heap.size + 1 by omega)
    have x6 : Rx bndL 35 w6 a l c xs := hx2.mod m26 fun k hk hS => by cases hS; have := hn2 _ hk; omega
    have hxl := x6.len.1
    have hpl : (aggs xs).length = xs.length := List.length_map ..
    refine ⟨a, l, c, by rw [cl b6]; rfl, _, by rw [cl1 v6]; rfl, _, by rw [cl1 v6]; rfl, _, by rw [cl1 v6]; rfl, ?_⟩
    intro w10 e10
    have m10 : Mod no w6 w10 := by subst e10; exact Mod.alloc _ _
    have b10 : w10.heap[w6.heap.size]? = some (.cells ((bndL).cs x).toArray 35 (0, 0)) := by subst e10; exact new_at _ _
    clear e10
    obtain ⟨a', c', w12, hrun, x12, m12, hnew⟩ := Row.push (P := Tryz.prog) (t := 27) (ty := 27) (by kernel_rfl) (x6.no m10) (b := some ⟨w6.heap.size, 0, none⟩) (m := 1) (cc := 1) (ys := [x]) rfl
      (fun ad had j v hj => by cases had; rw [cl1 b10]; simpa using hj) (fun h => by cases h) (by omega)
    have hbox : ¬ rowB a w.heap.size := fun hk => by have := hn2 _ hk; omega
    have b12 := m12.at (m10.at' b6) hbox
    refine ⟨_, w12, hrun, _, _, _, rfl, ⟨_, by rw [cl1 b12]; rfl⟩, fz1 b12 _, ?_⟩
    intro w17 e17
    have m17 : Mod (on w.heap.size) w12 w17 := by subst e17; exact Mod.set1 _ _ _ _
    have b17 : w17.heap[w.heap.size]? = some (.cells #[.slice a' (l + 1) c'] 27 (0, 0)) := by subst e17; rw [set1 b12]; rfl
    clear e17
    have hs6 := m26.size
    have hs10 := m10.size
    have hnew' : ∀ k, rowB a' k → w.heap.size + 3 ≤ k := fun k hk => (hnew k hk).elim (hn2 k) fun h => by omega
    have x17 : Rx bndL 35 w17 a' (l + 1) c' (xs ++ [x]) := Rx.mod x12 m17 fun k hk e => by cases e; have := hnew' _ hk; omega
    have mA : Mod (fun k => rowB a k ∨ k = w.heap.size) w6 w17 := (m10.no_trans (m12.mono fun k _ hk => .inl hk)).trans' m17 fun k _ hk => .inr hk
    obtain ⟨h1, r', h2⟩ := hrb w6 (.inr hbz)
    have k1 : ¬ (rowB a w0.heap.size ∨ w0.heap.size = w.heap.size) := fun h => h.elim (fun h => by have := hn2 _ h; omega) (by omega)
    have k2 : ¬ (rowB a (w0.heap.size + 1) ∨ w0.heap.size + 1 = w.heap.size) := fun h => h.elim (fun h => by have := hn2 _ h; omega) (by omega)
    refine ⟨hbs w6 w17 hbz (by rw [mA.at h1 k1, h1]) (by rw [mA.at h2 k2, h2]), fun w3 hr3 m3 s3 => hR' w3 ?_ ?_⟩
    · have mB : Mod (fun k => k = w0.heap.size + 1 ∨ (rowB a k ∨ k = w.heap.size)) w2 w3 := ((m26.mono fun k _ hk => .inl hk).trans' mA fun k _ hk => .inr hk).trans' m3 fun k _ hk => .inl hk
      refine Kp.of_mod mB fun k o ho hk hS => ?_
      rcases hS with rfl | hS | rfl
      · rw [g2] at ho
        cases ho
        rcases hk with hk | hk
        · omega
        · cases hk
      · have := hn2 _ hS
        rcases hk with hk | hk
        · omega
        rcases Row.block hx2 with ⟨h0, _⟩ | ⟨g, cur, h0, hg, _⟩
        · subst h0; cases hS
        · subst h0
          cases hS
          rw [hg] at ho
          cases ho
          cases hk
      · rw [hb2] at ho
        cases ho
        rcases hk with hk | hk
        · omega
        · cases hk
    · refine ⟨hr3, xs ++ [x], a', l + 1, c', by simp [aggs], m3.at b17 (show ¬ w.heap.size = w0.heap.size + 1 by omega), x17.mod m3 fun k hk hS => by cases hS; have := hnew' _ hk; omega, hnew', ?_⟩
      have := mA.size
      omega
  · rintro w2 vs hS ⟨hr2, xs, a, l, c, rfl, hb2, hx2, hn2, hz2⟩ hk2
    refine ⟨hr2, fun w3 m3 s3 hd3 => ?_⟩
    have b3 := m3.at hb2 (by omega)
    have x3 : Rx bndL 35 w3 a l c xs := hx2.mod m3 fun k hk hS => by have := hn2 _ hk; omega
    refine ⟨a, l, c, by rw [cl b3]; rfl, hd3, ?_⟩
    intro w4 e4
    have m4 : Mod (on w0.heap.size) w3 w4 := by subst e4; exact Mod.putObj _ _ _
    refine h w4 a l c xs hS (x3.mod m4 fun k hk hS => by cases hS; have := hn2 _ hk; omega) ?_ fun k hk => by have := hn2 _ hk; omega
    exact (hk2.mod.new m3 fun k hS => by omega).new m4 fun k hS => by cases hS; omega
end Go.Proofs.YtehhhkcemmfjpaaGreatDoor.SeqB

/- The table's Exchanges and Bindings: sorted. -/
namespace Go.Proofs.YtehhhkcemmfjpaaGreatDoor
open Go Go.Proofs.YtehhhkcemmfjpaaGreatDoor Go.Proofs.YtehhhkcemmfjpaaGreatDoor.St

/-- The entries of a map, handed out one by one. -/
theorem values_seq (B : Nat) (w0 : World) (bx m : Nat) (t : TypeId) (D : List Exc) (hbx : w0.heap[bx]? = some (.cells #[.map (some m)] t (0, 0))) (hB : bx < B) (hm : XMap w0 m D) (hmB : m < B) (N : Nat) (hN : D.length ≤ N) :
    SeqOf Tryz.prog (.func (.func 77) #[] #[.pointer (some ⟨bx, 0, none⟩)]) B w0 N (fun v => ∃ x : Exc, v = .agg ⟨excL.cs x⟩) (fun xs => xs.Perm (SeqX.aggs D)) := by
  refine ⟨⟨_, _, _, rfl⟩, ?_⟩
  intro J y w R hk hst hJ hy hend
  refine (ca77 y (some ⟨bx, 0, none⟩) w R ?_ : Ca _ _ _ _ _)
  obtain ⟨es, clock, hes, hkv, hn, hc⟩ := hm
  have hes' := hk.old m _ hes (.inl hmB)
  refine ⟨some m, by rw [cl (hk.old bx _ hbx (.inl hB))]; rfl, es, clock, hes', ?_⟩
  intro w3 e3
  have m3 : Mod no w w3 := by subst e3; exact Mod.alloc _ _
  have b3 : w3.heap[w.heap.size]? = some (.mapIter (some m) clock #[] clock) := by subst e3; exact new_at _ _
  clear e3
  have hlen : D.length = es.toList.length := by
    have := congrArg List.length hkv
    simpa [kvL, exL] using this.symm
  have hkeys : es.toList.map (·.val) = SeqX.aggs D := by
    have := congrArg (List.map Prod.snd) hkv
    rw [List.map_map, kvL, exL, List.map_map, List.map_map] at this
    exact this
  have hkey : ∀ e ∈ es.toList, ∃ x : Exc, e.val = .agg ⟨excL.cs x⟩ := by
    intro e he
    have : e.val ∈ SeqX.aggs D := by rw [← hkeys]; exact List.mem_map_of_mem he
    obtain ⟨p, _, hp⟩ := List.mem_map.1 this
    exact ⟨p, hp.symm⟩
  refine ⟨fun w' => ∃ (seen : Array Nat) (c0 : Nat) (got : List MapEntry), w'.heap[w.heap.size]? = some (.mapIter (some m) clock seen c0) ∧ clock ≤ c0 ∧ (got ++ (leftOf es seen).toList).Perm es.toList ∧ J (got.map (·.val)) w' ∧ Kp B w0 w',
    fun w' => match w'.heap[w.heap.size]? with | some (.mapIter _ _ seen _) => (leftOf es seen).size | _ => 0, ⟨#[], clock, [], b3, Nat.le_refl _, by simp only [leftOf, Array.toList_filter, List.nil_append]; exact .of_eq (List.filter_eq_self.2 (by simp)), hst.1 _ _ _ hJ m3, hk.trans (Kp.of_no m3)⟩, ?_⟩
  rintro _ w7 ⟨seen, c0, got, hit, hcc, hperm, hJ7, hk7⟩
  have hm7 := hk7.old m _ hes (.inl hmB)
  rcases next_at (P := Tryz.prog) (ty := 0) hit hm7 hc hcc with ⟨h0, hrun⟩ | ⟨e, he, w8, hrun, m8, hit8⟩
  · refine ⟨_, w7, hrun, .inl ⟨rfl, hend w7 _ ?_ hJ7 hk7⟩⟩
    have : (leftOf es seen).toList = [] := List.eq_nil_of_length_eq_zero (by simpa using h0)
    rw [this, List.append_nil] at hperm
    rw [← hkeys]
    exact hperm.map _
  · refine ⟨_, w8, hrun, .inr ⟨_, _, rfl, ?_⟩⟩
    have hmem := (mem_left he).1
    have hk8 : Kp B w0 w8 := by
      refine ⟨m8.os.trans hk7.os, m8.tape.trans hk7.tape, m8.output.trans hk7.output, Nat.le_trans hk7.size m8.size, fun k o ho hko => m8.at (hk7.old k o ho hko) fun hS => ?_⟩
      cases hS
      have := lt_of_heap ho
      have := hk.size
      omega
    have hm8 := hk8.old m _ hes (.inl hmB)
    refine ⟨e.key, e.val, entry_at hit8 hm8 hmem hn, ?_⟩
    obtain ⟨x, hkk⟩ := hkey e hmem
    rw [hkk]
    have hJ8 := hst.2 _ _ _ _ _ hJ7 hit rfl m8
    have hll : got.length < D.length := by
      have h1 := hperm.length_eq
      have h2 : 0 < (leftOf es seen).toList.length := List.length_pos_of_mem he
      rw [List.length_append] at h1
      omega
    intro w11 e11
    have m11 : Mod no w8 w11 := by subst e11; exact Mod.alloc _ _
    have b11 : w11.heap[w8.heap.size]? = some (.cells [Value.string (ByteArray.mk #[]), Value.int .i64 0, Value.bool false].toArray 33 (0, 0)) := by subst e11; exact new_at _ _
    clear e11
    refine (stCells_var (vs := excL.cs x) b11 rfl (fun v hv => excL.one x v hv) fun w13 m13 b13 => ?_ : stCells _ _ _ _ _)
    have m813 : Mod no w8 w13 := m11.new m13 fun k hk => by cases hk; exact Nat.le_refl _
    refine ⟨_, by rw [cl1 b13]; rfl, _, by rw [cl1 b13]; rfl, _, by rw [cl1 b13]; rfl, ?_⟩
    refine hy _ (.agg ⟨excL.cs x⟩) w13 (hk8.trans (Kp.of_no m813)) (hst.1 _ _ _ hJ8 m813) (by simpa using (by omega : got.length < N)) ⟨x, rfl⟩ _ fun w15 hk15 hJ15 => ⟨true, rfl, ?_⟩
    refine ifK_of (fun h => by cases h) fun _ => ?_
    have hit15 := hk15.old _ _ (m813.at' hit8) (.inr rfl)
    refine ⟨⟨seen.push e.born, clock, got ++ [e], hit15, Nat.le_refl _, ?_, by rw [List.map_append]; simpa [hkk] using hJ15, (hk8.trans (Kp.of_no m813)).trans hk15⟩, ?_⟩
    · rw [List.append_assoc]
      exact ((List.Perm.append_left got (left_perm hn he)).symm).trans hperm
    · simp only [hit15, hit]
      exact left_shrinks es seen e he
/-- The entries of a map, handed out one by one. -/
theorem bkeys_seq (B : Nat) (w0 : World) (bx m : Nat) (t : TypeId) (D : List Bnd) (hbx : w0.heap[bx]? = some (.cells #[.map (some m)] t (0, 0))) (hB : bx < B) (hm : BMap w0 m D) (hmB : m < B) (N : Nat) (hN : D.length ≤ N) :
    SeqOf Tryz.prog (.func (.func 81) #[] #[.pointer (some ⟨bx, 0, none⟩)]) B w0 N (fun v => ∃ x : Bnd, v = .agg ⟨bndL.cs x⟩) (fun xs => xs.Perm (SeqB.aggs D)) := by
  refine ⟨⟨_, _, _, rfl⟩, ?_⟩
  intro J y w R hk hst hJ hy hend
  refine (ca81 y (some ⟨bx, 0, none⟩) w R ?_ : Ca _ _ _ _ _)
  obtain ⟨es, clock, hes, hkv, hn, hc⟩ := hm
  have hes' := hk.old m _ hes (.inl hmB)
  refine ⟨some m, by rw [cl (hk.old bx _ hbx (.inl hB))]; rfl, es, clock, hes', ?_⟩
  intro w3 e3
  have m3 : Mod no w w3 := by subst e3; exact Mod.alloc _ _
  have b3 : w3.heap[w.heap.size]? = some (.mapIter (some m) clock #[] clock) := by subst e3; exact new_at _ _
  clear e3
  have hlen : D.length = es.toList.length := by
    have := congrArg List.length hkv
    simpa [kvL, bnL] using this.symm
  have hkeys : es.toList.map (·.key) = SeqB.aggs D := by
    have := congrArg (List.map Prod.fst) hkv
    rw [List.map_map, kvL, bnL, List.map_map, List.map_map] at this
    exact this
  have hkey : ∀ e ∈ es.toList, ∃ x : Bnd, e.key = .agg ⟨bndL.cs x⟩ := by
    intro e he
    have : e.key ∈ SeqB.aggs D := by rw [← hkeys]; exact List.mem_map_of_mem he
    obtain ⟨p, _, hp⟩ := List.mem_map.1 this
    exact ⟨p, hp.symm⟩
  refine ⟨fun w' => ∃ (seen : Array Nat) (c0 : Nat) (got : List MapEntry), w'.heap[w.heap.size]? = some (.mapIter (some m) clock seen c0) ∧ clock ≤ c0 ∧ (got ++ (leftOf es seen).toList).Perm es.toList ∧ J (got.map (·.key)) w' ∧ Kp B w0 w',
    fun w' => match w'.heap[w.heap.size]? with | some (.mapIter _ _ seen _) => (leftOf es seen).size | _ => 0, ⟨#[], clock, [], b3, Nat.le_refl _, by simp only [leftOf, Array.toList_filter, List.nil_append]; exact .of_eq (List.filter_eq_self.2 (by simp)), hst.1 _ _ _ hJ m3, hk.trans (Kp.of_no m3)⟩, ?_⟩
  rintro _ w7 ⟨seen, c0, got, hit, hcc, hperm, hJ7, hk7⟩
  have hm7 := hk7.old m _ hes (.inl hmB)
  rcases next_at (P := Tryz.prog) (ty := 0) hit hm7 hc hcc with ⟨h0, hrun⟩ | ⟨e, he, w8, hrun, m8, hit8⟩
  · refine ⟨_, w7, hrun, .inl ⟨rfl, hend w7 _ ?_ hJ7 hk7⟩⟩
    have : (leftOf es seen).toList = [] := List.eq_nil_of_length_eq_zero (by simpa using h0)
    rw [this, List.append_nil] at hperm
    rw [← hkeys]
    exact hperm.map _
  · refine ⟨_, w8, hrun, .inr ⟨_, _, rfl, ?_⟩⟩
    have hmem := (mem_left he).1
    have hk8 : Kp B w0 w8 := by
      refine ⟨m8.os.trans hk7.os, m8.tape.trans hk7.tape, m8.output.trans hk7.output, Nat.le_trans hk7.size m8.size, fun k o ho hko => m8.at (hk7.old k o ho hko) fun hS => ?_⟩
      cases hS
      have := lt_of_heap ho
      have := hk.size
      omega
    have hm8 := hk8.old m _ hes (.inl hmB)
    refine ⟨e.key, e.val, entry_at hit8 hm8 hmem hn, ?_⟩
    obtain ⟨x, hkk⟩ := hkey e hmem
    rw [hkk]
    have hJ8 := hst.2 _ _ _ _ _ hJ7 hit rfl m8
    have hll : got.length < D.length := by
      have h1 := hperm.length_eq
      have h2 : 0 < (leftOf es seen).toList.length := List.length_pos_of_mem he
      rw [List.length_append] at h1
      omega
    intro w11 e11
    have m11 : Mod no w8 w11 := by subst e11; exact Mod.alloc _ _
    have b11 : w11.heap[w8.heap.size]? = some (.cells [Value.string (ByteArray.mk #[]), Value.string (ByteArray.mk #[]), Value.string (ByteArray.mk #[])].toArray 35 (0, 0)) := by subst e11; exact new_at _ _
    clear e11
    refine (stCells_var (vs := bndL.cs x) b11 rfl (fun v hv => bndL.one x v hv) fun w13 m13 b13 => ?_ : stCells _ _ _ _ _)
    have m813 : Mod no w8 w13 := m11.new m13 fun k hk => by cases hk; exact Nat.le_refl _
    refine ⟨_, by rw [cl1 b13]; rfl, _, by rw [cl1 b13]; rfl, _, by rw [cl1 b13]; rfl, ?_⟩
    refine hy _ (.agg ⟨bndL.cs x⟩) w13 (hk8.trans (Kp.of_no m813)) (hst.1 _ _ _ hJ8 m813) (by simpa using (by omega : got.length < N)) ⟨x, rfl⟩ _ fun w15 hk15 hJ15 => ⟨true, rfl, ?_⟩
    refine ifK_of (fun h => by cases h) fun _ => ?_
    have hit15 := hk15.old _ _ (m813.at' hit8) (.inr rfl)
    refine ⟨⟨seen.push e.born, clock, got ++ [e], hit15, Nat.le_refl _, ?_, by rw [List.map_append]; simpa [hkk] using hJ15, (hk8.trans (Kp.of_no m813)).trans hk15⟩, ?_⟩
    · rw [List.append_assoc]
      exact ((List.Perm.append_left got (left_perm hn he)).symm).trans hperm
    · simp only [hit15, hit]
      exact left_shrinks es seen e he

theorem perm_of {α β : Type} (f : α → β) (g : β → α) (hg : ∀ x, g (f x) = x) {xs ys : List α} (h : (xs.map f).Perm (ys.map f)) : xs.Perm ys := by
  have := h.map g
  rw [List.map_map, List.map_map, show g ∘ f = id from funext hg, List.map_id, List.map_id] at this
  exact this
def ke : Value → Exc
  | .agg ⟨[.string a, .int .i64 b, .bool c]⟩ => ⟨a, b, c⟩
  | _ => default
section
variable {w : World} {t m1 m2 : Nat} {D : List Exc} {B : List Bnd} (hT : Tbl w t m1 m2 D B)
include hT
theorem exchanges_ok (hl : D.length < 1000000000) (R : Value → World → Prop) (h : ∀ w' a l c xs, Rx excL 33 w' a l c xs → xs.Perm D → Srt xs 0 l → Mod no w w' → (∀ k, rowB a k → w.heap.size ≤ k) → R (.slice a l c) w') :
    Ca Tryz.prog 15 #[.pointer (some ⟨t, 0, none⟩)] w R := by
  refine ca15 (some ⟨t, 0, none⟩) w R ?_
  refine made_ok hT _ ⟨true, rfl, ifK_of (fun h => by cases h) fun _ => ?_⟩
  refine ⟨some m1, by rw [cl1 hT.cell]; rfl, ?_⟩
  refine ca46 (some m1) w _ ?_
  intro w1 e1
  have n1 : Mod no w w1 := by subst e1; exact Mod.alloc _ _
  have b1 : ∃ t, w1.heap[w.heap.size]? = some (.cells #[.map (some m1)] t (0, 0)) := by subst e1; exact ⟨_, new_at _ _⟩
  have s1 : w1.heap.size = w.heap.size + 1 := by subst e1; simp
  clear e1
  obtain ⟨t1, b1⟩ := b1
  have hT1 := hT.no n1
  have hm1 : m1 < w.heap.size := by obtain ⟨_, _, hh, _⟩ := hT.x; exact lt_of_heap hh
  refine ⟨_, rfl, ?_⟩
  refine ca45 _ _ w1 _ ?_
  refine ca75 _ w1 _ ?_
  refine SeqX.appendSeq_ok _ D.length _ w1 (by omega) (values_seq w1.heap.size w1 w.heap.size m1 t1 D b1 (by omega) hT1.x (by omega) D.length (Nat.le_refl _)) _ ?_
  intro w2 a l c xs hp hx n2 hn
  have hp : xs.Perm D := perm_of _ ke (fun _ => rfl) hp
  have hxl := hx.len.1
  have hpl := hp.length_eq
  refine ⟨a, l, c, rfl, a, l, c, rfl, ?_⟩
  refine SrtX.sort_ok _ cmpX a l c xs w2 hx (by omega) _ fun w3 ys hy hyp hsrt n3 => ⟨rfl, a, l, c, rfl, ?_⟩
  exact h w3 a l c ys hy (hyp.trans hp) hsrt (n1.trans (n2.new n3 fun k hk => by have := hn k hk; omega)) fun k hk => by have := hn k hk; omega
theorem bindings_ok (hl : B.length < 1000000000) (R : Value → World → Prop) (h : ∀ w' a l c xs, Rx bndL 35 w' a l c xs → xs.Perm B → Srt xs 0 l → Mod no w w' → (∀ k, rowB a k → w.heap.size ≤ k) → R (.slice a l c) w') :
    Ca Tryz.prog 16 #[.pointer (some ⟨t, 0, none⟩)] w R := by
  refine ca16 (some ⟨t, 0, none⟩) w R ?_
  refine made_ok hT _ ⟨true, rfl, ifK_of (fun h => by cases h) fun _ => ?_⟩
  refine ⟨some m2, by rw [cl1 hT.cell]; rfl, ?_⟩
  refine ca50 (some m2) w _ ?_
  intro w1 e1
  have n1 : Mod no w w1 := by subst e1; exact Mod.alloc _ _
  have b1 : ∃ t, w1.heap[w.heap.size]? = some (.cells #[.map (some m2)] t (0, 0)) := by subst e1; exact ⟨_, new_at _ _⟩
  have s1 : w1.heap.size = w.heap.size + 1 := by subst e1; simp
  clear e1
  obtain ⟨t1, b1⟩ := b1
  have hT1 := hT.no n1
  have hm1 : m2 < w.heap.size := by obtain ⟨_, _, hh, _⟩ := hT.b; exact lt_of_heap hh
  refine ⟨_, rfl, ?_⟩
  refine ca49 _ _ w1 _ ?_
  refine ca79 _ w1 _ ?_
  refine SeqB.appendSeq_ok _ B.length _ w1 (by omega) (bkeys_seq w1.heap.size w1 w.heap.size m2 t1 B b1 (by omega) hT1.b (by omega) B.length (Nat.le_refl _)) _ ?_
  intro w2 a l c xs hp hx n2 hn
  have hp : xs.Perm B := perm_of _ kb (fun _ => rfl) hp
  have hxl := hx.len.1
  have hpl := hp.length_eq
  refine ⟨a, l, c, rfl, a, l, c, rfl, ?_⟩
  refine SrtB.sort_ok _ cmpB a l c xs w2 hx (by omega) _ fun w3 ys hy hyp hsrt n3 => ⟨rfl, a, l, c, rfl, ?_⟩
  exact h w3 a l c ys hy (hyp.trans hp) hsrt (n1.trans (n2.new n3 fun k hk => by have := hn k hk; omega)) fun k hk => by have := hn k hk; omega
end
end Go.Proofs.YtehhhkcemmfjpaaGreatDoor

/- The formulas of functions, printed by a program of mine (gen.py) out of the translation. -/
namespace Go.Proofs.YtehhhkcemmfjpaaGreatDoor
open Go Go.Proofs.YtehhhkcemmfjpaaGreatDoor.St
set_option maxRecDepth 100000

/-- (*staith/bind.Table).Copy -/
noncomputable def C19 : Code := (Tryz.f19.body).getD .skip
def pl19 : Nat → Plan
  | 3 => (.quiet 0 (.quiet 1 (.quiet 2 (.quiet 3 (.quiet 5 (.quiet 6 (.quiet 7 (.quiet 8 (.eff 4 [8] (.eff 9 [] (.quiet 10 (.eff 11 [] (.quiet 12 .done)))))))))))))
  | _ => .done
def ls19 : Nat → List (Nat × LT) := fun _ => []
def W19 (t : Option Addr) (w : World) (R : Value → World → Prop) : Prop :=
  (Ca Tryz.prog (44) (Array.mk [Value.pointer t]) (w) (fun v0 => (fun w1 =>
    (∃ b2 : Bool, ((v0 = Value.bool b2) ∧ (ifK (!b2)
      (R (Value.pointer none) (w1))
      (atW (World.drew w1) (fun w3 =>
        (onP (t) (fun a4 =>
          (∃ p5 : Option Nat, ((World.cell? w3 (Addr.add a4 0) = some (Value.map p5)) ∧ (onP (t) (fun a6 =>
            (∃ p7 : Option Nat, ((World.cell? w3 (Addr.add a6 1) = some (Value.map p7)) ∧ (Ca Tryz.prog (54) (Array.mk [Value.map p5]) (w3) (fun v8 => (fun w9 =>
              (∃ p10 : Option Nat, ((v8 = Value.map p10) ∧ ((World.cell? w9 (Addr.add (Addr.add a6 1) 0) = some (Value.map p7)) ∧ (Ca Tryz.prog (55) (Array.mk [Value.map p7]) (w9) (fun v11 => (fun w12 =>
                (∃ p13 : Option Nat, ((v11 = Value.map p13) ∧ (atW (World.alloc w12 (Obj.cells (Array.mk [Value.map p10, Value.map p13]) 70 (0, 0))) (fun w14 =>
                  (R (Value.pointer (some (Addr.mk (Array.size (World.heap w12)) 0 none))) (w14)))))))))))))))))))))))))))))))
theorem ca19 (t : Option Addr) (w : World) (R : Value → World → Prop) (h : W19 t w R) : Ca Tryz.prog 19 ⟨[(.pointer t)]⟩ w R := by
  have h1 : Tryz.prog.follows .mixedOrders = true := by kernel_rfl
  have h2 : Tryz.f19.body = some C19 := by kernel_rfl
  have h3 : (Tryz.f19.name == "runtime.NumGoroutine") = false := by kernel_rfl
  have h6 : Tryz.f19.results.toList = [.tmp 2] := by kernel_rfl
  have h4 : Nat.ble 1 18 = true := by kernel_rfl
  have h5 : okCode 18 pl19 ls19 C19 0 = true := by kernel_rfl
  have e : W19 t w R = wpC none Tryz.prog 18 pl19 ls19 C19 0 (endP Tryz.prog [.tmp 2] R) (fr0 [(.pointer t)]) [] w := by kernel_rfl
  exact ca_of' (P := Tryz.prog) (g := 19) (fn := Tryz.f19) (c := C19) (m := 18) (rs := [.tmp 2]) (args := [(.pointer t)]) (pl := pl19) (ls := ls19) (w := w) (R := R) h1 Tryz.func19 h2 Tryz.ntmps19 h6 h3 h4 h5 (Eq.mp e h)

/-- maps.Clone[map[string]staith/api.Exchange,string,staith/api.Exchange] -/
noncomputable def C54 : Code := (Tryz.f54.body).getD .skip
def pl54 : Nat → Plan := fun _ => .done
def ls54 : Nat → List (Nat × LT) := fun _ => []
def W54 (m : Option Nat) (w : World) (R : Value → World → Prop) : Prop :=
  (ifK (Option.isNone m)
    (R (Value.map none) (w))
    False)
theorem ca54 (m : Option Nat) (w : World) (R : Value → World → Prop) (h : W54 m w R) : Ca Tryz.prog 54 ⟨[(.map m)]⟩ w R := by
  have h1 : Tryz.prog.follows .mixedOrders = true := by kernel_rfl
  have h2 : Tryz.f54.body = some C54 := by kernel_rfl
  have h3 : (Tryz.f54.name == "runtime.NumGoroutine") = false := by kernel_rfl
  have h6 : Tryz.f54.results.toList = [.tmp 2] := by kernel_rfl
  have h4 : Nat.ble 1 9 = true := by kernel_rfl
  have h5 : okCode 9 pl54 ls54 C54 0 = true := by kernel_rfl
  have e : W54 m w R = wpC none Tryz.prog 9 pl54 ls54 C54 0 (endP Tryz.prog [.tmp 2] R) (fr0 [(.map m)]) [] w := by kernel_rfl
  exact ca_of' (P := Tryz.prog) (g := 54) (fn := Tryz.f54) (c := C54) (m := 9) (rs := [.tmp 2]) (args := [(.map m)]) (pl := pl54) (ls := ls54) (w := w) (R := R) h1 Tryz.func54 h2 Tryz.ntmps54 h6 h3 h4 h5 (Eq.mp e h)

/-- maps.Clone[map[staith/api.Binding]struct{},staith/api.Binding,struct{}] -/
noncomputable def C55 : Code := (Tryz.f55.body).getD .skip
def pl55 : Nat → Plan := fun _ => .done
def ls55 : Nat → List (Nat × LT) := fun _ => []
def W55 (m : Option Nat) (w : World) (R : Value → World → Prop) : Prop :=
  (ifK (Option.isNone m)
    (R (Value.map none) (w))
    False)
theorem ca55 (m : Option Nat) (w : World) (R : Value → World → Prop) (h : W55 m w R) : Ca Tryz.prog 55 ⟨[(.map m)]⟩ w R := by
  have h1 : Tryz.prog.follows .mixedOrders = true := by kernel_rfl
  have h2 : Tryz.f55.body = some C55 := by kernel_rfl
  have h3 : (Tryz.f55.name == "runtime.NumGoroutine") = false := by kernel_rfl
  have h6 : Tryz.f55.results.toList = [.tmp 2] := by kernel_rfl
  have h4 : Nat.ble 1 9 = true := by kernel_rfl
  have h5 : okCode 9 pl55 ls55 C55 0 = true := by kernel_rfl
  have e : W55 m w R = wpC none Tryz.prog 9 pl55 ls55 C55 0 (endP Tryz.prog [.tmp 2] R) (fr0 [(.map m)]) [] w := by kernel_rfl
  exact ca_of' (P := Tryz.prog) (g := 55) (fn := Tryz.f55) (c := C55) (m := 9) (rs := [.tmp 2]) (args := [(.map m)]) (pl := pl55) (ls := ls55) (w := w) (R := R) h1 Tryz.func55 h2 Tryz.ntmps55 h6 h3 h4 h5 (Eq.mp e h)
end Go.Proofs.YtehhhkcemmfjpaaGreatDoor

/- The library's maps.Clone of the table's maps; Copy. -/
namespace Go.Proofs.YtehhhkcemmfjpaaGreatDoor
open Go Go.RowKit Go.Proofs.YtehhhkcemmfjpaaGreatDoor.St

theorem run_eqlIn_map {P : Program} (w : World) (d : Nat) (t k e : TypeId) (p : Option Nat) (h : P.underlying t = some (.map k e)) : (Op.equalIn (d + 1) t (.map p) (.map none)).run P w = .ok p.isNone w := by
  cases p <;> simp [Op.equalIn, run_underlying h]
theorem run_eql_map {P : Program} (w : World) (t k e : TypeId) (p : Option Nat) (h : P.underlying t = some (.map k e)) : (binOp .eql t (.map p) (.map none)).run P w = .ok (.bool p.isNone) w := by
  simp only [binOp]
  simp [show Op.equal t (.map p) (.map none) = Op.equalIn (9999 + 1) t (.map p) (.map none) from rfl, run_eqlIn_map w 9999 t k e p h]
theorem run_assert_map {P : Program} (w : World) (t xT k e : TypeId) (v : Value) (h : P.underlying t = some (.map k e)) : (Instr.typeAssert (.iface t v) xT t false).run P w = .ok v w := by
  simp [Instr.typeAssert, run_underlying h, go_sem, Result.andThen]
theorem run_clone {P : Program} (w : World) {r : Nat} {es : Array MapEntry} {clock : Nat} (t : TypeId) (hb : w.heap[r]? = some (.map es clock)) :
    (Extern.MapsClone.clone #[.iface t (.map (some r))]).run P w = .ok (.iface t (.map (some w.heap.size))) (w.alloc (.map es clock)) := by
  have e : Extern.MapsClone.clone #[.iface t (.map (some r))] = (getObj r >>= fun o => match o with
      | .map entries clock => (newObj (.map entries clock) >>= fun n => pure (.iface t (.map (some n))))
      | _ => stuck "maps.clone: a map expected") := rfl
  rw [e]
  simp [MapKept.run_getObj_map hb, Result.andThen, go_sem]

set_option maxRecDepth 100000 in
set_option maxHeartbeats 2000000 in
theorem cloneX_calls (b : Nat) (es : Array MapEntry) (clock : Nat) (w : World) (hb : w.heap[b]? = some (.map es clock)) :
    Calls Tryz.prog 54 #[.map (some b)] w fun e w' => e = .returned (.map (some w.heap.size)) ∧ w' = w.alloc (.map es clock) := by
  have mixed : Tryz.prog.follows .mixedOrders = true := by kernel_rfl
  have t4 := Tryz.underlying4
  have t20 := Tryz.underlying20
  have t63 := Tryz.underlying67
  have hq := fun w => run_eql_map (P := Tryz.prog) w 67 _ _ (some b) Tryz.underlying67
  go_enter Tryz.func54, Tryz.ntmps54
  go_wp2
  rw [run_callFunc_extern Tryz.func83 (by kernel_rfl) (by kernel_rfl) (by kernel_rfl) (e := Extern.MapsClone.clone) (by kernel_rfl), run_clone w 67 hb]
  simp only [Result.andThen]
  rw [Oper.upon_value]
  go_wp2
  rw [run_assert_map _ 67 20 _ _ _ Tryz.underlying67]
  simp only [Result.andThen]
  rw [Oper.upon_value]
  go_wp2
  go_ret
  exact ⟨rfl, rfl⟩
/-- A new map of the same entries. -/
theorem cloneX_ok (m : Nat) (w : World) (R : Value → World → Prop) (kvs : List (Value × Value)) (hm : MapAt w m kvs) (h : ∀ w', MapAt w' w.heap.size kvs → Mod no w w' → R (.map (some w.heap.size)) w') :
    Ca Tryz.prog 54 #[.map (some m)] w R := by
  obtain ⟨es, clock, hb, he, hn, hc⟩ := hm
  refine ⟨fun w => callFunc_run (c := C54) Tryz.func54 (by kernel_rfl) (by kernel_rfl) _ w, (cloneX_calls m es clock w hb).mono fun e w' ⟨h1, h2⟩ => ?_⟩
  subst h2
  exact ⟨_, h1, h _ ⟨es, clock, new_at _ _, he, hn, hc⟩ (Mod.alloc _ _)⟩

set_option maxRecDepth 100000 in
set_option maxHeartbeats 2000000 in
theorem cloneB_calls (b : Nat) (es : Array MapEntry) (clock : Nat) (w : World) (hb : w.heap[b]? = some (.map es clock)) :
    Calls Tryz.prog 55 #[.map (some b)] w fun e w' => e = .returned (.map (some w.heap.size)) ∧ w' = w.alloc (.map es clock) := by
  have mixed : Tryz.prog.follows .mixedOrders = true := by kernel_rfl
  have t4 := Tryz.underlying4
  have t20 := Tryz.underlying20
  have t63 := Tryz.underlying68
  have hq := fun w => run_eql_map (P := Tryz.prog) w 68 _ _ (some b) Tryz.underlying68
  go_enter Tryz.func55, Tryz.ntmps55
  go_wp2
  rw [run_callFunc_extern Tryz.func83 (by kernel_rfl) (by kernel_rfl) (by kernel_rfl) (e := Extern.MapsClone.clone) (by kernel_rfl), run_clone w 68 hb]
  simp only [Result.andThen]
  rw [Oper.upon_value]
  go_wp2
  rw [run_assert_map _ 68 20 _ _ _ Tryz.underlying68]
  simp only [Result.andThen]
  rw [Oper.upon_value]
  go_wp2
  go_ret
  exact ⟨rfl, rfl⟩
/-- A new map of the same entries. -/
theorem cloneB_ok (m : Nat) (w : World) (R : Value → World → Prop) (kvs : List (Value × Value)) (hm : MapAt w m kvs) (h : ∀ w', MapAt w' w.heap.size kvs → Mod no w w' → R (.map (some w.heap.size)) w') :
    Ca Tryz.prog 55 #[.map (some m)] w R := by
  obtain ⟨es, clock, hb, he, hn, hc⟩ := hm
  refine ⟨fun w => callFunc_run (c := C55) Tryz.func55 (by kernel_rfl) (by kernel_rfl) _ w, (cloneB_calls m es clock w hb).mono fun e w' ⟨h1, h2⟩ => ?_⟩
  subst h2
  exact ⟨_, h1, h _ ⟨es, clock, new_at _ _, he, hn, hc⟩ (Mod.alloc _ _)⟩
theorem copy_ok {w : World} {t m1 m2 : Nat} {D : List Exc} {B : List Bnd} (hT : Tbl w t m1 m2 D B) (R : Value → World → Prop)
    (h : ∀ w' t' k1 k2, Tbl w' t' k1 k2 D B → Mod no w w' → w.heap.size ≤ t' → w.heap.size ≤ k1 → w.heap.size ≤ k2 → R (.pointer (some ⟨t', 0, none⟩)) w') : Ca Tryz.prog 19 #[.pointer (some ⟨t, 0, none⟩)] w R := by
  refine ca19 (some ⟨t, 0, none⟩) w R ?_
  refine made_ok hT _ ⟨true, rfl, ifK_of (fun h => by cases h) fun _ => ?_⟩
  intro w3 e3
  have n3 : Mod no w w3 := by subst e3; exact Mod.drew _
  clear e3
  have hT3 := hT.no n3
  refine ⟨some m1, by rw [cl1 hT3.cell]; rfl, some m2, by rw [cl1 hT3.cell]; rfl, ?_⟩
  refine cloneX_ok m1 w3 _ _ hT3.x fun w9 hx9 n9 => ⟨_, rfl, ?_⟩
  have hT9 := hT3.no n9
  refine ⟨by rw [cl2 hT9.cell]; rfl, cloneB_ok m2 w9 _ _ hT9.b fun w12 hb12 n12 => ⟨_, rfl, ?_⟩⟩
  intro w14 e14
  have n14 : Mod no w12 w14 := by subst e14; exact Mod.alloc _ _
  have b14 : w14.heap[w12.heap.size]? = some (.cells #[.map (some w3.heap.size), .map (some w9.heap.size)] 70 (0, 0)) := by subst e14; exact new_at _ _
  clear e14
  have h1 := n3.size
  have h2 := hx9.lt
  have h3 := hb12.lt
  have h4 := n12.size
  have h5 := n9.size
  exact h w14 w12.heap.size w3.heap.size w9.heap.size ⟨b14, (hx9.mod n12 id).mod n14 id, hb12.mod n14 id, by omega, hT.dn, hT.bn⟩ (((n3.trans n9).trans n12).trans n14) (by omega) (by omega) (by omega)
end Go.Proofs.YtehhhkcemmfjpaaGreatDoor

/- The formulas of functions, printed by a program of mine (gen.py) out of the translation. -/
namespace Go.Proofs.YtehhhkcemmfjpaaGreatDoor
open Go Go.Proofs.YtehhhkcemmfjpaaGreatDoor.St
set_option maxRecDepth 100000

/-- staith/staithref05.letters -/
noncomputable def C97 : Code := (Tryz.f97.body).getD .skip
def pl97 : Nat → Plan := fun _ => .done
def ls97 : Nat → List (Nat × LT)
  | 3 => [(3, (.one (.int .i64)))]
  | 8 => [(0, .agg []), (36, (.one .bool))]
  | _ => []
def W97 (s : ByteArray) (w : World) (R : Value → World → Prop) : Prop :=
  (∃ z0 : Int → World → Prop, (∃ z1 : Int → World → Nat, ((z0 (0) (w)) ∧ (∀ (_ : Nat → Value), (∀ (x3 : Int), (∀ (w4 : World), ((z0 (x3) (w4)) → (ifK (decide (x3 < (↑(ByteArray.size s) : Int)))
    (((0 : Int) ≤ x3) ∧ (((x3 : Int) < (↑(ByteArray.size s) : Int)) ∧ (∃ z5 : Bool → World → Prop, ((ifK (decide (byteAt s (Int.toNat x3) ≥ 97))
      (ifK (decide (byteAt s (Int.toNat x3) ≤ 122))
        (z5 (!true) (w4))
        (ifK (decide (byteAt s (Int.toNat x3) ≥ 48))
          (ifK (decide (byteAt s (Int.toNat x3) ≤ 57))
            (z5 (!true) (w4))
            (ifK (byteAt s (Int.toNat x3) == 45)
              (z5 (!true) (w4))
              (z5 (!byteAt s (Int.toNat x3) == 95) (w4))))
          (ifK (byteAt s (Int.toNat x3) == 45)
            (z5 (!true) (w4))
            (z5 (!byteAt s (Int.toNat x3) == 95) (w4)))))
      (ifK (decide (byteAt s (Int.toNat x3) ≥ 48))
        (ifK (decide (byteAt s (Int.toNat x3) ≤ 57))
          (z5 (!true) (w4))
          (ifK (byteAt s (Int.toNat x3) == 45)
            (z5 (!true) (w4))
            (z5 (!byteAt s (Int.toNat x3) == 95) (w4))))
        (ifK (byteAt s (Int.toNat x3) == 45)
          (z5 (!true) (w4))
          (z5 (!byteAt s (Int.toNat x3) == 95) (w4))))) ∧ (∀ (_ : Nat → Value), (∀ (b7 : Bool), (∀ (w8 : World), ((z5 (b7) (w8)) → (ifK (b7)
      (R (Value.bool false) (w8))
      ((z0 (IntKind.wrap IntKind.i64 (x3 + 1)) (w8)) ∧ (z1 (IntKind.wrap IntKind.i64 (x3 + 1)) w8 < z1 x3 w4)))))))))))
    (R (Value.bool (decide ((↑(ByteArray.size s) : Int) > 0))) (w4))))))))))
theorem ca97 (s : ByteArray) (w : World) (R : Value → World → Prop) (h : W97 s w R) : Ca Tryz.prog 97 ⟨[(.string s)]⟩ w R := by
  have h1 : Tryz.prog.follows .mixedOrders = true := by kernel_rfl
  have h2 : Tryz.f97.body = some C97 := by kernel_rfl
  have h3 : (Tryz.f97.name == "runtime.NumGoroutine") = false := by kernel_rfl
  have h6 : Tryz.f97.results.toList = [.tmp 2] := by kernel_rfl
  have h4 : Nat.ble 1 40 = true := by kernel_rfl
  have h5 : okCode 40 pl97 ls97 C97 0 = true := by kernel_rfl
  have e : W97 s w R = wpC none Tryz.prog 40 pl97 ls97 C97 0 (endP Tryz.prog [.tmp 2] R) (fr0 [(.string s)]) [] w := by kernel_rfl
  exact ca_of' (P := Tryz.prog) (g := 97) (fn := Tryz.f97) (c := C97) (m := 40) (rs := [.tmp 2]) (args := [(.string s)]) (pl := pl97) (ls := ls97) (w := w) (R := R) h1 Tryz.func97 h2 Tryz.ntmps97 h6 h3 h4 h5 (Eq.mp e h)

/-- staith/staithref05.Words -/
noncomputable def C96 : Code := (Tryz.f96.body).getD .skip
def pl96 : Nat → Plan := fun _ => .done
def ls96 : Nat → List (Nat × LT)
  | 8 => [(3, (.one .slice)), (4, (.one .str)), (5, (.one (.int .i64)))]
  | _ => []
def W96 (s : ByteArray) (w : World) (R : Value → World → Prop) : Prop :=
  (ifK (ByteArray.toList s == ByteArray.toList (ByteArray.mk #[]))
    (R (Value.slice none 0 0) (w))
    (∃ z0 : Option Addr → Nat → Nat → ByteArray → Int → World → Prop, (∃ z1 : Option Addr → Nat → Nat → ByteArray → Int → World → Nat, ((z0 (none) (0) (0) (ByteArray.mk #[]) (0) (w)) ∧ (∀ (_ : Nat → Value), (∀ (p3 : Option Addr), (∀ (n4 : Nat), (∀ (n5 : Nat), (∀ (s6 : ByteArray), (∀ (x7 : Int), (∀ (w8 : World), ((z0 (p3) (n4) (n5) (s6) (x7) (w8)) → (ifK (decide (x7 < (↑(ByteArray.size s) : Int)))
      (((0 : Int) ≤ x7) ∧ (((x7 : Int) < (↑(ByteArray.size s) : Int)) ∧ (ifK (byteAt s (Int.toNat x7) == 46)
        (atW (World.alloc w8 (Obj.cells (Array.mk [Value.string s6]) 9 (0, 0))) (fun w9 =>
          (∃ v10 : Value, (∃ w11 : World, ((Sem.run Tryz.prog (Builtin.append_ (Array.mk [55, 55]) 55 (Array.mk [Value.slice p3 n4 n5, Value.slice (some (Addr.mk (Array.size (World.heap w8)) 0 none)) 1 1])) w9 = Result.ok v10 w11) ∧ (∃ p12 : Option Addr, (∃ n13 : Nat, (∃ n14 : Nat, ((v10 = Value.slice p12 n13 n14) ∧ ((z0 (p12) (n13) (n14) (ByteArray.mk #[]) (IntKind.wrap IntKind.i64 (x7 + 1)) (w11)) ∧ (z1 p12 n13 n14 (ByteArray.mk #[]) (IntKind.wrap IntKind.i64 (x7 + 1)) w11 < z1 p3 n4 n5 s6 x7 w8)))))))))))
        (((0 : Int) ≤ x7) ∧ (((x7 : Int) ≤ IntKind.wrap IntKind.i64 (x7 + 1)) ∧ (((IntKind.wrap IntKind.i64 (x7 + 1) : Int) ≤ (↑(ByteArray.size s) : Int)) ∧ ((ByteArray.size s6 + ByteArray.size (ByteArray.extract s (Int.toNat x7) (Int.toNat (IntKind.wrap IntKind.i64 (x7 + 1)))) ≤ 9223372036854775807) ∧ ((z0 (p3) (n4) (n5) (s6 ++ ByteArray.extract s (Int.toNat x7) (Int.toNat (IntKind.wrap IntKind.i64 (x7 + 1)))) (IntKind.wrap IntKind.i64 (x7 + 1)) (w8)) ∧ (z1 p3 n4 n5 (s6 ++ ByteArray.extract s (Int.toNat x7) (Int.toNat (IntKind.wrap IntKind.i64 (x7 + 1)))) (IntKind.wrap IntKind.i64 (x7 + 1)) w8 < z1 p3 n4 n5 s6 x7 w8)))))))))
      (atW (World.alloc w8 (Obj.cells (Array.mk [Value.string s6]) 9 (0, 0))) (fun w15 =>
        (∃ v16 : Value, (∃ w17 : World, ((Sem.run Tryz.prog (Builtin.append_ (Array.mk [55, 55]) 55 (Array.mk [Value.slice p3 n4 n5, Value.slice (some (Addr.mk (Array.size (World.heap w8)) 0 none)) 1 1])) w15 = Result.ok v16 w17) ∧ (∃ p18 : Option Addr, (∃ n19 : Nat, (∃ n20 : Nat, ((v16 = Value.slice p18 n19 n20) ∧ (R (Value.slice p18 n19 n20) (w17))))))))))))))))))))))))
theorem ca96 (s : ByteArray) (w : World) (R : Value → World → Prop) (h : W96 s w R) : Ca Tryz.prog 96 ⟨[(.string s)]⟩ w R := by
  have h1 : Tryz.prog.follows .mixedOrders = true := by kernel_rfl
  have h2 : Tryz.f96.body = some C96 := by kernel_rfl
  have h3 : (Tryz.f96.name == "runtime.NumGoroutine") = false := by kernel_rfl
  have h6 : Tryz.f96.results.toList = [.tmp 2] := by kernel_rfl
  have h4 : Nat.ble 1 33 = true := by kernel_rfl
  have h5 : okCode 33 pl96 ls96 C96 0 = true := by kernel_rfl
  have e : W96 s w R = wpC none Tryz.prog 33 pl96 ls96 C96 0 (endP Tryz.prog [.tmp 2] R) (fr0 [(.string s)]) [] w := by kernel_rfl
  exact ca_of' (P := Tryz.prog) (g := 96) (fn := Tryz.f96) (c := C96) (m := 33) (rs := [.tmp 2]) (args := [(.string s)]) (pl := pl96) (ls := ls96) (w := w) (R := R) h1 Tryz.func96 h2 Tryz.ntmps96 h6 h3 h4 h5 (Eq.mp e h)

/-- staith/staithref05.all -/
noncomputable def C93 : Code := (Tryz.f93.body).getD .skip
def pl93 : Nat → Plan := fun _ => .done
def ls93 : Nat → List (Nat × LT)
  | 7 => [(15, (.one (.int .i64)))]
  | _ => []
def W93 (s : ByteArray) (wild : Bool) (w : World) (R : Value → World → Prop) : Prop :=
  (ifK (decide ((↑(ByteArray.size s) : Int) > 60))
    (R (Value.bool false) (w))
    (Ca Tryz.prog (96) (Array.mk [Value.string s]) (w) (fun v0 => (fun w1 =>
      (∃ p2 : Option Addr, (∃ n3 : Nat, (∃ n4 : Nat, ((v0 = Value.slice p2 n3 n4) ∧ (∃ z5 : Int → World → Prop, (∃ z6 : Int → World → Nat, ((z5 (0) (w1)) ∧ (∀ (_ : Nat → Value), (∀ (x8 : Int), (∀ (w9 : World), ((z5 (x8) (w9)) → (ifK (decide (x8 < (↑n3 : Int)))
        (∃ a10 : Addr, ((p2 = some a10) ∧ (((0 : Int) ≤ x8) ∧ (((x8 : Int) < (↑n3 : Int)) ∧ (∃ s11 : ByteArray, ((World.cell? w9 (Addr.add a10 (Int.toNat x8 * 1)) = some (Value.string s11)) ∧ (Ca Tryz.prog (97) (Array.mk [Value.string s11]) (w9) (fun v12 => (fun w13 =>
          (∃ b14 : Bool, ((v12 = Value.bool b14) ∧ (ifK (!b14)
            (ifK (wild)
              (ifK (ByteArray.toList s11 == ByteArray.toList (ByteArray.mk #[42]))
                ((z5 (IntKind.wrap IntKind.i64 (x8 + 1)) (w13)) ∧ (z6 (IntKind.wrap IntKind.i64 (x8 + 1)) w13 < z6 x8 w9))
                (ifK (!ByteArray.toList s11 == ByteArray.toList (ByteArray.mk #[35]))
                  (R (Value.bool false) (w13))
                  ((z5 (IntKind.wrap IntKind.i64 (x8 + 1)) (w13)) ∧ (z6 (IntKind.wrap IntKind.i64 (x8 + 1)) w13 < z6 x8 w9))))
              (R (Value.bool false) (w13)))
            ((z5 (IntKind.wrap IntKind.i64 (x8 + 1)) (w13)) ∧ (z6 (IntKind.wrap IntKind.i64 (x8 + 1)) w13 < z6 x8 w9))))))))))))))
        (R (Value.bool (decide ((↑n3 : Int) ≤ 12))) (w9))))))))))))))))))
theorem ca93 (s : ByteArray) (wild : Bool) (w : World) (R : Value → World → Prop) (h : W93 s wild w R) : Ca Tryz.prog 93 ⟨[(.string s), (.bool wild)]⟩ w R := by
  have h1 : Tryz.prog.follows .mixedOrders = true := by kernel_rfl
  have h2 : Tryz.f93.body = some C93 := by kernel_rfl
  have h3 : (Tryz.f93.name == "runtime.NumGoroutine") = false := by kernel_rfl
  have h6 : Tryz.f93.results.toList = [.tmp 4] := by kernel_rfl
  have h4 : Nat.ble 2 38 = true := by kernel_rfl
  have h5 : okCode 38 pl93 ls93 C93 0 = true := by kernel_rfl
  have e : W93 s wild w R = wpC none Tryz.prog 38 pl93 ls93 C93 0 (endP Tryz.prog [.tmp 4] R) (fr0 [(.string s), (.bool wild)]) [] w := by kernel_rfl
  exact ca_of' (P := Tryz.prog) (g := 93) (fn := Tryz.f93) (c := C93) (m := 38) (rs := [.tmp 4]) (args := [(.string s), (.bool wild)]) (pl := pl93) (ls := ls93) (w := w) (R := R) h1 Tryz.func93 h2 Tryz.ntmps93 h6 h3 h4 h5 (Eq.mp e h)

/-- staith/staithref05.Name -/
noncomputable def C71 : Code := (Tryz.f71.body).getD .skip
def pl71 : Nat → Plan := fun _ => .done
def ls71 : Nat → List (Nat × LT) := fun _ => []
def W71 (s : ByteArray) (w : World) (R : Value → World → Prop) : Prop :=
  (ifK (decide ((↑(ByteArray.size s) : Int) ≤ 20))
    (Ca Tryz.prog (97) (Array.mk [Value.string s]) (w) (fun v0 => (fun w1 =>
      (∃ b2 : Bool, ((v0 = Value.bool b2) ∧ (R (Value.bool b2) (w1)))))))
    (R (Value.bool false) (w)))
theorem ca71 (s : ByteArray) (w : World) (R : Value → World → Prop) (h : W71 s w R) : Ca Tryz.prog 71 ⟨[(.string s)]⟩ w R := by
  have h1 : Tryz.prog.follows .mixedOrders = true := by kernel_rfl
  have h2 : Tryz.f71.body = some C71 := by kernel_rfl
  have h3 : (Tryz.f71.name == "runtime.NumGoroutine") = false := by kernel_rfl
  have h6 : Tryz.f71.results.toList = [.tmp 2] := by kernel_rfl
  have h4 : Nat.ble 1 10 = true := by kernel_rfl
  have h5 : okCode 10 pl71 ls71 C71 0 = true := by kernel_rfl
  have e : W71 s w R = wpC none Tryz.prog 10 pl71 ls71 C71 0 (endP Tryz.prog [.tmp 2] R) (fr0 [(.string s)]) [] w := by kernel_rfl
  exact ca_of' (P := Tryz.prog) (g := 71) (fn := Tryz.f71) (c := C71) (m := 10) (rs := [.tmp 2]) (args := [(.string s)]) (pl := pl71) (ls := ls71) (w := w) (R := R) h1 Tryz.func71 h2 Tryz.ntmps71 h6 h3 h4 h5 (Eq.mp e h)

/-- staith/staithref05.Key -/
noncomputable def C68 : Code := (Tryz.f68.body).getD .skip
def pl68 : Nat → Plan := fun _ => .done
def ls68 : Nat → List (Nat × LT) := fun _ => []
def W68 (s : ByteArray) (w : World) (R : Value → World → Prop) : Prop :=
  (Ca Tryz.prog (93) (Array.mk [Value.string s, Value.bool false]) (w) (fun v0 => (fun w1 =>
    (∃ b2 : Bool, ((v0 = Value.bool b2) ∧ (R (Value.bool b2) (w1)))))))
theorem ca68 (s : ByteArray) (w : World) (R : Value → World → Prop) (h : W68 s w R) : Ca Tryz.prog 68 ⟨[(.string s)]⟩ w R := by
  have h1 : Tryz.prog.follows .mixedOrders = true := by kernel_rfl
  have h2 : Tryz.f68.body = some C68 := by kernel_rfl
  have h3 : (Tryz.f68.name == "runtime.NumGoroutine") = false := by kernel_rfl
  have h6 : Tryz.f68.results.toList = [.tmp 2] := by kernel_rfl
  have h4 : Nat.ble 1 5 = true := by kernel_rfl
  have h5 : okCode 5 pl68 ls68 C68 0 = true := by kernel_rfl
  have e : W68 s w R = wpC none Tryz.prog 5 pl68 ls68 C68 0 (endP Tryz.prog [.tmp 2] R) (fr0 [(.string s)]) [] w := by kernel_rfl
  exact ca_of' (P := Tryz.prog) (g := 68) (fn := Tryz.f68) (c := C68) (m := 5) (rs := [.tmp 2]) (args := [(.string s)]) (pl := pl68) (ls := ls68) (w := w) (R := R) h1 Tryz.func68 h2 Tryz.ntmps68 h6 h3 h4 h5 (Eq.mp e h)

/-- staith/staithref05.Pattern -/
noncomputable def C94 : Code := (Tryz.f94.body).getD .skip
def pl94 : Nat → Plan := fun _ => .done
def ls94 : Nat → List (Nat × LT) := fun _ => []
def W94 (s : ByteArray) (w : World) (R : Value → World → Prop) : Prop :=
  (Ca Tryz.prog (93) (Array.mk [Value.string s, Value.bool true]) (w) (fun v0 => (fun w1 =>
    (∃ b2 : Bool, ((v0 = Value.bool b2) ∧ (R (Value.bool b2) (w1)))))))
theorem ca94 (s : ByteArray) (w : World) (R : Value → World → Prop) (h : W94 s w R) : Ca Tryz.prog 94 ⟨[(.string s)]⟩ w R := by
  have h1 : Tryz.prog.follows .mixedOrders = true := by kernel_rfl
  have h2 : Tryz.f94.body = some C94 := by kernel_rfl
  have h3 : (Tryz.f94.name == "runtime.NumGoroutine") = false := by kernel_rfl
  have h6 : Tryz.f94.results.toList = [.tmp 2] := by kernel_rfl
  have h4 : Nat.ble 1 5 = true := by kernel_rfl
  have h5 : okCode 5 pl94 ls94 C94 0 = true := by kernel_rfl
  have e : W94 s w R = wpC none Tryz.prog 5 pl94 ls94 C94 0 (endP Tryz.prog [.tmp 2] R) (fr0 [(.string s)]) [] w := by kernel_rfl
  exact ca_of' (P := Tryz.prog) (g := 94) (fn := Tryz.f94) (c := C94) (m := 5) (rs := [.tmp 2]) (args := [(.string s)]) (pl := pl94) (ls := ls94) (w := w) (R := R) h1 Tryz.func94 h2 Tryz.ntmps94 h6 h3 h4 h5 (Eq.mp e h)

/-- staith/staithref07.Good -/
noncomputable def C37 : Code := (Tryz.f37.body).getD .skip
def pl37 : Nat → Plan := fun _ => .done
def ls37 : Nat → List (Nat × LT) := fun _ => []
def W37 (x0_ : ByteArray) (x1_ : Int) (x2_ : Bool) (w : World) (R : Value → World → Prop) : Prop :=
  (atW (World.alloc w (Obj.cells (Array.mk [Value.string x0_, Value.int IntKind.i64 x1_, Value.bool x2_]) 33 (0, 0))) (fun w0 =>
    (∃ s1 : ByteArray, ((World.cell? w0 (Addr.add (Addr.mk (Array.size (World.heap w)) 0 none) 0) = some (Value.string s1)) ∧ (Ca Tryz.prog (71) (Array.mk [Value.string s1]) (w0) (fun v2 => (fun w3 =>
      (∃ b4 : Bool, ((v2 = Value.bool b4) ∧ (ifK (b4)
        (∃ x5 : Int, ((World.cell? w3 (Addr.add (Addr.mk (Array.size (World.heap w)) 0 none) 1) = some (Value.int IntKind.i64 x5)) ∧ (ifK (decide (x5 ≥ 1))
          (∃ x6 : Int, ((World.cell? w3 (Addr.add (Addr.mk (Array.size (World.heap w)) 0 none) 1) = some (Value.int IntKind.i64 x6)) ∧ (R (Value.bool (decide (x6 ≤ 3))) (w3))))
          (R (Value.bool false) (w3)))))
        (R (Value.bool false) (w3))))))))))))
theorem ca37 (x0_ : ByteArray) (x1_ : Int) (x2_ : Bool) (w : World) (R : Value → World → Prop) (h : W37 x0_ x1_ x2_ w R) : Ca Tryz.prog 37 ⟨[(.agg ⟨[(.string x0_), (.int .i64 x1_), (.bool x2_)]⟩)]⟩ w R := by
  have h1 : Tryz.prog.follows .mixedOrders = true := by kernel_rfl
  have h2 : Tryz.f37.body = some C37 := by kernel_rfl
  have h3 : (Tryz.f37.name == "runtime.NumGoroutine") = false := by kernel_rfl
  have h6 : Tryz.f37.results.toList = [.tmp 2] := by kernel_rfl
  have h4 : Nat.ble 1 16 = true := by kernel_rfl
  have h5 : okCode 16 pl37 ls37 C37 0 = true := by kernel_rfl
  have e : W37 x0_ x1_ x2_ w R = wpC none Tryz.prog 16 pl37 ls37 C37 0 (endP Tryz.prog [.tmp 2] R) (fr0 [(.agg ⟨[(.string x0_), (.int .i64 x1_), (.bool x2_)]⟩)]) [] w := by kernel_rfl
  exact ca_of' (P := Tryz.prog) (g := 37) (fn := Tryz.f37) (c := C37) (m := 16) (rs := [.tmp 2]) (args := [(.agg ⟨[(.string x0_), (.int .i64 x1_), (.bool x2_)]⟩)]) (pl := pl37) (ls := ls37) (w := w) (R := R) h1 Tryz.func37 h2 Tryz.ntmps37 h6 h3 h4 h5 (Eq.mp e h)

/-- (*staith/staithref07.Table).Find -/
noncomputable def C43 : Code := (Tryz.f43.body).getD .skip
def pl43 : Nat → Plan := fun _ => .done
def ls43 : Nat → List (Nat × LT)
  | 3 => [(13, (.one (.int .i64)))]
  | _ => []
def W43 (t : Option Addr) (name : ByteArray) (w : World) (R : Value → World → Prop) : Prop :=
  (atW (World.alloc w (Obj.cells (Array.mk [Value.string (ByteArray.mk #[]), Value.int IntKind.i64 0, Value.bool false]) 33 (0, 0))) (fun w0 =>
    (onP (t) (fun a1 =>
      (∃ p2 : Option Addr, (∃ n3 : Nat, (∃ n4 : Nat, ((World.cell? w0 (Addr.add a1 0) = some (Value.slice p2 n3 n4)) ∧ (∃ z5 : Int → World → Prop, (∃ z6 : Int → World → Nat, ((z5 (0) (w0)) ∧ (∀ (_ : Nat → Value), (∀ (x8 : Int), (∀ (w9 : World), ((z5 (x8) (w9)) → (ifK (decide (x8 < (↑n3 : Int)))
        (∃ a10 : Addr, ((p2 = some a10) ∧ (((0 : Int) ≤ x8) ∧ (((x8 : Int) < (↑n3 : Int)) ∧ (∃ s11 : ByteArray, ((World.cell? w9 (Addr.add (Addr.add a10 (Int.toNat x8 * 3)) 0) = some (Value.string s11)) ∧ (∃ x12 : Int, ((World.cell? w9 (Addr.add (Addr.add a10 (Int.toNat x8 * 3)) 1) = some (Value.int IntKind.i64 x12)) ∧ (∃ b13 : Bool, ((World.cell? w9 (Addr.add (Addr.add a10 (Int.toNat x8 * 3)) 2) = some (Value.bool b13)) ∧ (atW (World.alloc w9 (Obj.cells (Array.mk [Value.string (ByteArray.mk #[]), Value.int IntKind.i64 0, Value.bool false]) 33 (0, 0))) (fun w14 =>
          ((∃ v15 : Value, (World.cell? w14 (Addr.add (Addr.mk (Array.size (World.heap w9)) 0 none) 0) = some v15)) ∧ ((World.frozen? w14 (Addr.add (Addr.mk (Array.size (World.heap w9)) 0 none) 0) = false) ∧ (atW (World.setCell w14 (Addr.add (Addr.mk (Array.size (World.heap w9)) 0 none) 0) (Value.string s11)) (fun w16 =>
            ((∃ v17 : Value, (World.cell? w16 (Addr.add (Addr.mk (Array.size (World.heap w9)) 0 none) 1) = some v17)) ∧ ((World.frozen? w16 (Addr.add (Addr.mk (Array.size (World.heap w9)) 0 none) 1) = false) ∧ (atW (World.setCell w16 (Addr.add (Addr.mk (Array.size (World.heap w9)) 0 none) 1) (Value.int IntKind.i64 x12)) (fun w18 =>
              ((∃ v19 : Value, (World.cell? w18 (Addr.add (Addr.mk (Array.size (World.heap w9)) 0 none) 2) = some v19)) ∧ ((World.frozen? w18 (Addr.add (Addr.mk (Array.size (World.heap w9)) 0 none) 2) = false) ∧ (atW (World.setCell w18 (Addr.add (Addr.mk (Array.size (World.heap w9)) 0 none) 2) (Value.bool b13)) (fun w20 =>
                (∃ s21 : ByteArray, ((World.cell? w20 (Addr.add (Addr.mk (Array.size (World.heap w9)) 0 none) 0) = some (Value.string s21)) ∧ (ifK (ByteArray.toList s21 == ByteArray.toList name)
                  (∃ s22 : ByteArray, ((World.cell? w20 (Addr.add (Addr.mk (Array.size (World.heap w9)) 0 none) 0) = some (Value.string s22)) ∧ (∃ x23 : Int, ((World.cell? w20 (Addr.add (Addr.mk (Array.size (World.heap w9)) 0 none) 1) = some (Value.int IntKind.i64 x23)) ∧ (∃ b24 : Bool, ((World.cell? w20 (Addr.add (Addr.mk (Array.size (World.heap w9)) 0 none) 2) = some (Value.bool b24)) ∧ ((∃ v25 : Value, (World.cell? w20 (Addr.add (Addr.mk (Array.size (World.heap w)) 0 none) 0) = some v25)) ∧ ((World.frozen? w20 (Addr.add (Addr.mk (Array.size (World.heap w)) 0 none) 0) = false) ∧ (atW (World.setCell w20 (Addr.add (Addr.mk (Array.size (World.heap w)) 0 none) 0) (Value.string s22)) (fun w26 =>
                    ((∃ v27 : Value, (World.cell? w26 (Addr.add (Addr.mk (Array.size (World.heap w)) 0 none) 1) = some v27)) ∧ ((World.frozen? w26 (Addr.add (Addr.mk (Array.size (World.heap w)) 0 none) 1) = false) ∧ (atW (World.setCell w26 (Addr.add (Addr.mk (Array.size (World.heap w)) 0 none) 1) (Value.int IntKind.i64 x23)) (fun w28 =>
                      ((∃ v29 : Value, (World.cell? w28 (Addr.add (Addr.mk (Array.size (World.heap w)) 0 none) 2) = some v29)) ∧ ((World.frozen? w28 (Addr.add (Addr.mk (Array.size (World.heap w)) 0 none) 2) = false) ∧ (atW (World.setCell w28 (Addr.add (Addr.mk (Array.size (World.heap w)) 0 none) 2) (Value.bool b24)) (fun w30 =>
                        (∃ s31 : ByteArray, ((World.cell? w30 (Addr.add (Addr.mk (Array.size (World.heap w)) 0 none) 0) = some (Value.string s31)) ∧ (∃ x32 : Int, ((World.cell? w30 (Addr.add (Addr.mk (Array.size (World.heap w)) 0 none) 1) = some (Value.int IntKind.i64 x32)) ∧ (∃ b33 : Bool, ((World.cell? w30 (Addr.add (Addr.mk (Array.size (World.heap w)) 0 none) 2) = some (Value.bool b33)) ∧ (R (Value.tuple (Array.mk [Value.agg (Array.mk (List.reverse [Value.bool b33, Value.int IntKind.i64 x32, Value.string s31])), Value.bool true])) (w30))))))))))))))))))))))))))
                  ((z5 (IntKind.wrap IntKind.i64 (x8 + 1)) (w20)) ∧ (z6 (IntKind.wrap IntKind.i64 (x8 + 1)) w20 < z6 x8 w9)))))))))))))))))))))))))))))
        ((∃ v34 : Value, (World.cell? w9 (Addr.add (Addr.mk (Array.size (World.heap w)) 0 none) 0) = some v34)) ∧ ((World.frozen? w9 (Addr.add (Addr.mk (Array.size (World.heap w)) 0 none) 0) = false) ∧ (atW (World.setCell w9 (Addr.add (Addr.mk (Array.size (World.heap w)) 0 none) 0) (Value.string (ByteArray.mk #[]))) (fun w35 =>
          ((∃ v36 : Value, (World.cell? w35 (Addr.add (Addr.mk (Array.size (World.heap w)) 0 none) 1) = some v36)) ∧ ((World.frozen? w35 (Addr.add (Addr.mk (Array.size (World.heap w)) 0 none) 1) = false) ∧ (atW (World.setCell w35 (Addr.add (Addr.mk (Array.size (World.heap w)) 0 none) 1) (Value.int IntKind.i64 0)) (fun w37 =>
            ((∃ v38 : Value, (World.cell? w37 (Addr.add (Addr.mk (Array.size (World.heap w)) 0 none) 2) = some v38)) ∧ ((World.frozen? w37 (Addr.add (Addr.mk (Array.size (World.heap w)) 0 none) 2) = false) ∧ (atW (World.setCell w37 (Addr.add (Addr.mk (Array.size (World.heap w)) 0 none) 2) (Value.bool false)) (fun w39 =>
              (∃ s40 : ByteArray, ((World.cell? w39 (Addr.add (Addr.mk (Array.size (World.heap w)) 0 none) 0) = some (Value.string s40)) ∧ (∃ x41 : Int, ((World.cell? w39 (Addr.add (Addr.mk (Array.size (World.heap w)) 0 none) 1) = some (Value.int IntKind.i64 x41)) ∧ (∃ b42 : Bool, ((World.cell? w39 (Addr.add (Addr.mk (Array.size (World.heap w)) 0 none) 2) = some (Value.bool b42)) ∧ (R (Value.tuple (Array.mk [Value.agg (Array.mk (List.reverse [Value.bool b42, Value.int IntKind.i64 x41, Value.string s40])), Value.bool false])) (w39))))))))))))))))))))))))))))))))))))
theorem ca43 (t : Option Addr) (name : ByteArray) (w : World) (R : Value → World → Prop) (h : W43 t name w R) : Ca Tryz.prog 43 ⟨[(.pointer t), (.string name)]⟩ w R := by
  have h1 : Tryz.prog.follows .mixedOrders = true := by kernel_rfl
  have h2 : Tryz.f43.body = some C43 := by kernel_rfl
  have h3 : (Tryz.f43.name == "runtime.NumGoroutine") = false := by kernel_rfl
  have h6 : Tryz.f43.results.toList = [.cell 4 33, .tmp 5] := by kernel_rfl
  have h4 : Nat.ble 2 24 = true := by kernel_rfl
  have h5 : okCode 24 pl43 ls43 C43 0 = true := by kernel_rfl
  have e : W43 t name w R = wpC none Tryz.prog 24 pl43 ls43 C43 0 (endP Tryz.prog [.cell 4 33, .tmp 5] R) (fr0 [(.pointer t), (.string name)]) [] w := by kernel_rfl
  exact ca_of' (P := Tryz.prog) (g := 43) (fn := Tryz.f43) (c := C43) (m := 24) (rs := [.cell 4 33, .tmp 5]) (args := [(.pointer t), (.string name)]) (pl := pl43) (ls := ls43) (w := w) (R := R) h1 Tryz.func43 h2 Tryz.ntmps43 h6 h3 h4 h5 (Eq.mp e h)

/-- (*staith/staithref07.Table).Has -/
noncomputable def C20 : Code := (Tryz.f20.body).getD .skip
def pl20 : Nat → Plan := fun _ => .done
def ls20 : Nat → List (Nat × LT)
  | 3 => [(12, (.one (.int .i64)))]
  | _ => []
def W20 (t : Option Addr) (b0_ : ByteArray) (b1_ : ByteArray) (b2_ : ByteArray) (w : World) (R : Value → World → Prop) : Prop :=
  (atW (World.alloc w (Obj.cells (Array.mk [Value.string b0_, Value.string b1_, Value.string b2_]) 35 (0, 0))) (fun w0 =>
    (onP (t) (fun a1 =>
      (∃ p2 : Option Addr, (∃ n3 : Nat, (∃ n4 : Nat, ((World.cell? w0 (Addr.add a1 1) = some (Value.slice p2 n3 n4)) ∧ (∃ z5 : Int → World → Prop, (∃ z6 : Int → World → Nat, ((z5 (0) (w0)) ∧ (∀ (_ : Nat → Value), (∀ (x8 : Int), (∀ (w9 : World), ((z5 (x8) (w9)) → (ifK (decide (x8 < (↑n3 : Int)))
        (∃ a10 : Addr, ((p2 = some a10) ∧ (((0 : Int) ≤ x8) ∧ (((x8 : Int) < (↑n3 : Int)) ∧ (∃ s11 : ByteArray, ((World.cell? w9 (Addr.add (Addr.add a10 (Int.toNat x8 * 3)) 0) = some (Value.string s11)) ∧ (∃ s12 : ByteArray, ((World.cell? w9 (Addr.add (Addr.add a10 (Int.toNat x8 * 3)) 1) = some (Value.string s12)) ∧ (∃ s13 : ByteArray, ((World.cell? w9 (Addr.add (Addr.add a10 (Int.toNat x8 * 3)) 2) = some (Value.string s13)) ∧ (atW (World.alloc w9 (Obj.cells (Array.mk [Value.string (ByteArray.mk #[]), Value.string (ByteArray.mk #[]), Value.string (ByteArray.mk #[])]) 35 (0, 0))) (fun w14 =>
          ((∃ v15 : Value, (World.cell? w14 (Addr.add (Addr.mk (Array.size (World.heap w9)) 0 none) 0) = some v15)) ∧ ((World.frozen? w14 (Addr.add (Addr.mk (Array.size (World.heap w9)) 0 none) 0) = false) ∧ (atW (World.setCell w14 (Addr.add (Addr.mk (Array.size (World.heap w9)) 0 none) 0) (Value.string s11)) (fun w16 =>
            ((∃ v17 : Value, (World.cell? w16 (Addr.add (Addr.mk (Array.size (World.heap w9)) 0 none) 1) = some v17)) ∧ ((World.frozen? w16 (Addr.add (Addr.mk (Array.size (World.heap w9)) 0 none) 1) = false) ∧ (atW (World.setCell w16 (Addr.add (Addr.mk (Array.size (World.heap w9)) 0 none) 1) (Value.string s12)) (fun w18 =>
              ((∃ v19 : Value, (World.cell? w18 (Addr.add (Addr.mk (Array.size (World.heap w9)) 0 none) 2) = some v19)) ∧ ((World.frozen? w18 (Addr.add (Addr.mk (Array.size (World.heap w9)) 0 none) 2) = false) ∧ (atW (World.setCell w18 (Addr.add (Addr.mk (Array.size (World.heap w9)) 0 none) 2) (Value.string s13)) (fun w20 =>
                (∃ s21 : ByteArray, ((World.cell? w20 (Addr.add (Addr.mk (Array.size (World.heap w9)) 0 none) 0) = some (Value.string s21)) ∧ (∃ s22 : ByteArray, ((World.cell? w20 (Addr.add (Addr.mk (Array.size (World.heap w9)) 0 none) 1) = some (Value.string s22)) ∧ (∃ s23 : ByteArray, ((World.cell? w20 (Addr.add (Addr.mk (Array.size (World.heap w9)) 0 none) 2) = some (Value.string s23)) ∧ (∃ s24 : ByteArray, ((World.cell? w20 (Addr.add (Addr.mk (Array.size (World.heap w)) 0 none) 0) = some (Value.string s24)) ∧ (∃ s25 : ByteArray, ((World.cell? w20 (Addr.add (Addr.mk (Array.size (World.heap w)) 0 none) 1) = some (Value.string s25)) ∧ (∃ s26 : ByteArray, ((World.cell? w20 (Addr.add (Addr.mk (Array.size (World.heap w)) 0 none) 2) = some (Value.string s26)) ∧ (eqA Tryz.prog 35 (Value.agg (Array.mk (List.reverse [Value.string s23, Value.string s22, Value.string s21]))) (Value.agg (Array.mk (List.reverse [Value.string s26, Value.string s25, Value.string s24]))) (w20) (fun b27 => (fun w28 =>
                  (ifK (b27)
                    (R (Value.bool true) (w28))
                    ((z5 (IntKind.wrap IntKind.i64 (x8 + 1)) (w28)) ∧ (z6 (IntKind.wrap IntKind.i64 (x8 + 1)) w28 < z6 x8 w9))))))))))))))))))))))))))))))))))))))))))
        (R (Value.bool false) (w9))))))))))))))))))
theorem ca20 (t : Option Addr) (b0_ : ByteArray) (b1_ : ByteArray) (b2_ : ByteArray) (w : World) (R : Value → World → Prop) (h : W20 t b0_ b1_ b2_ w R) : Ca Tryz.prog 20 ⟨[(.pointer t), (.agg ⟨[(.string b0_), (.string b1_), (.string b2_)]⟩)]⟩ w R := by
  have h1 : Tryz.prog.follows .mixedOrders = true := by kernel_rfl
  have h2 : Tryz.f20.body = some C20 := by kernel_rfl
  have h3 : (Tryz.f20.name == "runtime.NumGoroutine") = false := by kernel_rfl
  have h6 : Tryz.f20.results.toList = [.tmp 4] := by kernel_rfl
  have h4 : Nat.ble 2 20 = true := by kernel_rfl
  have h5 : okCode 20 pl20 ls20 C20 0 = true := by kernel_rfl
  have e : W20 t b0_ b1_ b2_ w R = wpC none Tryz.prog 20 pl20 ls20 C20 0 (endP Tryz.prog [.tmp 4] R) (fr0 [(.pointer t), (.agg ⟨[(.string b0_), (.string b1_), (.string b2_)]⟩)]) [] w := by kernel_rfl
  exact ca_of' (P := Tryz.prog) (g := 20) (fn := Tryz.f20) (c := C20) (m := 20) (rs := [.tmp 4]) (args := [(.pointer t), (.agg ⟨[(.string b0_), (.string b1_), (.string b2_)]⟩)]) (pl := pl20) (ls := ls20) (w := w) (R := R) h1 Tryz.func20 h2 Tryz.ntmps20 h6 h3 h4 h5 (Eq.mp e h)

/-- staith/staithref07.may -/
noncomputable def C72 : Code := (Tryz.f72.body).getD .skip
def pl72 : Nat → Plan := fun _ => .done
def ls72 : Nat → List (Nat × LT) := fun _ => []
def W72 (kind : Int) (pattern : ByteArray) (w : World) (R : Value → World → Prop) : Prop :=
  (ifK (kind == 1)
    (Ca Tryz.prog (68) (Array.mk [Value.string pattern]) (w) (fun v0 => (fun w1 =>
      (∃ b2 : Bool, ((v0 = Value.bool b2) ∧ (R (Value.bool b2) (w1)))))))
    (ifK (kind == 2)
      (R (Value.bool (ByteArray.toList pattern == ByteArray.toList (ByteArray.mk #[]))) (w))
      (Ca Tryz.prog (94) (Array.mk [Value.string pattern]) (w) (fun v3 => (fun w4 =>
        (∃ b5 : Bool, ((v3 = Value.bool b5) ∧ (R (Value.bool b5) (w4)))))))))
theorem ca72 (kind : Int) (pattern : ByteArray) (w : World) (R : Value → World → Prop) (h : W72 kind pattern w R) : Ca Tryz.prog 72 ⟨[(.int .i64 kind), (.string pattern)]⟩ w R := by
  have h1 : Tryz.prog.follows .mixedOrders = true := by kernel_rfl
  have h2 : Tryz.f72.body = some C72 := by kernel_rfl
  have h3 : (Tryz.f72.name == "runtime.NumGoroutine") = false := by kernel_rfl
  have h6 : Tryz.f72.results.toList = [.tmp 4] := by kernel_rfl
  have h4 : Nat.ble 2 16 = true := by kernel_rfl
  have h5 : okCode 16 pl72 ls72 C72 0 = true := by kernel_rfl
  have e : W72 kind pattern w R = wpC none Tryz.prog 16 pl72 ls72 C72 0 (endP Tryz.prog [.tmp 4] R) (fr0 [(.int .i64 kind), (.string pattern)]) [] w := by kernel_rfl
  exact ca_of' (P := Tryz.prog) (g := 72) (fn := Tryz.f72) (c := C72) (m := 16) (rs := [.tmp 4]) (args := [(.int .i64 kind), (.string pattern)]) (pl := pl72) (ls := ls72) (w := w) (R := R) h1 Tryz.func72 h2 Tryz.ntmps72 h6 h3 h4 h5 (Eq.mp e h)

/-- staith/staithref07.ahead -/
noncomputable def C73 : Code := (Tryz.f73.body).getD .skip
def pl73 : Nat → Plan := fun _ => .done
def ls73 : Nat → List (Nat × LT) := fun _ => []
def W73 (a0_ : ByteArray) (a1_ : ByteArray) (a2_ : ByteArray) (b0_ : ByteArray) (b1_ : ByteArray) (b2_ : ByteArray) (w : World) (R : Value → World → Prop) : Prop :=
  (atW (World.alloc w (Obj.cells (Array.mk [Value.string a0_, Value.string a1_, Value.string a2_]) 35 (0, 0))) (fun w0 =>
    (atW (World.alloc w0 (Obj.cells (Array.mk [Value.string b0_, Value.string b1_, Value.string b2_]) 35 (0, 0))) (fun w1 =>
      (∃ s2 : ByteArray, ((World.cell? w1 (Addr.add (Addr.mk (Array.size (World.heap w)) 0 none) 0) = some (Value.string s2)) ∧ (∃ s3 : ByteArray, ((World.cell? w1 (Addr.add (Addr.mk (Array.size (World.heap w0)) 0 none) 0) = some (Value.string s3)) ∧ (ifK (!ByteArray.toList s2 == ByteArray.toList s3)
        (∃ s4 : ByteArray, ((World.cell? w1 (Addr.add (Addr.mk (Array.size (World.heap w)) 0 none) 0) = some (Value.string s4)) ∧ (∃ s5 : ByteArray, ((World.cell? w1 (Addr.add (Addr.mk (Array.size (World.heap w0)) 0 none) 0) = some (Value.string s5)) ∧ (R (Value.bool (Op.bytesLess (ByteArray.toList s4) (ByteArray.toList s5))) (w1))))))
        (∃ s6 : ByteArray, ((World.cell? w1 (Addr.add (Addr.mk (Array.size (World.heap w)) 0 none) 1) = some (Value.string s6)) ∧ (∃ s7 : ByteArray, ((World.cell? w1 (Addr.add (Addr.mk (Array.size (World.heap w0)) 0 none) 1) = some (Value.string s7)) ∧ (ifK (!ByteArray.toList s6 == ByteArray.toList s7)
          (∃ s8 : ByteArray, ((World.cell? w1 (Addr.add (Addr.mk (Array.size (World.heap w)) 0 none) 1) = some (Value.string s8)) ∧ (∃ s9 : ByteArray, ((World.cell? w1 (Addr.add (Addr.mk (Array.size (World.heap w0)) 0 none) 1) = some (Value.string s9)) ∧ (R (Value.bool (Op.bytesLess (ByteArray.toList s8) (ByteArray.toList s9))) (w1))))))
          (∃ s10 : ByteArray, ((World.cell? w1 (Addr.add (Addr.mk (Array.size (World.heap w)) 0 none) 2) = some (Value.string s10)) ∧ (∃ s11 : ByteArray, ((World.cell? w1 (Addr.add (Addr.mk (Array.size (World.heap w0)) 0 none) 2) = some (Value.string s11)) ∧ (R (Value.bool (Op.bytesLess (ByteArray.toList s10) (ByteArray.toList s11))) (w1))))))))))))))))))))
theorem ca73 (a0_ : ByteArray) (a1_ : ByteArray) (a2_ : ByteArray) (b0_ : ByteArray) (b1_ : ByteArray) (b2_ : ByteArray) (w : World) (R : Value → World → Prop) (h : W73 a0_ a1_ a2_ b0_ b1_ b2_ w R) : Ca Tryz.prog 73 ⟨[(.agg ⟨[(.string a0_), (.string a1_), (.string a2_)]⟩), (.agg ⟨[(.string b0_), (.string b1_), (.string b2_)]⟩)]⟩ w R := by
  have h1 : Tryz.prog.follows .mixedOrders = true := by kernel_rfl
  have h2 : Tryz.f73.body = some C73 := by kernel_rfl
  have h3 : (Tryz.f73.name == "runtime.NumGoroutine") = false := by kernel_rfl
  have h6 : Tryz.f73.results.toList = [.tmp 4] := by kernel_rfl
  have h4 : Nat.ble 2 32 = true := by kernel_rfl
  have h5 : okCode 32 pl73 ls73 C73 0 = true := by kernel_rfl
  have e : W73 a0_ a1_ a2_ b0_ b1_ b2_ w R = wpC none Tryz.prog 32 pl73 ls73 C73 0 (endP Tryz.prog [.tmp 4] R) (fr0 [(.agg ⟨[(.string a0_), (.string a1_), (.string a2_)]⟩), (.agg ⟨[(.string b0_), (.string b1_), (.string b2_)]⟩)]) [] w := by kernel_rfl
  exact ca_of' (P := Tryz.prog) (g := 73) (fn := Tryz.f73) (c := C73) (m := 32) (rs := [.tmp 4]) (args := [(.agg ⟨[(.string a0_), (.string a1_), (.string a2_)]⟩), (.agg ⟨[(.string b0_), (.string b1_), (.string b2_)]⟩)]) (pl := pl73) (ls := ls73) (w := w) (R := R) h1 Tryz.func73 h2 Tryz.ntmps73 h6 h3 h4 h5 (Eq.mp e h)
end Go.Proofs.YtehhhkcemmfjpaaGreatDoor

/- The reference's functions on names and patterns (the ahead part is Ref's, for any seat). -/
namespace Go.Proofs.YtehhhkcemmfjpaaGreatDoor
open Go Go.Proofs.YtehhhkcemmfjpaaGreatDoor Go.Proofs.YtehhhkcemmfjpaaGreatDoor.St

theorem plainB_eq (s : ByteArray) : plainB s = (lettersB s && decide (s.size > 0)) := by
  unfold plainB
  congr 1
  rw [byteArray_toList, byteArray_toList]
  have : s.size = s.data.toList.length := Array.length_toList.symm
  rw [this]
  cases s.data.toList with
  | nil => rfl
  | cons x r => exact (decide_eq_true (Nat.succ_pos _)).symm

theorem letters_ok (s : ByteArray) (w : World) (hs : s.size < 4611686018427387904) (R : Value → World → Prop) (h : R (.bool (plainB s)) w) : Ca Tryz.prog 97 #[.string s] w R := by
  refine ca97 s w R ?_
  refine ⟨fun x w' => ∃ i : Nat, x = i ∧ i ≤ s.size ∧ w' = w ∧ ∀ (k : Nat) (hk : k < s.size), k < i → letter (s[k]'hk).toNat = true, fun x _ => ((s.size : Int) - x).toNat,
    ⟨0, rfl, Nat.zero_le _, rfl, fun k _ hk => by omega⟩, ?_⟩
  rintro _ _ _ ⟨i, rfl, hi, rfl, hall⟩
  rename_i w
  refine ifK_dec (fun hlt => ?_) (fun hge => ?_)
  · have hlt' : i < s.size := by omega
    refine ⟨by omega, hlt, fun b w' => b = !(letter (s[i]'hlt').toNat) ∧ w' = w, ?_, ?_⟩
    · rw [Int.toNat_natCast, byteAt_eq hlt']
      generalize (s[i]'hlt').toNat = c
      repeat' first
        | refine ifK_dec (fun _ => ?_) (fun _ => ?_)
        | refine ifK_eq (fun _ => ?_) (fun _ => ?_)
      all_goals refine ⟨?_, rfl⟩
      all_goals rw [Bool.eq_iff_iff]
      all_goals simp [letter]
      all_goals omega
    · rintro _ b _ ⟨rfl, rfl⟩
      refine ifK_not (fun hf => ?_) (fun ht => ?_)
      · have : plainB s = false := by
          rw [plainB]
          have : lettersB s = false := by
            cases hc : lettersB s with
            | false => rfl
            | true => rw [lettersB_at hc hlt'] at hf; cases hf
          rw [this]; rfl
        rwa [this] at h
      · have e1 : IntKind.i64.wrap ((i : Int) + 1) = ((i + 1 : Nat) : Int) := (by first | (simp only [IntKind.wrap_i64]; omega) | omega)
        rw [e1]
        refine ⟨⟨i + 1, rfl, hlt', rfl, fun k hk hki => ?_⟩, by simp only; omega⟩
        by_cases e : k = i
        · subst e; exact ht
        · exact hall k hk (by omega)
  · have : plainB s = decide ((s.size : Int) > 0) := by
      rw [plainB_eq, lettersB_of fun k hk => hall k hk (by omega)]
      simp
    rwa [this] at h
theorem nameR_ok (s : ByteArray) (w : World) (R : Value → World → Prop) (h : R (.bool (nameB s)) w) : Ca Tryz.prog 71 #[.string s] w R := by
  refine ca71 s w R ?_
  refine ifK_dec (fun hle => ?_) (fun hgt => ?_)
  · refine letters_ok s w (by omega) _ ⟨_, rfl, ?_⟩
    have : nameB s = plainB s := by rw [nameB]; simp [hle]
    rwa [this] at h
  · have : nameB s = false := by rw [nameB]; simp [hgt]
    rwa [this] at h

/-! ### The reference's desk -/

def glue (c : List UInt8) : List (List UInt8) → List (List UInt8)
  | [] => [c]
  | x :: xs => (c ++ x) :: xs
theorem glue_dot (c r : List UInt8) : glue c (splitD (46 :: r)) = c :: splitD r := by simp [splitD, glue]
theorem glue_nil (l : List UInt8) : glue [] (splitD l) = splitD l := by
  cases h : splitD l with
  | nil => exact absurd h (splitD_ne l)
  | cons x xs => rfl
theorem glue_byte (c r : List UInt8) (b : UInt8) (hb : b ≠ 46) : glue c (splitD (b :: r)) = glue (c ++ [b]) (splitD r) := by
  cases h : splitD r with
  | nil => exact absurd h (splitD_ne r)
  | cons x xs => simp [splitD, hb, h, glue]
theorem bs_append (a b : List UInt8) : bs a ++ bs b = bs (a ++ b) := by
  apply ByteArray.ext
  simp [bs]
set_option maxHeartbeats 1000000 in
theorem refWords_ok (s : ByteArray) (w : World) (hs : s.size < 1000000000) (R : Value → World → Prop)
    (h : ∀ w' a l c, Els Value.string 9 w' a l c (wordsOf s) → Mod no w w' → (∀ k, rowB a k → w.heap.size ≤ k) → R (.slice a l c) w') : Ca Tryz.prog 96 #[.string s] w R := by
  refine ca96 s w R (ifK_of (fun he => ?_) fun hne => ?_)
  · have : s.size = 0 := by
      have : s = ByteArray.mk #[] := ba_toList _ _ (eq_of_beq he)
      rw [this]; rfl
    exact h w none 0 0 (by rw [wordsOf, if_pos this]; exact Els.nil _ _) (Mod.refl _ _) fun k hk => by cases hk
  have hpos : s.size ≠ 0 := fun h0 => by
    have : s = ByteArray.mk #[] := ByteArray.ext (Array.eq_empty_of_size_eq_zero h0)
    rw [this] at hne
    simp at hne
  have hsl : s.data.toList.length = s.size := Array.length_toList
  refine ⟨fun a l c t x w' => ∃ (i : Nat) (pre : List ByteArray) (cur : List UInt8), x = i ∧ i ≤ s.size ∧ t = bs cur ∧ cur.length ≤ i ∧ pre.length ≤ i ∧ Els Value.string 9 w' a l c pre ∧ Mod no w w' ∧ (∀ k, rowB a k → w.heap.size ≤ k) ∧
      pre ++ (glue cur (splitD (s.data.toList.drop i))).map bs = wordsOf s, fun _ _ _ _ x _ => ((s.size : Int) - x).toNat,
    ⟨0, [], [], rfl, Nat.zero_le _, rfl, Nat.le_refl _, Nat.le_refl _, Els.nil _ _, Mod.refl _ _, (fun k hk => by cases hk), by rw [List.drop_zero, glue_nil, wordsOf, if_neg hpos]; rfl⟩, ?_⟩
  rintro _ a l c _ _ w8 ⟨i, pre, cur, rfl, hi, rfl, hc, hp, hx, m8, hn, he⟩
  have hxl := hx.len.1
  refine ifK_dec (fun hlt => ?_) (fun hge => ?_)
  · have hlt' : i < s.size := by omega
    have hdr : s.data.toList.drop i = (s[i]'hlt') :: s.data.toList.drop (i + 1) := by
      rw [List.drop_eq_getElem_cons (by rw [hsl]; exact hlt')]
      rfl
    refine ⟨by omega, hlt, ?_⟩
    have e1 : IntKind.i64.wrap ((i : Int) + 1) = ((i + 1 : Nat) : Int) := (by first | (simp only [IntKind.wrap_i64]; omega) | omega)
    rw [Int.toNat_natCast, byteAt_eq hlt', e1]
    clear e1
    refine ifK_eq (fun h46 => ?_) (fun h46 => ?_)
    · have h46 : s[i]'hlt' = 46 := UInt8.toNat_inj.1 (by have : ((s[i]'hlt').toNat : Int) = 46 := h46; show (s[i]'hlt').toNat = 46; omega)
      intro w9 e9
      have m9 : Mod no w8 w9 := by subst e9; exact Mod.alloc _ _
      have b9 : w9.heap[w8.heap.size]? = some (.cells #[.string (bs cur)] 9 (0, 0)) := by subst e9; exact new_at _ _
      clear e9
      obtain ⟨a', c', w11, hrun, x11, m11, hnew⟩ := Els.push1 (P := Tryz.prog) (t := 55) (ty := 55) (fun _ => rfl) (by kernel_rfl) (hx.no m9) b9 (by omega)
      have h89 := m9.size
      have h08 := m8.size
      refine ⟨_, w11, hrun, _, _, _, rfl, ⟨i + 1, pre ++ [bs cur], [], rfl, hlt', rfl, Nat.zero_le _, by rw [List.length_append]; exact Nat.succ_le_succ hp, x11, ?_, fun k hk => (hnew k hk).elim (hn k) (fun h => by omega), ?_⟩, by simp only; omega⟩
      · exact (m8.trans m9).new m11 hn
      · rw [← he, hdr, h46, glue_dot, glue_nil]
        simp
    · have h46 : s[i]'hlt' ≠ 46 := fun h => h46 (by rw [h]; rfl)
      have hex : s.extract i (i + 1) = bs [s[i]'hlt'] := by
        have := bs_extract s.data.toList i (i + 1)
        rw [bs_data] at this
        rw [this, hdr]
        simp
      rw [Int.toNat_natCast, hex, bs_append]
      refine ⟨by omega, by omega, by omega, by rw [bs_size, bs_size]; simp; omega, ⟨i + 1, pre, cur ++ [s[i]'hlt'], rfl, hlt', rfl, by simp; omega, by omega, hx, m8, hn, ?_⟩, by simp only; omega⟩
      rw [← he, hdr, glue_byte _ _ _ h46]
  · intro w9 e9
    have m9 : Mod no w8 w9 := by subst e9; exact Mod.alloc _ _
    have b9 : w9.heap[w8.heap.size]? = some (.cells #[.string (bs cur)] 9 (0, 0)) := by subst e9; exact new_at _ _
    clear e9
    obtain ⟨a', c', w11, hrun, x11, m11, hnew⟩ := Els.push1 (P := Tryz.prog) (t := 55) (ty := 55) (fun _ => rfl) (by kernel_rfl) (hx.no m9) b9 (by omega)
    have h89 := m9.size
    have h08 := m8.size
    refine ⟨_, w11, hrun, _, _, _, rfl, h w11 a' (l + 1) c' ?_ ((m8.trans m9).new m11 hn) fun k hk => (hnew k hk).elim (hn k) (fun h => by omega)⟩
    have : s.data.toList.drop i = [] := List.drop_eq_nil_of_le (by omega)
    rw [this] at he
    rw [← he]
    simpa [splitD, glue] using x11
end Go.Proofs.YtehhhkcemmfjpaaGreatDoor

/- The reference's Key, Pattern, may, Good, ahead. -/
namespace Go.Proofs.YtehhhkcemmfjpaaGreatDoor
open Go Go.Proofs.YtehhhkcemmfjpaaGreatDoor Go.Proofs.YtehhhkcemmfjpaaGreatDoor.St

theorem splitD_mem : ∀ (l : List UInt8) (x : List UInt8), x ∈ splitD l → x.length ≤ l.length
  | [], x, h => by simp [splitD] at h; simp [h]
  | c :: r, x, h => by
    simp only [splitD] at h
    split at h
    · rcases List.mem_cons.1 h with rfl | h
      · simp
      · have := splitD_mem r x h; simp; omega
    · split at h
      · simp at h; simp [h]
      · rename_i y ys hy
        rcases List.mem_cons.1 h with rfl | h
        · have := splitD_mem r y (by rw [hy]; simp); simp; omega
        · have := splitD_mem r x (by rw [hy]; simp [h]); simp; omega
theorem words_mem {s x : ByteArray} (h : x ∈ wordsOf s) : x.size ≤ s.size := by
  unfold wordsOf at h
  split at h
  · cases h
  · obtain ⟨y, hy, rfl⟩ := List.mem_map.1 h
    exact splitD_mem _ y hy
def wordB (wi : Bool) (x : ByteArray) : Bool := if wi then wild x else plainB x
theorem all_ok (s : ByteArray) (wi : Bool) (w : World) (R : Value → World → Prop) (h : ∀ w', Mod no w w' → R (.bool (madeB (wordB wi) s)) w') : Ca Tryz.prog 93 #[.string s, .bool wi] w R := by
  refine ca93 s wi w R (ifK_dec (fun hgt => ?_) fun hle => ?_)
  · have h' := h w (Mod.refl _ _)
    rw [madeB, decide_eq_false (show ¬ s.size ≤ 60 by omega), Bool.false_and] at h'
    exact h'
  refine refWords_ok s w (by omega) _ fun w1 a l c hx m1 _ => ⟨a, l, c, rfl, ?_⟩
  have hxl := hx.len.1
  have hwl : (wordsOf s).length ≤ s.size + 1 := by
    unfold wordsOf
    split
    · simp
    · rw [List.length_map]; exact splitD_len _
  have hB : madeB (wordB wi) s = (decide (l ≤ 12) && (wordsOf s).all (wordB wi)) := by rw [madeB, decide_eq_true (show s.size ≤ 60 by omega), Bool.true_and, hxl]
  refine ⟨fun x w' => ∃ i : Nat, x = i ∧ i ≤ l ∧ Mod no w w' ∧ Els Value.string 9 w' a l c (wordsOf s) ∧ (wordsOf s).all (wordB wi) = ((wordsOf s).drop i).all (wordB wi), fun x _ => ((l : Int) - x).toNat, ⟨0, rfl, by omega, m1, hx, rfl⟩, ?_⟩
  rintro _ _ w4 ⟨i, rfl, hi, m4, hx4, he⟩
  refine ifK_dec (fun hlt => ?_) (fun hge => ?_)
  · have hil : i < (wordsOf s).length := by omega
    have hd : (wordsOf s).drop i = at0 (wordsOf s) i :: (wordsOf s).drop (i + 1) := by rw [List.drop_eq_getElem_cons hil, at0_eq hil]
    have e1 : IntKind.i64.wrap ((i : Int) + 1) = ((i + 1 : Nat) : Int) := (by first | (simp only [IntKind.wrap_i64]; omega) | omega)
    rw [e1]
    have hsz : (at0 (wordsOf s) i).size ≤ s.size := words_mem (by rw [at0_eq hil]; exact List.getElem_mem hil)
    rw [hd, List.all_cons] at he
    have next : wordB wi (at0 (wordsOf s) i) = true → (∃ i' : Nat, ((i + 1 : Nat) : Int) = i' ∧ i' ≤ l ∧ Mod no w w4 ∧ Els Value.string 9 w4 a l c (wordsOf s) ∧ (wordsOf s).all (wordB wi) = ((wordsOf s).drop i').all (wordB wi)) ∧ ((l : Int) - ((i + 1 : Nat) : Int)).toNat < ((l : Int) - (i : Int)).toNat := by
      intro ht
      exact ⟨⟨i + 1, rfl, by omega, m4, hx4, by rw [he, ht, Bool.true_and]⟩, by omega⟩
    have stop : wordB wi (at0 (wordsOf s) i) = false → R (.bool false) w4 := by
      intro hf
      have h' := h w4 m4
      rw [hB, he, hf, Bool.false_and, Bool.and_false] at h'
      exact h'
    refine hx4.rd i rfl (by omega) (letters_ok _ _ (by omega) _ ⟨_, rfl, ifK_not (fun hp => ?_) (fun hp => ?_)⟩)
    · cases wi with
      | false => exact ifK_of (fun h => by cases h) fun _ => stop (by rw [wordB]; exact hp)
      | true =>
        refine ifK_of (fun _ => ?_) fun h => by cases h
        rw [toList_beq, toList_beq]
        refine ifK_of (fun h1 => next (by rw [wordB]; simp only [if_true]; rw [wild, h1, Bool.true_or])) fun h1 => ifK_not (fun h2 => stop ?_) (fun h2 => next ?_)
        · rw [wordB]; simp only [if_true]; rw [wild, h1, h2, hp]; rfl
        · rw [wordB]; simp only [if_true]; rw [wild, h2, Bool.true_or, Bool.or_true]
    · refine next ?_
      rw [wordB, wild, hp]
      cases wi <;> simp
  · have h' := h w4 m4
    rw [hB, he, List.drop_eq_nil_of_le (by omega)] at h'
    have : decide ((l : Int) ≤ 12) = (decide (l ≤ 12) && ([] : List ByteArray).all (wordB wi)) := by
      rw [List.all_nil, Bool.and_true]
      exact decide_eq_decide.2 (by omega)
    rw [this]
    exact h'
theorem keyR_ok (s : ByteArray) (w : World) (R : Value → World → Prop) (h : ∀ w', Mod no w w' → R (.bool (keyB s)) w') : Ca Tryz.prog 68 #[.string s] w R := by
  refine ca68 s w R ?_
  exact all_ok s false w _ fun w' m => ⟨_, rfl, h w' m⟩
theorem patR_ok (s : ByteArray) (w : World) (R : Value → World → Prop) (h : ∀ w', Mod no w w' → R (.bool (patB s)) w') : Ca Tryz.prog 94 #[.string s] w R := by
  refine ca94 s w R ?_
  exact all_ok s true w _ fun w' m => ⟨_, rfl, h w' m⟩
end Go.Proofs.YtehhhkcemmfjpaaGreatDoor

/- The reference's may, Good, ahead; its table, and Find, Has in it. -/
namespace Go.Proofs.YtehhhkcemmfjpaaGreatDoor
open Go Go.Proofs.YtehhhkcemmfjpaaGreatDoor Go.Proofs.YtehhhkcemmfjpaaGreatDoor.St

theorem mayR_ok (x : Exc) (hk : x.k = 1 ∨ x.k = 2 ∨ x.k = 3) (p : ByteArray) (w : World) (R : Value → World → Prop) (h : ∀ w', Mod no w w' → R (.bool (mayB x p)) w') : Ca Tryz.prog 72 #[.int .i64 x.k, .string p] w R := by
  refine ca72 x.k p w R (ifK_eq (fun h1 => ?_) (fun h1 => ifK_eq (fun h2 => ?_) (fun h2 => ?_)))
  · refine keyR_ok p w _ fun w1 m1 => ⟨_, rfl, ?_⟩
    have h' := h w1 m1
    rw [mayB, if_pos h1] at h'
    exact h'
  · have h' := h w (Mod.refl _ _)
    rw [mayB, if_neg h1, if_neg (by omega)] at h'
    rw [toList_beq]
    exact h'
  · refine patR_ok p w _ fun w1 m1 => ⟨_, rfl, ?_⟩
    have h' := h w1 m1
    rw [mayB, if_neg h1, if_pos (by omega)] at h'
    exact h'
theorem goodR_ok (x : Exc) (w : World) (R : Value → World → Prop) (h : ∀ w', Mod no w w' → R (.bool (goodX x)) w') : Ca Tryz.prog 37 #[.agg ⟨x.cs⟩] w R := by
  refine (ca37 x.n x.k x.f w R ?_ : Ca _ _ _ _ _)
  intro w0 e0
  have m0 : Mod no w w0 := by subst e0; exact Mod.alloc _ _
  have b0 : Xc w0 w.heap.size x := by subst e0; exact new_at _ _
  clear e0
  have h := h w0 m0
  refine ⟨_, by rw [cl1 b0]; rfl, nameR_ok _ _ _ ⟨_, rfl, ?_⟩⟩
  rw [goodX] at h
  refine ifK_of (fun hn => ?_) (fun hn => ?_)
  · rw [hn, Bool.true_and] at h
    refine ⟨x.k, by rw [cl1 b0]; rfl, ifK_dec (fun h1 => ⟨x.k, by rw [cl1 b0]; rfl, ?_⟩) (fun h1 => ?_)⟩
    · have : (x.k == 1 || x.k == 2 || x.k == 3) = decide (x.k ≤ 3) := by
        rw [Bool.eq_iff_iff]; simp; omega
      rw [this] at h
      exact h
    · have : (x.k == 1 || x.k == 2 || x.k == 3) = false := by
        rw [Bool.eq_false_iff]; simp; omega
      rw [this] at h
      exact h
  · rw [hn, Bool.false_and] at h; exact h
theorem lt_bool (x y : ByteArray) : Op.bytesLess x.toList y.toList = decide (x < y) := by
  rw [Bool.eq_iff_iff, decide_eq_true_iff]
  exact Iff.rfl
instance bndDec : DecidableLT Bnd := fun a b => inferInstanceAs (Decidable (a.x < b.x ∨ a.x = b.x ∧ (a.q < b.q ∨ a.q = b.q ∧ a.p < b.p)))
theorem ahead_ok (x y : Bnd) (w : World) (R : Value → World → Prop) (h : ∀ w', Mod no w w' → R (.bool (decide (x < y))) w') : Ca Tryz.prog 73 #[.agg ⟨x.cs⟩, .agg ⟨y.cs⟩] w R := by
  refine (ca73 x.x x.q x.p y.x y.q y.p w R ?_ : Ca _ _ _ _ _)
  intro w0 e0
  have m0 : Mod no w w0 := by subst e0; exact Mod.alloc _ _
  have b0 : Bc w0 w.heap.size x := by subst e0; exact new_at _ _
  clear e0
  intro w1 e1
  have m1 : Mod no w0 w1 := by subst e1; exact Mod.alloc _ _
  have b1 : Bc w1 w0.heap.size y := by subst e1; exact new_at _ _
  have b0 := m1.at' b0
  clear e1
  have h := h w1 (m0.trans m1)
  refine ⟨_, by rw [cl1 b0]; rfl, _, by rw [cl1 b1]; rfl, ?_⟩
  rw [toList_beq]
  refine ifK_not (fun hx => ?_) (fun hx => ?_)
  · have hx : ¬ x.x = y.x := of_decide_eq_false hx
    refine ⟨_, by rw [cl1 b0]; rfl, _, by rw [cl1 b1]; rfl, ?_⟩
    rw [lt_bool]
    have : decide (x < y) = decide (x.x < y.x) := decide_eq_decide.2 ⟨fun h => h.resolve_right fun h => hx h.1, .inl⟩
    rw [this] at h
    exact h
  · have hx : x.x = y.x := of_decide_eq_true hx
    refine ⟨_, by rw [cl1 b0]; rfl, _, by rw [cl1 b1]; rfl, ?_⟩
    rw [toList_beq]
    refine ifK_not (fun hq => ?_) (fun hq => ?_)
    · have hq : ¬ x.q = y.q := of_decide_eq_false hq
      refine ⟨_, by rw [cl1 b0]; rfl, _, by rw [cl1 b1]; rfl, ?_⟩
      rw [lt_bool]
      have : decide (x < y) = decide (x.q < y.q) := decide_eq_decide.2 ⟨fun h => by
        rcases h with h | ⟨_, h | h⟩
        · exact absurd h (by rw [hx]; exact str_irr _)
        · exact h
        · exact absurd h.1 hq, fun h => .inr ⟨hx, .inl h⟩⟩
      rw [this] at h
      exact h
    · have hq : x.q = y.q := of_decide_eq_true hq
      refine ⟨_, by rw [cl1 b0]; rfl, _, by rw [cl1 b1]; rfl, ?_⟩
      rw [lt_bool]
      have : decide (x < y) = decide (x.p < y.p) := decide_eq_decide.2 ⟨fun h => by
        rcases h with h | ⟨_, h | h⟩
        · exact absurd h (by rw [hx]; exact str_irr _)
        · exact absurd h (by rw [hq]; exact str_irr _)
        · exact h.2, fun h => .inr ⟨hx, .inr ⟨hq, h⟩⟩⟩
      rw [this] at h
      exact h
end Go.Proofs.YtehhhkcemmfjpaaGreatDoor

/- The reference's table; Find, Has in it. -/
namespace Go.Proofs.YtehhhkcemmfjpaaGreatDoor
open Go Go.Proofs.YtehhhkcemmfjpaaGreatDoor Go.Proofs.YtehhhkcemmfjpaaGreatDoor.St

/-- The reference's table at r: exchanges X, bindings B. -/
structure RTb (w : World) (r : Nat) (X : List Exc) (B : List Bnd) : Prop where
  ex : ∃ (a : Option Addr) (l c : Nat) (a' : Option Addr) (l' c' : Nat), w.heap[r]? = some (.cells #[.slice a l c, .slice a' l' c'] 29 (0, 0)) ∧ Rx excL 33 w a l c X ∧ Rx bndL 35 w a' l' c' B ∧ ¬ rowB a r ∧ ¬ rowB a' r
theorem RTb.no {w w' : World} {r : Nat} {X : List Exc} {B : List Bnd} (h : RTb w r X B) (hm : Mod no w w') : RTb w' r X B := by
  obtain ⟨a, l, c, a', l', c', h1, h2, h3, h4, h5⟩ := h.ex
  exact ⟨a, l, c, a', l', c', hm.at' h1, h2.no hm, h3.no hm, h4, h5⟩
theorem St.Rx.cellX {w : World} {a : Option Addr} {l c : Nat} {X : List Exc} (h : Rx excL 33 w a l c X) {i : Nat} (hi : i < l) {K : ByteArray → Int → Bool → Prop} (hk : K (at0 X i).n (at0 X i).k (at0 X i).f) :
    ∃ ad : Addr, a = some ad ∧ (0 : Int) ≤ (i : Int) ∧ (i : Int) < (↑l : Int) ∧ ∃ s : ByteArray, w.cell? (Addr.add (Addr.add ad (Int.toNat (i : Int) * 3)) 0) = some (.string s) ∧ ∃ k : Int, w.cell? (Addr.add (Addr.add ad (Int.toNat (i : Int) * 3)) 1) = some (.int .i64 k) ∧
      ∃ f : Bool, w.cell? (Addr.add (Addr.add ad (Int.toNat (i : Int) * 3)) 2) = some (.bool f) ∧ K s k f := by
  have hil := h.lt hi
  obtain ⟨g, rfl, hc⟩ := Row.getS h hil (s := 3) rfl
  rw [at0_eq hil] at hk
  rw [Int.toNat_natCast]
  exact ⟨_, rfl, by omega, by omega, _, hc 0 _ rfl, _, hc 1 _ rfl, _, hc 2 _ rfl, hk⟩
theorem St.Rx.cellB {w : World} {a : Option Addr} {l c : Nat} {B : List Bnd} (h : Rx bndL 35 w a l c B) {i : Nat} (hi : i < l) {K : ByteArray → ByteArray → ByteArray → Prop} (hk : K (at0 B i).x (at0 B i).q (at0 B i).p) :
    ∃ ad : Addr, a = some ad ∧ (0 : Int) ≤ (i : Int) ∧ (i : Int) < (↑l : Int) ∧ ∃ s : ByteArray, w.cell? (Addr.add (Addr.add ad (Int.toNat (i : Int) * 3)) 0) = some (.string s) ∧ ∃ k : ByteArray, w.cell? (Addr.add (Addr.add ad (Int.toNat (i : Int) * 3)) 1) = some (.string k) ∧
      ∃ f : ByteArray, w.cell? (Addr.add (Addr.add ad (Int.toNat (i : Int) * 3)) 2) = some (.string f) ∧ K s k f := by
  have hil := h.lt hi
  obtain ⟨g, rfl, hc⟩ := Row.getS h hil (s := 3) rfl
  rw [at0_eq hil] at hk
  rw [Int.toNat_natCast]
  exact ⟨_, rfl, by omega, by omega, _, hc 0 _ rfl, _, hc 1 _ rfl, _, hc 2 _ rfl, hk⟩
section
variable {w : World} {r : Nat} {X : List Exc} {B : List Bnd} (hR : RTb w r X B)
include hR
theorem findR_ok (n : ByteArray) (hl : X.length < 1000000000) (R : Value → World → Prop) (h : ∀ w', Mod no w w' → R (.tuple #[.agg ⟨(fx n X).cs⟩, .bool (hx n X)]) w') :
    Ca Tryz.prog 43 #[.pointer (some ⟨r, 0, none⟩), .string n] w R := by
  refine ca43 (some ⟨r, 0, none⟩) n w R ?_
  obtain ⟨a, l, c, a', l', c', h1, h2, h3, h4, h5⟩ := hR.ex
  intro w0 e0
  have m0 : Mod no w w0 := by subst e0; exact Mod.alloc _ _
  have b0 : Xc w0 w.heap.size exc0 := by subst e0; exact new_at _ _
  clear e0
  have hxl := h2.len.1
  refine ⟨a, l, c, by rw [cl1 (m0.at' h1)]; rfl, ?_⟩
  refine ⟨fun x w' => ∃ i : Nat, x = i ∧ i ≤ l ∧ Mod no w w' ∧ Xc w' w.heap.size exc0 ∧ findX n X = findX n (X.drop i), fun x _ => ((l : Int) - x).toNat, ⟨0, rfl, by omega, m0, b0, rfl⟩, ?_⟩
  rintro _ _ w9 ⟨i, rfl, hi, m9, b9, he⟩
  refine ifK_dec (fun hlt => ?_) (fun hge => ?_)
  · have hil : i < X.length := by omega
    have hd : X.drop i = at0 X i :: X.drop (i + 1) := by rw [List.drop_eq_getElem_cons hil, at0_eq hil]
    have e1 : IntKind.i64.wrap ((i : Int) + 1) = ((i + 1 : Nat) : Int) := (by first | (simp only [IntKind.wrap_i64]; omega) | omega)
    rw [e1]
    clear e1
    refine (h2.no m9).cellX (by omega) ?_
    intro w14 e14
    have m14 : Mod no w9 w14 := by subst e14; exact Mod.alloc _ _
    have b14 : Xc w14 w9.heap.size exc0 := by subst e14; exact new_at _ _
    clear e14
    refine put3 b14 fun w20 m20 b20 => ⟨_, by rw [cl1 b20]; rfl, ?_⟩
    have m920 : Mod no w9 w20 := m14.new m20 fun k hk => by cases hk; exact Nat.le_refl _
    have hlt9 := lt_of_heap b9
    rw [toList_beq]
    refine ifK_dec (fun hn => ?_) (fun hn => ?_)
    · refine ⟨_, by rw [cl1 b20]; rfl, _, by rw [cl1 b20]; rfl, _, by rw [cl1 b20]; rfl, put3 (m920.at' b9) fun w30 m30 b30 => ?_⟩
      refine ⟨_, by rw [cl1 b30]; rfl, _, by rw [cl1 b30]; rfl, _, by rw [cl1 b30]; rfl, ?_⟩
      have hf : findX n X = some (at0 X i) := by
        rw [he, hd, findX, List.find?_cons]
        have : (n == (at0 X i).n) = true := by rw [hn]; exact beq_self_eq_true _
        rw [this]
      have h' := h w30 ((m9.trans m920).new m30 fun k hk => by cases hk; exact Nat.le_refl _)
      rw [fx, hx, hf] at h'
      exact h'
    · refine ⟨⟨i + 1, rfl, by omega, m9.trans m920, m920.at' b9, ?_⟩, by simp only; omega⟩
      rw [he, hd, findX, List.find?_cons]
      have : (n == (at0 X i).n) = false := beq_false_of_ne fun e => hn e.symm
      rw [this]
      rfl
  · refine put3 b9 fun w39 m39 b39 => ⟨_, by rw [cl1 b39]; rfl, _, by rw [cl1 b39]; rfl, _, by rw [cl1 b39]; rfl, ?_⟩
    have hf : findX n X = none := by rw [he, List.drop_eq_nil_of_le (by omega)]; rfl
    have h' := h w39 (m9.new m39 fun k hk => by cases hk; exact Nat.le_refl _)
    rw [fx, hx, hf] at h'
    exact h'
theorem hasR_ok (b : Bnd) (hl : B.length < 1000000000) (R : Value → World → Prop) (h : ∀ w', Mod no w w' → R (.bool (decide (b ∈ B))) w') :
    Ca Tryz.prog 20 #[.pointer (some ⟨r, 0, none⟩), .agg ⟨b.cs⟩] w R := by
  refine (ca20 (some ⟨r, 0, none⟩) b.x b.q b.p w R ?_ : Ca _ _ _ _ _)
  obtain ⟨a, l, c, a', l', c', h1, h2, h3, h4, h5⟩ := hR.ex
  intro w0 e0
  have m0 : Mod no w w0 := by subst e0; exact Mod.alloc _ _
  have b0 : Bc w0 w.heap.size b := by subst e0; exact new_at _ _
  clear e0
  have hxl := h3.len.1
  refine ⟨a', l', c', by rw [cl1 (m0.at' h1)]; rfl, ?_⟩
  refine ⟨fun x w' => ∃ i : Nat, x = i ∧ i ≤ l' ∧ Mod no w w' ∧ Bc w' w.heap.size b ∧ (b ∈ B ↔ b ∈ B.drop i), fun x _ => ((l' : Int) - x).toNat, ⟨0, rfl, by omega, m0, b0, Iff.rfl⟩, ?_⟩
  rintro _ _ w9 ⟨i, rfl, hi, m9, b9, he⟩
  refine ifK_dec (fun hlt => ?_) (fun hge => ?_)
  · have hil : i < B.length := by omega
    have hd : B.drop i = at0 B i :: B.drop (i + 1) := by rw [List.drop_eq_getElem_cons hil, at0_eq hil]
    have e1 : IntKind.i64.wrap ((i : Int) + 1) = ((i + 1 : Nat) : Int) := (by first | (simp only [IntKind.wrap_i64]; omega) | omega)
    rw [e1]
    clear e1
    refine (h3.no m9).cellB (by omega) ?_
    intro w14 e14
    have m14 : Mod no w9 w14 := by subst e14; exact Mod.alloc _ _
    have b14 : w14.heap[w9.heap.size]? = some (.cells #[.string (ByteArray.mk #[]), .string (ByteArray.mk #[]), .string (ByteArray.mk #[])] 35 (0, 0)) := by subst e14; exact new_at _ _
    clear e14
    refine put3 b14 fun w20 m20 b20 => ?_
    have m920 : Mod no w9 w20 := m14.new m20 fun k hk => by cases hk; exact Nat.le_refl _
    have b9' := m920.at' b9
    refine ⟨_, by rw [cl1 b20]; rfl, _, by rw [cl1 b20]; rfl, _, by rw [cl1 b20]; rfl, _, by rw [cl1 b9']; rfl, _, by rw [cl1 b9']; rfl, _, by rw [cl1 b9']; rfl, ?_⟩
    refine eqA_agg bnd_s.guard (bnd_s.eq (at0 B i) b) (ifK_dec (fun hn => ?_) (fun hn => ?_))
    · have h' := h w20 (m9.trans m920)
      rw [decide_eq_true (he.2 (by rw [hd, hn]; exact List.mem_cons_self ..))] at h'
      exact h'
    · refine ⟨⟨i + 1, rfl, by omega, m9.trans m920, b9', ?_⟩, by simp only; omega⟩
      rw [he, hd, List.mem_cons]
      exact ⟨fun h => h.resolve_left fun e => hn e.symm, .inr⟩
  · have h' := h w9 m9
    rw [decide_eq_false (fun hm => by have := he.1 hm; rw [List.drop_eq_nil_of_le (by omega)] at this; cases this)] at h'
    exact h'
end
end Go.Proofs.YtehhhkcemmfjpaaGreatDoor

/- The formulas of functions, printed by a program of mine (gen.py) out of the translation. -/
namespace Go.Proofs.YtehhhkcemmfjpaaGreatDoor
open Go Go.Proofs.YtehhhkcemmfjpaaGreatDoor.St
set_option maxRecDepth 100000

/-- (*staith/staithref07.Table).Forget -/
noncomputable def C42 : Code := (Tryz.f42.body).getD .skip
def pl42 : Nat → Plan := fun _ => .done
def ls42 : Nat → List (Nat × LT)
  | 4 => [(5, (.one .slice)), (14, (.one (.int .i64)))]
  | _ => []
def W42 (t : Option Addr) (queue : ByteArray) (w : World) (R : Value → World → Prop) : Prop :=
  (onP (t) (fun a0 =>
    (∃ p1 : Option Addr, (∃ n2 : Nat, (∃ n3 : Nat, ((World.cell? w (Addr.add a0 1) = some (Value.slice p1 n2 n3)) ∧ (∃ z4 : Option Addr → Nat → Nat → Int → World → Prop, (∃ z5 : Option Addr → Nat → Nat → Int → World → Nat, ((z4 (none) (0) (0) (0) (w)) ∧ (∀ (_ : Nat → Value), (∀ (p7 : Option Addr), (∀ (n8 : Nat), (∀ (n9 : Nat), (∀ (x10 : Int), (∀ (w11 : World), ((z4 (p7) (n8) (n9) (x10) (w11)) → (ifK (decide (x10 < (↑n2 : Int)))
      (∃ a12 : Addr, ((p1 = some a12) ∧ (((0 : Int) ≤ x10) ∧ (((x10 : Int) < (↑n2 : Int)) ∧ (∃ s13 : ByteArray, ((World.cell? w11 (Addr.add (Addr.add a12 (Int.toNat x10 * 3)) 0) = some (Value.string s13)) ∧ (∃ s14 : ByteArray, ((World.cell? w11 (Addr.add (Addr.add a12 (Int.toNat x10 * 3)) 1) = some (Value.string s14)) ∧ (∃ s15 : ByteArray, ((World.cell? w11 (Addr.add (Addr.add a12 (Int.toNat x10 * 3)) 2) = some (Value.string s15)) ∧ (atW (World.alloc w11 (Obj.cells (Array.mk [Value.string (ByteArray.mk #[]), Value.string (ByteArray.mk #[]), Value.string (ByteArray.mk #[])]) 35 (0, 0))) (fun w16 =>
        ((∃ v17 : Value, (World.cell? w16 (Addr.add (Addr.mk (Array.size (World.heap w11)) 0 none) 0) = some v17)) ∧ ((World.frozen? w16 (Addr.add (Addr.mk (Array.size (World.heap w11)) 0 none) 0) = false) ∧ (atW (World.setCell w16 (Addr.add (Addr.mk (Array.size (World.heap w11)) 0 none) 0) (Value.string s13)) (fun w18 =>
          ((∃ v19 : Value, (World.cell? w18 (Addr.add (Addr.mk (Array.size (World.heap w11)) 0 none) 1) = some v19)) ∧ ((World.frozen? w18 (Addr.add (Addr.mk (Array.size (World.heap w11)) 0 none) 1) = false) ∧ (atW (World.setCell w18 (Addr.add (Addr.mk (Array.size (World.heap w11)) 0 none) 1) (Value.string s14)) (fun w20 =>
            ((∃ v21 : Value, (World.cell? w20 (Addr.add (Addr.mk (Array.size (World.heap w11)) 0 none) 2) = some v21)) ∧ ((World.frozen? w20 (Addr.add (Addr.mk (Array.size (World.heap w11)) 0 none) 2) = false) ∧ (atW (World.setCell w20 (Addr.add (Addr.mk (Array.size (World.heap w11)) 0 none) 2) (Value.string s15)) (fun w22 =>
              (∃ s23 : ByteArray, ((World.cell? w22 (Addr.add (Addr.mk (Array.size (World.heap w11)) 0 none) 1) = some (Value.string s23)) ∧ (ifK (!ByteArray.toList s23 == ByteArray.toList queue)
                (∃ s24 : ByteArray, ((World.cell? w22 (Addr.add (Addr.mk (Array.size (World.heap w11)) 0 none) 0) = some (Value.string s24)) ∧ (∃ s25 : ByteArray, ((World.cell? w22 (Addr.add (Addr.mk (Array.size (World.heap w11)) 0 none) 1) = some (Value.string s25)) ∧ (∃ s26 : ByteArray, ((World.cell? w22 (Addr.add (Addr.mk (Array.size (World.heap w11)) 0 none) 2) = some (Value.string s26)) ∧ (atW (World.alloc w22 (Obj.cells (Array.mk [Value.string s24, Value.string s25, Value.string s26]) 35 (0, 0))) (fun w27 =>
                  (∃ v28 : Value, (∃ w29 : World, ((Sem.run Tryz.prog (Builtin.append_ (Array.mk [27, 27]) 27 (Array.mk [Value.slice p7 n8 n9, Value.slice (some (Addr.mk (Array.size (World.heap w22)) 0 none)) 1 1])) w27 = Result.ok v28 w29) ∧ (∃ p30 : Option Addr, (∃ n31 : Nat, (∃ n32 : Nat, ((v28 = Value.slice p30 n31 n32) ∧ ((z4 (p30) (n31) (n32) (IntKind.wrap IntKind.i64 (x10 + 1)) (w29)) ∧ (z5 p30 n31 n32 (IntKind.wrap IntKind.i64 (x10 + 1)) w29 < z5 p7 n8 n9 x10 w11)))))))))))))))))
                ((z4 (p7) (n8) (n9) (IntKind.wrap IntKind.i64 (x10 + 1)) (w22)) ∧ (z5 p7 n8 n9 (IntKind.wrap IntKind.i64 (x10 + 1)) w22 < z5 p7 n8 n9 x10 w11)))))))))))))))))))))))))))))
      (onP (t) (fun a33 =>
        (∃ p34 : Option Addr, (∃ n35 : Nat, (∃ n36 : Nat, ((World.cell? w11 (Addr.add a33 1) = some (Value.slice p34 n35 n36)) ∧ (onP (t) (fun a37 =>
          ((∃ v38 : Value, (World.cell? w11 (Addr.add (Addr.add a37 1) 0) = some v38)) ∧ ((World.frozen? w11 (Addr.add (Addr.add a37 1) 0) = false) ∧ (atW (World.setCell w11 (Addr.add (Addr.add a37 1) 0) (Value.slice p7 n8 n9)) (fun w39 =>
            (R (Value.int IntKind.i64 (IntKind.wrap IntKind.i64 ((↑n35 : Int) - (↑n8 : Int)))) (w39)))))))))))))))))))))))))))))))
theorem ca42 (t : Option Addr) (queue : ByteArray) (w : World) (R : Value → World → Prop) (h : W42 t queue w R) : Ca Tryz.prog 42 ⟨[(.pointer t), (.string queue)]⟩ w R := by
  have h1 : Tryz.prog.follows .mixedOrders = true := by kernel_rfl
  have h2 : Tryz.f42.body = some C42 := by kernel_rfl
  have h3 : (Tryz.f42.name == "runtime.NumGoroutine") = false := by kernel_rfl
  have h6 : Tryz.f42.results.toList = [.tmp 4] := by kernel_rfl
  have h4 : Nat.ble 2 40 = true := by kernel_rfl
  have h5 : okCode 40 pl42 ls42 C42 0 = true := by kernel_rfl
  have e : W42 t queue w R = wpC none Tryz.prog 40 pl42 ls42 C42 0 (endP Tryz.prog [.tmp 4] R) (fr0 [(.pointer t), (.string queue)]) [] w := by kernel_rfl
  exact ca_of' (P := Tryz.prog) (g := 42) (fn := Tryz.f42) (c := C42) (m := 40) (rs := [.tmp 4]) (args := [(.pointer t), (.string queue)]) (pl := pl42) (ls := ls42) (w := w) (R := R) h1 Tryz.func42 h2 Tryz.ntmps42 h6 h3 h4 h5 (Eq.mp e h)

/-- (*staith/staithref07.Table).Unbind -/
noncomputable def C40 : Code := (Tryz.f40.body).getD .skip
def pl40 : Nat → Plan := fun _ => .done
def ls40 : Nat → List (Nat × LT)
  | 7 => [(5, (.one .slice)), (17, (.one (.int .i64)))]
  | _ => []
def W40 (t : Option Addr) (b0_ : ByteArray) (b1_ : ByteArray) (b2_ : ByteArray) (w : World) (R : Value → World → Prop) : Prop :=
  (atW (World.alloc w (Obj.cells (Array.mk [Value.string b0_, Value.string b1_, Value.string b2_]) 35 (0, 0))) (fun w0 =>
    (∃ s1 : ByteArray, ((World.cell? w0 (Addr.add (Addr.mk (Array.size (World.heap w)) 0 none) 0) = some (Value.string s1)) ∧ (∃ s2 : ByteArray, ((World.cell? w0 (Addr.add (Addr.mk (Array.size (World.heap w)) 0 none) 1) = some (Value.string s2)) ∧ (∃ s3 : ByteArray, ((World.cell? w0 (Addr.add (Addr.mk (Array.size (World.heap w)) 0 none) 2) = some (Value.string s3)) ∧ (Ca Tryz.prog (20) (Array.mk [Value.pointer t, Value.agg (Array.mk (List.reverse [Value.string s3, Value.string s2, Value.string s1]))]) (w0) (fun v4 => (fun w5 =>
      (∃ b6 : Bool, ((v4 = Value.bool b6) ∧ (ifK (!b6)
        (R (Value.int IntKind.i64 3) (w5))
        (onP (t) (fun a7 =>
          (∃ p8 : Option Addr, (∃ n9 : Nat, (∃ n10 : Nat, ((World.cell? w5 (Addr.add a7 1) = some (Value.slice p8 n9 n10)) ∧ (∃ z11 : Option Addr → Nat → Nat → Int → World → Prop, (∃ z12 : Option Addr → Nat → Nat → Int → World → Nat, ((z11 (none) (0) (0) (0) (w5)) ∧ (∀ (_ : Nat → Value), (∀ (p14 : Option Addr), (∀ (n15 : Nat), (∀ (n16 : Nat), (∀ (x17 : Int), (∀ (w18 : World), ((z11 (p14) (n15) (n16) (x17) (w18)) → (ifK (decide (x17 < (↑n9 : Int)))
            (∃ a19 : Addr, ((p8 = some a19) ∧ (((0 : Int) ≤ x17) ∧ (((x17 : Int) < (↑n9 : Int)) ∧ (∃ s20 : ByteArray, ((World.cell? w18 (Addr.add (Addr.add a19 (Int.toNat x17 * 3)) 0) = some (Value.string s20)) ∧ (∃ s21 : ByteArray, ((World.cell? w18 (Addr.add (Addr.add a19 (Int.toNat x17 * 3)) 1) = some (Value.string s21)) ∧ (∃ s22 : ByteArray, ((World.cell? w18 (Addr.add (Addr.add a19 (Int.toNat x17 * 3)) 2) = some (Value.string s22)) ∧ (atW (World.alloc w18 (Obj.cells (Array.mk [Value.string (ByteArray.mk #[]), Value.string (ByteArray.mk #[]), Value.string (ByteArray.mk #[])]) 35 (0, 0))) (fun w23 =>
              ((∃ v24 : Value, (World.cell? w23 (Addr.add (Addr.mk (Array.size (World.heap w18)) 0 none) 0) = some v24)) ∧ ((World.frozen? w23 (Addr.add (Addr.mk (Array.size (World.heap w18)) 0 none) 0) = false) ∧ (atW (World.setCell w23 (Addr.add (Addr.mk (Array.size (World.heap w18)) 0 none) 0) (Value.string s20)) (fun w25 =>
                ((∃ v26 : Value, (World.cell? w25 (Addr.add (Addr.mk (Array.size (World.heap w18)) 0 none) 1) = some v26)) ∧ ((World.frozen? w25 (Addr.add (Addr.mk (Array.size (World.heap w18)) 0 none) 1) = false) ∧ (atW (World.setCell w25 (Addr.add (Addr.mk (Array.size (World.heap w18)) 0 none) 1) (Value.string s21)) (fun w27 =>
                  ((∃ v28 : Value, (World.cell? w27 (Addr.add (Addr.mk (Array.size (World.heap w18)) 0 none) 2) = some v28)) ∧ ((World.frozen? w27 (Addr.add (Addr.mk (Array.size (World.heap w18)) 0 none) 2) = false) ∧ (atW (World.setCell w27 (Addr.add (Addr.mk (Array.size (World.heap w18)) 0 none) 2) (Value.string s22)) (fun w29 =>
                    (∃ s30 : ByteArray, ((World.cell? w29 (Addr.add (Addr.mk (Array.size (World.heap w18)) 0 none) 0) = some (Value.string s30)) ∧ (∃ s31 : ByteArray, ((World.cell? w29 (Addr.add (Addr.mk (Array.size (World.heap w18)) 0 none) 1) = some (Value.string s31)) ∧ (∃ s32 : ByteArray, ((World.cell? w29 (Addr.add (Addr.mk (Array.size (World.heap w18)) 0 none) 2) = some (Value.string s32)) ∧ (∃ s33 : ByteArray, ((World.cell? w29 (Addr.add (Addr.mk (Array.size (World.heap w)) 0 none) 0) = some (Value.string s33)) ∧ (∃ s34 : ByteArray, ((World.cell? w29 (Addr.add (Addr.mk (Array.size (World.heap w)) 0 none) 1) = some (Value.string s34)) ∧ (∃ s35 : ByteArray, ((World.cell? w29 (Addr.add (Addr.mk (Array.size (World.heap w)) 0 none) 2) = some (Value.string s35)) ∧ (eqA Tryz.prog 35 (Value.agg (Array.mk (List.reverse [Value.string s32, Value.string s31, Value.string s30]))) (Value.agg (Array.mk (List.reverse [Value.string s35, Value.string s34, Value.string s33]))) (w29) (fun b36 => (fun w37 =>
                      (ifK (!b36)
                        (∃ s38 : ByteArray, ((World.cell? w37 (Addr.add (Addr.mk (Array.size (World.heap w18)) 0 none) 0) = some (Value.string s38)) ∧ (∃ s39 : ByteArray, ((World.cell? w37 (Addr.add (Addr.mk (Array.size (World.heap w18)) 0 none) 1) = some (Value.string s39)) ∧ (∃ s40 : ByteArray, ((World.cell? w37 (Addr.add (Addr.mk (Array.size (World.heap w18)) 0 none) 2) = some (Value.string s40)) ∧ (atW (World.alloc w37 (Obj.cells (Array.mk [Value.string s38, Value.string s39, Value.string s40]) 35 (0, 0))) (fun w41 =>
                          (∃ v42 : Value, (∃ w43 : World, ((Sem.run Tryz.prog (Builtin.append_ (Array.mk [27, 27]) 27 (Array.mk [Value.slice p14 n15 n16, Value.slice (some (Addr.mk (Array.size (World.heap w37)) 0 none)) 1 1])) w41 = Result.ok v42 w43) ∧ (∃ p44 : Option Addr, (∃ n45 : Nat, (∃ n46 : Nat, ((v42 = Value.slice p44 n45 n46) ∧ ((z11 (p44) (n45) (n46) (IntKind.wrap IntKind.i64 (x17 + 1)) (w43)) ∧ (z12 p44 n45 n46 (IntKind.wrap IntKind.i64 (x17 + 1)) w43 < z12 p14 n15 n16 x17 w18)))))))))))))))))
                        ((z11 (p14) (n15) (n16) (IntKind.wrap IntKind.i64 (x17 + 1)) (w37)) ∧ (z12 p14 n15 n16 (IntKind.wrap IntKind.i64 (x17 + 1)) w37 < z12 p14 n15 n16 x17 w18))))))))))))))))))))))))))))))))))))))))))
            (onP (t) (fun a47 =>
              ((∃ v48 : Value, (World.cell? w18 (Addr.add (Addr.add a47 1) 0) = some v48)) ∧ ((World.frozen? w18 (Addr.add (Addr.add a47 1) 0) = false) ∧ (atW (World.setCell w18 (Addr.add (Addr.add a47 1) 0) (Value.slice p14 n15 n16)) (fun w49 =>
                (R (Value.int IntKind.i64 0) (w49)))))))))))))))))))))))))))))))))))))))
theorem ca40 (t : Option Addr) (b0_ : ByteArray) (b1_ : ByteArray) (b2_ : ByteArray) (w : World) (R : Value → World → Prop) (h : W40 t b0_ b1_ b2_ w R) : Ca Tryz.prog 40 ⟨[(.pointer t), (.agg ⟨[(.string b0_), (.string b1_), (.string b2_)]⟩)]⟩ w R := by
  have h1 : Tryz.prog.follows .mixedOrders = true := by kernel_rfl
  have h2 : Tryz.f40.body = some C40 := by kernel_rfl
  have h3 : (Tryz.f40.name == "runtime.NumGoroutine") = false := by kernel_rfl
  have h6 : Tryz.f40.results.toList = [.tmp 4] := by kernel_rfl
  have h4 : Nat.ble 2 33 = true := by kernel_rfl
  have h5 : okCode 33 pl40 ls40 C40 0 = true := by kernel_rfl
  have e : W40 t b0_ b1_ b2_ w R = wpC none Tryz.prog 33 pl40 ls40 C40 0 (endP Tryz.prog [.tmp 4] R) (fr0 [(.pointer t), (.agg ⟨[(.string b0_), (.string b1_), (.string b2_)]⟩)]) [] w := by kernel_rfl
  exact ca_of' (P := Tryz.prog) (g := 40) (fn := Tryz.f40) (c := C40) (m := 33) (rs := [.tmp 4]) (args := [(.pointer t), (.agg ⟨[(.string b0_), (.string b1_), (.string b2_)]⟩)]) (pl := pl40) (ls := ls40) (w := w) (R := R) h1 Tryz.func40 h2 Tryz.ntmps40 h6 h3 h4 h5 (Eq.mp e h)
end Go.Proofs.YtehhhkcemmfjpaaGreatDoor

/- The reference's Forget, Unbind. -/
namespace Go.Proofs.YtehhhkcemmfjpaaGreatDoor
open Go Go.Proofs.YtehhhkcemmfjpaaGreatDoor Go.Proofs.YtehhhkcemmfjpaaGreatDoor.St

theorem empty3 {w : World} : (w.alloc (.cells #[.string (ByteArray.mk #[]), .string (ByteArray.mk #[]), .string (ByteArray.mk #[])] 35 (0, 0))).heap[w.heap.size]? = some (.cells #[.string (ByteArray.mk #[]), .string (ByteArray.mk #[]), .string (ByteArray.mk #[])] 35 (0, 0)) := new_at _ _
/-- append(l, b), where b lies in a block of its own. -/
theorem pushB {w : World} {a : Option Addr} {l c : Nat} {L : List Bnd} (h : Rx bndL 35 w a l c L) {k : Nat} {b : Bnd} (hk : Bc w k b) (hn : l + 1 ≤ 1099511627776) :
    ∃ a' c' w', (Builtin.append_ #[27, 27] 27 #[.slice a l c, .slice (some ⟨k, 0, none⟩) 1 1]).run Tryz.prog w = .ok (.slice a' (l + 1) c') w' ∧ Rx bndL 35 w' a' (l + 1) c' (L ++ [b]) ∧ Mod (rowB a) w w' ∧ (∀ k, rowB a' k → rowB a k ∨ w.heap.size ≤ k) :=
  Row.push (P := Tryz.prog) (t := 27) (ty := 27) (by kernel_rfl) h (b := some ⟨k, 0, none⟩) (m := 1) (cc := 1) (ys := [b]) rfl (fun ad had j v hj => by
    cases had
    rw [cl1 hk]
    simpa [bndL, Bnd.cs] using hj) (fun h => by cases h) hn
section
variable {w : World} {r : Nat} {X : List Exc} {B : List Bnd} (hR : RTb w r X B)
include hR
theorem forgetR_ok (n : ByteArray) (hl : B.length < 1000000000) (R : Value → World → Prop) (h : ∀ w', RTb w' r X (B.filter fun b => !decide (b.q = n)) → Mod (on r) w w' → R (.int .i64 ((B.length : Int) - (B.filter fun b => !decide (b.q = n)).length)) w') :
    Ca Tryz.prog 42 #[.pointer (some ⟨r, 0, none⟩), .string n] w R := by
  refine ca42 (some ⟨r, 0, none⟩) n w R ?_
  obtain ⟨a, l, c, a', l', c', h1, h2, h3, h4, h5⟩ := hR.ex
  have hxl := h3.len.1
  have hrlt := lt_of_heap h1
  refine ⟨a', l', c', by rw [cl1 h1]; rfl, ?_⟩
  refine ⟨fun p q s x w' => ∃ i : Nat, x = i ∧ i ≤ l' ∧ Mod no w w' ∧ Rx bndL 35 w' p q s ((B.take i).filter fun b => !decide (b.q = n)) ∧ ∀ k, rowB p k → w.heap.size ≤ k, fun _ _ _ x _ => ((l' : Int) - x).toNat,
    ⟨0, rfl, by omega, Mod.refl _ _, Row.empty _ _ _, fun k hk => by cases hk⟩, ?_⟩
  rintro _ p q s _ w11 ⟨i, rfl, hi, m11, hx, hn⟩
  have hql := hx.len.1
  have hqi : q ≤ i := by
    have : ((B.take i).filter fun b => !decide (b.q = n)).length ≤ (B.take i).length := List.length_filter_le _ _
    rw [List.length_take] at this
    omega
  refine ifK_dec (fun hlt => ?_) (fun hge => ?_)
  · have hil : i < B.length := by omega
    have htk : B.take (i + 1) = B.take i ++ [at0 B i] := by rw [List.take_succ_eq_append_getElem hil, at0_eq hil]
    have e1 : IntKind.i64.wrap ((i : Int) + 1) = ((i + 1 : Nat) : Int) := (by first | (simp only [IntKind.wrap_i64]; omega) | omega)
    rw [e1]
    clear e1
    refine (h3.no m11).cellB (by omega) ?_
    intro w16 e16
    have m16 : Mod no w11 w16 := by subst e16; exact Mod.alloc _ _
    have b16 : w16.heap[w11.heap.size]? = some (.cells #[.string (ByteArray.mk #[]), .string (ByteArray.mk #[]), .string (ByteArray.mk #[])] 35 (0, 0)) := by subst e16; exact empty3
    clear e16
    refine put3 b16 fun w22 m22 b22 => ⟨_, by rw [cl1 b22]; rfl, ?_⟩
    have m1122 : Mod no w11 w22 := m16.new m22 fun k hk => by cases hk; exact Nat.le_refl _
    have hx22 := hx.no m1122
    rw [toList_beq]
    refine ifK_not (fun hq => ?_) (fun hq => ?_)
    · refine ⟨_, by rw [cl1 b22]; rfl, _, by rw [cl1 b22]; rfl, _, by rw [cl1 b22]; rfl, ?_⟩
      intro w27 e27
      have m27 : Mod no w22 w27 := by subst e27; exact Mod.alloc _ _
      have b27 : Bc w27 w22.heap.size (at0 B i) := by subst e27; exact new_at _ _
      clear e27
      obtain ⟨p', s', w29, hrun, hx29, m29, hnew⟩ := pushB (hx22.no m27) b27 (by omega)
      have g1 := m11.size
      have g2 := m1122.size
      have g3 := m27.size
      refine ⟨_, w29, hrun, _, _, _, rfl, ⟨i + 1, rfl, by omega, ((m11.trans m1122).trans m27).new m29 hn, ?_, fun k hk => (hnew k hk).elim (hn k) fun h => by omega⟩, by simp only; omega⟩
      rw [htk, List.filter_append, List.filter_cons_of_pos (by rw [hq]; rfl)]
      exact hx29
    · refine ⟨⟨i + 1, rfl, by omega, m11.trans m1122, ?_, hn⟩, by simp only; omega⟩
      rw [htk, List.filter_append, List.filter_cons_of_neg (by rw [hq]; simp), List.filter_nil, List.append_nil]
      exact hx22
  · have hti : B.take i = B := List.take_of_length_le (by omega)
    rw [hti] at hx hql
    have h1' := m11.at' h1
    refine ⟨a', l', c', by rw [cl1 h1']; rfl, ⟨_, by rw [cl2 h1']; rfl⟩, fz2 h1' _ _, ?_⟩
    intro w39 e39
    have m39 : Mod (on r) w11 w39 := by subst e39; exact Mod.set2 _ _ _ _ _
    have b39 : w39.heap[r]? = some (.cells #[.slice a l c, .slice p q s] 29 (0, 0)) := by subst e39; rw [set2 h1']; rfl
    clear e39
    have hpr : ¬ rowB p r := fun hk => by have := hn r hk; omega
    have h' := h w39 ⟨a, l, c, p, q, s, b39, (h2.no m11).mod m39 (fun k hk hS => by cases hS; exact h4 hk), hx.mod m39 (fun k hk hS => by cases hS; exact hpr hk), h4, hpr⟩ (m11.no_trans m39)
    have e1 : IntKind.i64.wrap ((l' : Int) - (q : Int)) = (B.length : Int) - ((B.filter fun b => !decide (b.q = n)).length : Nat) := by rw [hxl, hql]; exact (by first | (simp only [IntKind.wrap_i64]; omega) | omega)
    rw [e1]
    exact h'
end
end Go.Proofs.YtehhhkcemmfjpaaGreatDoor

/- The reference's Unbind. -/
namespace Go.Proofs.YtehhhkcemmfjpaaGreatDoor
open Go Go.Proofs.YtehhhkcemmfjpaaGreatDoor Go.Proofs.YtehhhkcemmfjpaaGreatDoor.St

theorem unbindR_ok {w : World} {r : Nat} {X : List Exc} {B : List Bnd} (hR : RTb w r X B) (b : Bnd) (hl : B.length < 1000000000) (R : Value → World → Prop)
    (h : ∀ w', RTb w' r X (if b ∈ B then B.filter fun x => !decide (x = b) else B) → Mod (on r) w w' → R (.int .i64 (if b ∈ B then 0 else 3)) w') :
    Ca Tryz.prog 40 #[.pointer (some ⟨r, 0, none⟩), .agg ⟨b.cs⟩] w R := by
  refine (ca40 (some ⟨r, 0, none⟩) b.x b.q b.p w R ?_ : Ca _ _ _ _ _)
  intro w0 e0
  have m0 : Mod no w w0 := by subst e0; exact Mod.alloc _ _
  have b0 : Bc w0 w.heap.size b := by subst e0; exact new_at _ _
  clear e0
  refine ⟨_, by rw [cl1 b0]; rfl, _, by rw [cl1 b0]; rfl, _, by rw [cl1 b0]; rfl, ?_⟩
  refine (hasR_ok (hR.no m0) b hl _ fun w5 m5 => ?_ : Ca _ _ _ _ _)
  refine ⟨_, rfl, ?_⟩
  have m05 := m0.trans m5
  have hR5 := hR.no m05
  have b5 := m5.at' b0
  by_cases hb : b ∈ B
  · rw [if_pos hb, if_pos hb] at h
    rw [decide_eq_true hb]
    refine ifK_of (fun h => by cases h) fun _ => ?_
    obtain ⟨a, l, c, a', l', c', h1, h2, h3, h4, h5⟩ := hR5.ex
    have hxl := h3.len.1
    have hrlt : r < w.heap.size := by obtain ⟨_, _, _, _, _, _, hh, _⟩ := hR.ex; exact lt_of_heap hh
    have g0 := m05.size
    refine ⟨a', l', c', by rw [cl1 h1]; rfl, ?_⟩
    refine ⟨fun p q s x w' => ∃ i : Nat, x = i ∧ i ≤ l' ∧ Mod no w5 w' ∧ Rx bndL 35 w' p q s ((B.take i).filter fun x => !decide (x = b)) ∧ ∀ k, rowB p k → w5.heap.size ≤ k, fun _ _ _ x _ => ((l' : Int) - x).toNat,
      ⟨0, rfl, by omega, Mod.refl _ _, Row.empty _ _ _, fun k hk => by cases hk⟩, ?_⟩
    rintro _ p q s _ w11 ⟨i, rfl, hi, m11, hx, hn⟩
    have hql := hx.len.1
    have hqi : q ≤ i := by
      have : ((B.take i).filter fun x => !decide (x = b)).length ≤ (B.take i).length := List.length_filter_le _ _
      rw [List.length_take] at this
      omega
    refine ifK_dec (fun hlt => ?_) (fun hge => ?_)
    · have hil : i < B.length := by omega
      have htk : B.take (i + 1) = B.take i ++ [at0 B i] := by rw [List.take_succ_eq_append_getElem hil, at0_eq hil]
      have e1 : IntKind.i64.wrap ((i : Int) + 1) = ((i + 1 : Nat) : Int) := (by first | (simp only [IntKind.wrap_i64]; omega) | omega)
      rw [e1]
      clear e1
      refine (h3.no m11).cellB (by omega) ?_
      intro w16 e16
      have m16 : Mod no w11 w16 := by subst e16; exact Mod.alloc _ _
      have b16 : w16.heap[w11.heap.size]? = some (.cells #[.string (ByteArray.mk #[]), .string (ByteArray.mk #[]), .string (ByteArray.mk #[])] 35 (0, 0)) := by subst e16; exact empty3
      clear e16
      refine put3 b16 fun w22 m22 b22 => ?_
      have m1122 : Mod no w11 w22 := m16.new m22 fun k hk => by cases hk; exact Nat.le_refl _
      have hx22 := hx.no m1122
      have bb := m1122.at' (m11.at' b5)
      refine ⟨_, by rw [cl1 b22]; rfl, _, by rw [cl1 b22]; rfl, _, by rw [cl1 b22]; rfl, _, by rw [cl1 bb]; rfl, _, by rw [cl1 bb]; rfl, _, by rw [cl1 bb]; rfl, ?_⟩
      refine eqA_agg bnd_s.guard (bnd_s.eq (at0 B i) b) (ifK_not (fun hq => ?_) (fun hq => ?_))
      · refine ⟨_, by rw [cl1 b22]; rfl, _, by rw [cl1 b22]; rfl, _, by rw [cl1 b22]; rfl, ?_⟩
        intro w27 e27
        have m27 : Mod no w22 w27 := by subst e27; exact Mod.alloc _ _
        have b27 : Bc w27 w22.heap.size (at0 B i) := by subst e27; exact new_at _ _
        clear e27
        obtain ⟨p', s', w29, hrun, hx29, m29, hnew⟩ := pushB (hx22.no m27) b27 (by omega)
        have g1 := m11.size
        have g2 := m1122.size
        have g3 := m27.size
        refine ⟨_, w29, hrun, _, _, _, rfl, ⟨i + 1, rfl, by omega, ((m11.trans m1122).trans m27).new m29 hn, ?_, fun k hk => (hnew k hk).elim (hn k) fun h => by omega⟩, by simp only; omega⟩
        rw [htk, List.filter_append, List.filter_cons_of_pos (by rw [hq]; rfl)]
        exact hx29
      · refine ⟨⟨i + 1, rfl, by omega, m11.trans m1122, ?_, hn⟩, by simp only; omega⟩
        rw [htk, List.filter_append, List.filter_cons_of_neg (by rw [hq]; simp), List.filter_nil, List.append_nil]
        exact hx22
    · have hti : B.take i = B := List.take_of_length_le (by omega)
      rw [hti] at hx
      have h1' := m11.at' h1
      refine ⟨⟨_, by rw [cl2 h1']; rfl⟩, fz2 h1' _ _, ?_⟩
      intro w39 e39
      have m39 : Mod (on r) w11 w39 := by subst e39; exact Mod.set2 _ _ _ _ _
      have b39 : w39.heap[r]? = some (.cells #[.slice a l c, .slice p q s] 29 (0, 0)) := by subst e39; rw [set2 h1']; rfl
      clear e39
      have hpr : ¬ rowB p r := fun hk => by have := hn r hk; omega
      exact h w39 ⟨a, l, c, p, q, s, b39, (h2.no m11).mod m39 (fun k hk hS => by cases hS; exact h4 hk), hx.mod m39 (fun k hk hS => by cases hS; exact hpr hk), h4, hpr⟩ ((m05.trans m11).no_trans m39)
  · rw [if_neg hb, if_neg hb] at h
    rw [decide_eq_false hb]
    exact ifK_of (fun _ => h w5 hR5 m05.of_no) fun h => by cases h
end Go.Proofs.YtehhhkcemmfjpaaGreatDoor

/- The formulas of functions, printed by a program of mine (gen.py) out of the translation. -/
namespace Go.Proofs.YtehhhkcemmfjpaaGreatDoor
open Go Go.Proofs.YtehhhkcemmfjpaaGreatDoor.St
set_option maxRecDepth 100000

/-- (*staith/staithref07.Table).Drop -/
noncomputable def C38 : Code := (Tryz.f38.body).getD .skip
def pl38 : Nat → Plan := fun _ => .done
def ls38 : Nat → List (Nat × LT)
  | 6 => [(0, .agg []), (7, (.one .slice))]
  | 8 => [(7, (.one .slice)), (26, (.one (.int .i64)))]
  | 17 => [(10, (.one .slice)), (44, (.one (.int .i64)))]
  | _ => []
def W38 (t : Option Addr) (name : ByteArray) (w : World) (R : Value → World → Prop) : Prop :=
  (Ca Tryz.prog (43) (Array.mk [Value.pointer t, Value.string name]) (w) (fun v0 => (fun w1 =>
    (∃ s2 : ByteArray, (∃ x3 : Int, (∃ b4 : Bool, (∃ b5 : Bool, ((v0 = Value.tuple (Array.mk (List.reverse [Value.bool b5, Value.agg (Array.mk (List.reverse [Value.bool b4, Value.int IntKind.i64 x3, Value.string s2]))]))) ∧ (atW (World.alloc w1 (Obj.cells (Array.mk [Value.string (ByteArray.mk #[]), Value.int IntKind.i64 0, Value.bool false]) 33 (0, 0))) (fun w6 =>
      ((∃ v7 : Value, (World.cell? w6 (Addr.add (Addr.mk (Array.size (World.heap w1)) 0 none) 0) = some v7)) ∧ ((World.frozen? w6 (Addr.add (Addr.mk (Array.size (World.heap w1)) 0 none) 0) = false) ∧ (atW (World.setCell w6 (Addr.add (Addr.mk (Array.size (World.heap w1)) 0 none) 0) (Value.string s2)) (fun w8 =>
        ((∃ v9 : Value, (World.cell? w8 (Addr.add (Addr.mk (Array.size (World.heap w1)) 0 none) 1) = some v9)) ∧ ((World.frozen? w8 (Addr.add (Addr.mk (Array.size (World.heap w1)) 0 none) 1) = false) ∧ (atW (World.setCell w8 (Addr.add (Addr.mk (Array.size (World.heap w1)) 0 none) 1) (Value.int IntKind.i64 x3)) (fun w10 =>
          ((∃ v11 : Value, (World.cell? w10 (Addr.add (Addr.mk (Array.size (World.heap w1)) 0 none) 2) = some v11)) ∧ ((World.frozen? w10 (Addr.add (Addr.mk (Array.size (World.heap w1)) 0 none) 2) = false) ∧ (atW (World.setCell w10 (Addr.add (Addr.mk (Array.size (World.heap w1)) 0 none) 2) (Value.bool b4)) (fun w12 =>
            (ifK (!b5)
              (R (Value.int IntKind.i64 3) (w12))
              (∃ z13 : Option Addr → Nat → Nat → World → Prop, ((onP (t) (fun a14 =>
                (∃ p15 : Option Addr, (∃ n16 : Nat, (∃ n17 : Nat, ((World.cell? w12 (Addr.add a14 0) = some (Value.slice p15 n16 n17)) ∧ (∃ z18 : Option Addr → Nat → Nat → Int → World → Prop, (∃ z19 : Option Addr → Nat → Nat → Int → World → Nat, ((z18 (none) (0) (0) (0) (w12)) ∧ (∀ (_ : Nat → Value), (∀ (p21 : Option Addr), (∀ (n22 : Nat), (∀ (n23 : Nat), (∀ (x24 : Int), (∀ (w25 : World), ((z18 (p21) (n22) (n23) (x24) (w25)) → (ifK (decide (x24 < (↑n16 : Int)))
                  (∃ a26 : Addr, ((p15 = some a26) ∧ (((0 : Int) ≤ x24) ∧ (((x24 : Int) < (↑n16 : Int)) ∧ (∃ s27 : ByteArray, ((World.cell? w25 (Addr.add (Addr.add a26 (Int.toNat x24 * 3)) 0) = some (Value.string s27)) ∧ (∃ x28 : Int, ((World.cell? w25 (Addr.add (Addr.add a26 (Int.toNat x24 * 3)) 1) = some (Value.int IntKind.i64 x28)) ∧ (∃ b29 : Bool, ((World.cell? w25 (Addr.add (Addr.add a26 (Int.toNat x24 * 3)) 2) = some (Value.bool b29)) ∧ (atW (World.alloc w25 (Obj.cells (Array.mk [Value.string (ByteArray.mk #[]), Value.int IntKind.i64 0, Value.bool false]) 33 (0, 0))) (fun w30 =>
                    ((∃ v31 : Value, (World.cell? w30 (Addr.add (Addr.mk (Array.size (World.heap w25)) 0 none) 0) = some v31)) ∧ ((World.frozen? w30 (Addr.add (Addr.mk (Array.size (World.heap w25)) 0 none) 0) = false) ∧ (atW (World.setCell w30 (Addr.add (Addr.mk (Array.size (World.heap w25)) 0 none) 0) (Value.string s27)) (fun w32 =>
                      ((∃ v33 : Value, (World.cell? w32 (Addr.add (Addr.mk (Array.size (World.heap w25)) 0 none) 1) = some v33)) ∧ ((World.frozen? w32 (Addr.add (Addr.mk (Array.size (World.heap w25)) 0 none) 1) = false) ∧ (atW (World.setCell w32 (Addr.add (Addr.mk (Array.size (World.heap w25)) 0 none) 1) (Value.int IntKind.i64 x28)) (fun w34 =>
                        ((∃ v35 : Value, (World.cell? w34 (Addr.add (Addr.mk (Array.size (World.heap w25)) 0 none) 2) = some v35)) ∧ ((World.frozen? w34 (Addr.add (Addr.mk (Array.size (World.heap w25)) 0 none) 2) = false) ∧ (atW (World.setCell w34 (Addr.add (Addr.mk (Array.size (World.heap w25)) 0 none) 2) (Value.bool b29)) (fun w36 =>
                          (∃ s37 : ByteArray, ((World.cell? w36 (Addr.add (Addr.mk (Array.size (World.heap w25)) 0 none) 0) = some (Value.string s37)) ∧ (ifK (!ByteArray.toList s37 == ByteArray.toList name)
                            (∃ s38 : ByteArray, ((World.cell? w36 (Addr.add (Addr.mk (Array.size (World.heap w25)) 0 none) 0) = some (Value.string s38)) ∧ (∃ x39 : Int, ((World.cell? w36 (Addr.add (Addr.mk (Array.size (World.heap w25)) 0 none) 1) = some (Value.int IntKind.i64 x39)) ∧ (∃ b40 : Bool, ((World.cell? w36 (Addr.add (Addr.mk (Array.size (World.heap w25)) 0 none) 2) = some (Value.bool b40)) ∧ (atW (World.alloc w36 (Obj.cells (Array.mk [Value.string s38, Value.int IntKind.i64 x39, Value.bool b40]) 33 (0, 0))) (fun w41 =>
                              (∃ v42 : Value, (∃ w43 : World, ((Sem.run Tryz.prog (Builtin.append_ (Array.mk [26, 26]) 26 (Array.mk [Value.slice p21 n22 n23, Value.slice (some (Addr.mk (Array.size (World.heap w36)) 0 none)) 1 1])) w41 = Result.ok v42 w43) ∧ (∃ p44 : Option Addr, (∃ n45 : Nat, (∃ n46 : Nat, ((v42 = Value.slice p44 n45 n46) ∧ ((z18 (p44) (n45) (n46) (IntKind.wrap IntKind.i64 (x24 + 1)) (w43)) ∧ (z19 p44 n45 n46 (IntKind.wrap IntKind.i64 (x24 + 1)) w43 < z19 p21 n22 n23 x24 w25)))))))))))))))))
                            ((z18 (p21) (n22) (n23) (IntKind.wrap IntKind.i64 (x24 + 1)) (w36)) ∧ (z19 p21 n22 n23 (IntKind.wrap IntKind.i64 (x24 + 1)) w36 < z19 p21 n22 n23 x24 w25)))))))))))))))))))))))))))))
                  (z13 (p21) (n22) (n23) (w25))))))))))))))))))) ∧ (∀ (_ : Nat → Value), (∀ (p48 : Option Addr), (∀ (n49 : Nat), (∀ (n50 : Nat), (∀ (w51 : World), ((z13 (p48) (n49) (n50) (w51)) → (onP (t) (fun a52 =>
                (∃ p53 : Option Addr, (∃ n54 : Nat, (∃ n55 : Nat, ((World.cell? w51 (Addr.add a52 1) = some (Value.slice p53 n54 n55)) ∧ (∃ z56 : Option Addr → Nat → Nat → Int → World → Prop, (∃ z57 : Option Addr → Nat → Nat → Int → World → Nat, ((z56 (none) (0) (0) (0) (w51)) ∧ (∀ (_ : Nat → Value), (∀ (p59 : Option Addr), (∀ (n60 : Nat), (∀ (n61 : Nat), (∀ (x62 : Int), (∀ (w63 : World), ((z56 (p59) (n60) (n61) (x62) (w63)) → (ifK (decide (x62 < (↑n54 : Int)))
                  (∃ a64 : Addr, ((p53 = some a64) ∧ (((0 : Int) ≤ x62) ∧ (((x62 : Int) < (↑n54 : Int)) ∧ (∃ s65 : ByteArray, ((World.cell? w63 (Addr.add (Addr.add a64 (Int.toNat x62 * 3)) 0) = some (Value.string s65)) ∧ (∃ s66 : ByteArray, ((World.cell? w63 (Addr.add (Addr.add a64 (Int.toNat x62 * 3)) 1) = some (Value.string s66)) ∧ (∃ s67 : ByteArray, ((World.cell? w63 (Addr.add (Addr.add a64 (Int.toNat x62 * 3)) 2) = some (Value.string s67)) ∧ (atW (World.alloc w63 (Obj.cells (Array.mk [Value.string (ByteArray.mk #[]), Value.string (ByteArray.mk #[]), Value.string (ByteArray.mk #[])]) 35 (0, 0))) (fun w68 =>
                    ((∃ v69 : Value, (World.cell? w68 (Addr.add (Addr.mk (Array.size (World.heap w63)) 0 none) 0) = some v69)) ∧ ((World.frozen? w68 (Addr.add (Addr.mk (Array.size (World.heap w63)) 0 none) 0) = false) ∧ (atW (World.setCell w68 (Addr.add (Addr.mk (Array.size (World.heap w63)) 0 none) 0) (Value.string s65)) (fun w70 =>
                      ((∃ v71 : Value, (World.cell? w70 (Addr.add (Addr.mk (Array.size (World.heap w63)) 0 none) 1) = some v71)) ∧ ((World.frozen? w70 (Addr.add (Addr.mk (Array.size (World.heap w63)) 0 none) 1) = false) ∧ (atW (World.setCell w70 (Addr.add (Addr.mk (Array.size (World.heap w63)) 0 none) 1) (Value.string s66)) (fun w72 =>
                        ((∃ v73 : Value, (World.cell? w72 (Addr.add (Addr.mk (Array.size (World.heap w63)) 0 none) 2) = some v73)) ∧ ((World.frozen? w72 (Addr.add (Addr.mk (Array.size (World.heap w63)) 0 none) 2) = false) ∧ (atW (World.setCell w72 (Addr.add (Addr.mk (Array.size (World.heap w63)) 0 none) 2) (Value.string s67)) (fun w74 =>
                          (∃ s75 : ByteArray, ((World.cell? w74 (Addr.add (Addr.mk (Array.size (World.heap w63)) 0 none) 0) = some (Value.string s75)) ∧ (ifK (!ByteArray.toList s75 == ByteArray.toList name)
                            (∃ s76 : ByteArray, ((World.cell? w74 (Addr.add (Addr.mk (Array.size (World.heap w63)) 0 none) 0) = some (Value.string s76)) ∧ (∃ s77 : ByteArray, ((World.cell? w74 (Addr.add (Addr.mk (Array.size (World.heap w63)) 0 none) 1) = some (Value.string s77)) ∧ (∃ s78 : ByteArray, ((World.cell? w74 (Addr.add (Addr.mk (Array.size (World.heap w63)) 0 none) 2) = some (Value.string s78)) ∧ (atW (World.alloc w74 (Obj.cells (Array.mk [Value.string s76, Value.string s77, Value.string s78]) 35 (0, 0))) (fun w79 =>
                              (∃ v80 : Value, (∃ w81 : World, ((Sem.run Tryz.prog (Builtin.append_ (Array.mk [27, 27]) 27 (Array.mk [Value.slice p59 n60 n61, Value.slice (some (Addr.mk (Array.size (World.heap w74)) 0 none)) 1 1])) w79 = Result.ok v80 w81) ∧ (∃ p82 : Option Addr, (∃ n83 : Nat, (∃ n84 : Nat, ((v80 = Value.slice p82 n83 n84) ∧ ((z56 (p82) (n83) (n84) (IntKind.wrap IntKind.i64 (x62 + 1)) (w81)) ∧ (z57 p82 n83 n84 (IntKind.wrap IntKind.i64 (x62 + 1)) w81 < z57 p59 n60 n61 x62 w63)))))))))))))))))
                            ((z56 (p59) (n60) (n61) (IntKind.wrap IntKind.i64 (x62 + 1)) (w74)) ∧ (z57 p59 n60 n61 (IntKind.wrap IntKind.i64 (x62 + 1)) w74 < z57 p59 n60 n61 x62 w63)))))))))))))))))))))))))))))
                  (onP (t) (fun a85 =>
                    ((∃ v86 : Value, (World.cell? w63 (Addr.add (Addr.add a85 0) 0) = some v86)) ∧ ((World.frozen? w63 (Addr.add (Addr.add a85 0) 0) = false) ∧ (atW (World.setCell w63 (Addr.add (Addr.add a85 0) 0) (Value.slice p48 n49 n50)) (fun w87 =>
                      (onP (t) (fun a88 =>
                        ((∃ v89 : Value, (World.cell? w87 (Addr.add (Addr.add a88 1) 0) = some v89)) ∧ ((World.frozen? w87 (Addr.add (Addr.add a88 1) 0) = false) ∧ (atW (World.setCell w87 (Addr.add (Addr.add a88 1) 0) (Value.slice p59 n60 n61)) (fun w90 =>
                          (R (Value.int IntKind.i64 0) (w90))))))))))))))))))))))))))))))))))))))))))))))))))))))))))))))
theorem ca38 (t : Option Addr) (name : ByteArray) (w : World) (R : Value → World → Prop) (h : W38 t name w R) : Ca Tryz.prog 38 ⟨[(.pointer t), (.string name)]⟩ w R := by
  have h1 : Tryz.prog.follows .mixedOrders = true := by kernel_rfl
  have h2 : Tryz.f38.body = some C38 := by kernel_rfl
  have h3 : (Tryz.f38.name == "runtime.NumGoroutine") = false := by kernel_rfl
  have h6 : Tryz.f38.results.toList = [.tmp 4] := by kernel_rfl
  have h4 : Nat.ble 2 65 = true := by kernel_rfl
  have h5 : okCode 65 pl38 ls38 C38 0 = true := by kernel_rfl
  have e : W38 t name w R = wpC none Tryz.prog 65 pl38 ls38 C38 0 (endP Tryz.prog [.tmp 4] R) (fr0 [(.pointer t), (.string name)]) [] w := by kernel_rfl
  exact ca_of' (P := Tryz.prog) (g := 38) (fn := Tryz.f38) (c := C38) (m := 65) (rs := [.tmp 4]) (args := [(.pointer t), (.string name)]) (pl := pl38) (ls := ls38) (w := w) (R := R) h1 Tryz.func38 h2 Tryz.ntmps38 h6 h3 h4 h5 (Eq.mp e h)
end Go.Proofs.YtehhhkcemmfjpaaGreatDoor

/- The reference's Drop. -/
namespace Go.Proofs.YtehhhkcemmfjpaaGreatDoor
open Go Go.Proofs.YtehhhkcemmfjpaaGreatDoor Go.Proofs.YtehhhkcemmfjpaaGreatDoor.St

/-- append(l, x), where x lies in a block of its own. -/
theorem pushX {w : World} {a : Option Addr} {l c : Nat} {L : List Exc} (h : Rx excL 33 w a l c L) {k : Nat} {x : Exc} (hk : Xc w k x) (hn : l + 1 ≤ 1099511627776) :
    ∃ a' c' w', (Builtin.append_ #[26, 26] 26 #[.slice a l c, .slice (some ⟨k, 0, none⟩) 1 1]).run Tryz.prog w = .ok (.slice a' (l + 1) c') w' ∧ Rx excL 33 w' a' (l + 1) c' (L ++ [x]) ∧ Mod (rowB a) w w' ∧ (∀ k, rowB a' k → rowB a k ∨ w.heap.size ≤ k) :=
  Row.push (P := Tryz.prog) (t := 26) (ty := 26) (by kernel_rfl) h (b := some ⟨k, 0, none⟩) (m := 1) (cc := 1) (ys := [x]) rfl (fun ad had j v hj => by
    cases had
    rw [cl1 hk]
    simpa [excL, Exc.cs] using hj) (fun h => by cases h) hn
theorem dropR_ok {w : World} {r : Nat} {X : List Exc} {B : List Bnd} (hR : RTb w r X B) (n : ByteArray) (hl : B.length < 1000000000) (hlx : X.length < 1000000000) (R : Value → World → Prop)
    (h : ∀ w', RTb w' r (if hx n X then X.filter fun e => !(e.n == n) else X) (if hx n X then B.filter fun b => !decide (b.x = n) else B) → Mod (on r) w w' → R (.int .i64 (if hx n X then 0 else 3)) w') :
    Ca Tryz.prog 38 #[.pointer (some ⟨r, 0, none⟩), .string n] w R := by
  refine ca38 (some ⟨r, 0, none⟩) n w R ?_
  refine findR_ok hR n hlx _ fun w1 m1 => ⟨_, _, _, _, rfl, ?_⟩
  intro w6 e6
  have m6 : Mod no w1 w6 := by subst e6; exact Mod.alloc _ _
  have b6 : Xc w6 w1.heap.size exc0 := by subst e6; exact new_at _ _
  clear e6
  refine put3 b6 fun w12 m12 b12 => ?_
  have m112 : Mod no w1 w12 := m6.new m12 fun k hk => by cases hk; exact Nat.le_refl _
  have m012 := m1.trans m112
  have hR12 := hR.no m012
  cases hh : hx n X with
  | false =>
    rw [hh] at h
    exact ifK_of (fun _ => h w12 hR12 m012.of_no) fun h => by cases h
  | true =>
    rw [hh] at h
    simp only [if_true] at h
    refine ifK_of (fun h => by cases h) fun _ => ?_
    obtain ⟨a, l, c, a', l', c', h1, h2, h3, h4, h5⟩ := hR12.ex
    have hxl := h2.len.1
    have hbl := h3.len.1
    have hrlt : r < w.heap.size := by obtain ⟨_, _, _, _, _, _, hh, _⟩ := hR.ex; exact lt_of_heap hh
    have g0 := m012.size
    refine ⟨fun p q s w' => Mod no w12 w' ∧ Rx excL 33 w' p q s (X.filter fun e => !(e.n == n)) ∧ ∀ k, rowB p k → w12.heap.size ≤ k, ?_, ?_⟩
    · refine ⟨a, l, c, by rw [cl1 h1]; rfl, ?_⟩
      refine ⟨fun p q s x w' => ∃ i : Nat, x = i ∧ i ≤ l ∧ Mod no w12 w' ∧ Rx excL 33 w' p q s ((X.take i).filter fun e => !(e.n == n)) ∧ ∀ k, rowB p k → w12.heap.size ≤ k, fun _ _ _ x _ => ((l : Int) - x).toNat,
        ⟨0, rfl, by omega, Mod.refl _ _, Row.empty _ _ _, fun k hk => by cases hk⟩, ?_⟩
      rintro _ p q s _ w11 ⟨i, rfl, hi, m11, hx, hn⟩
      have hql := hx.len.1
      have hqi : q ≤ i := by
        have : ((X.take i).filter fun e => !(e.n == n)).length ≤ (X.take i).length := List.length_filter_le _ _
        rw [List.length_take] at this
        omega
      refine ifK_dec (fun hlt => ?_) (fun hge => ?_)
      · have hil : i < X.length := by omega
        have htk : X.take (i + 1) = X.take i ++ [at0 X i] := by rw [List.take_succ_eq_append_getElem hil, at0_eq hil]
        have e1 : IntKind.i64.wrap ((i : Int) + 1) = ((i + 1 : Nat) : Int) := (by first | (simp only [IntKind.wrap_i64]; omega) | omega)
        rw [e1]
        clear e1
        refine (h2.no m11).cellX (by omega) ?_
        intro w16 e16
        have m16 : Mod no w11 w16 := by subst e16; exact Mod.alloc _ _
        have b16 : Xc w16 w11.heap.size exc0 := by subst e16; exact new_at _ _
        clear e16
        refine put3 b16 fun w22 m22 b22 => ⟨_, by rw [cl1 b22]; rfl, ?_⟩
        have m1122 : Mod no w11 w22 := m16.new m22 fun k hk => by cases hk; exact Nat.le_refl _
        have hx22 := hx.no m1122
        rw [toList_beq]
        refine ifK_not (fun hq => ?_) (fun hq => ?_)
        · refine ⟨_, by rw [cl1 b22]; rfl, _, by rw [cl1 b22]; rfl, _, by rw [cl1 b22]; rfl, ?_⟩
          intro w27 e27
          have m27 : Mod no w22 w27 := by subst e27; exact Mod.alloc _ _
          have b27 : Xc w27 w22.heap.size (at0 X i) := by subst e27; exact new_at _ _
          clear e27
          obtain ⟨p', s', w29, hrun, hx29, m29, hnew⟩ := pushX (hx22.no m27) b27 (by omega)
          have g1 := m11.size
          have g2 := m1122.size
          have g3 := m27.size
          refine ⟨_, w29, hrun, _, _, _, rfl, ⟨i + 1, rfl, by omega, ((m11.trans m1122).trans m27).new m29 hn, ?_, fun k hk => (hnew k hk).elim (hn k) fun h => by omega⟩, by simp only; omega⟩
          have : ((at0 X i).n == n) = false := beq_false_of_ne (of_decide_eq_false hq)
          rw [htk, List.filter_append, List.filter_cons_of_pos (by rw [this]; rfl)]
          exact hx29
        · refine ⟨⟨i + 1, rfl, by omega, m11.trans m1122, ?_, hn⟩, by simp only; omega⟩
          have : ((at0 X i).n == n) = true := by rw [of_decide_eq_true hq]; exact beq_self_eq_true _
          rw [htk, List.filter_append, List.filter_cons_of_neg (by rw [this]; simp), List.filter_nil, List.append_nil]
          exact hx22
      · have hti : X.take i = X := List.take_of_length_le (by omega)
        rw [hti] at hx
        exact ⟨m11, hx, hn⟩
    rintro _ xp xq xs w51 ⟨m51, hX, hXn⟩
    have h1 := m51.at' h1
    have h3 := h3.no m51
    refine ⟨a', l', c', by rw [cl1 h1]; rfl, ?_⟩
    refine ⟨fun p q s x w' => ∃ i : Nat, x = i ∧ i ≤ l' ∧ Mod no w51 w' ∧ Rx bndL 35 w' p q s ((B.take i).filter fun b => !decide (b.x = n)) ∧ ∀ k, rowB p k → w51.heap.size ≤ k, fun _ _ _ x _ => ((l' : Int) - x).toNat,
      ⟨0, rfl, by omega, Mod.refl _ _, Row.empty _ _ _, fun k hk => by cases hk⟩, ?_⟩
    rintro _ p q s _ w11 ⟨i, rfl, hi, m11, hx, hn⟩
    have hql := hx.len.1
    have hqi : q ≤ i := by
      have : ((B.take i).filter fun b => !decide (b.x = n)).length ≤ (B.take i).length := List.length_filter_le _ _
      rw [List.length_take] at this
      omega
    refine ifK_dec (fun hlt => ?_) (fun hge => ?_)
    · have hil : i < B.length := by omega
      have htk : B.take (i + 1) = B.take i ++ [at0 B i] := by rw [List.take_succ_eq_append_getElem hil, at0_eq hil]
      have e1 : IntKind.i64.wrap ((i : Int) + 1) = ((i + 1 : Nat) : Int) := (by first | (simp only [IntKind.wrap_i64]; omega) | omega)
      rw [e1]
      clear e1
      refine (h3.no m11).cellB (by omega) ?_
      intro w16 e16
      have m16 : Mod no w11 w16 := by subst e16; exact Mod.alloc _ _
      have b16 : w16.heap[w11.heap.size]? = some (.cells #[.string (ByteArray.mk #[]), .string (ByteArray.mk #[]), .string (ByteArray.mk #[])] 35 (0, 0)) := by subst e16; exact empty3
      clear e16
      refine put3 b16 fun w22 m22 b22 => ⟨_, by rw [cl1 b22]; rfl, ?_⟩
      have m1122 : Mod no w11 w22 := m16.new m22 fun k hk => by cases hk; exact Nat.le_refl _
      have hx22 := hx.no m1122
      rw [toList_beq]
      refine ifK_not (fun hq => ?_) (fun hq => ?_)
      · refine ⟨_, by rw [cl1 b22]; rfl, _, by rw [cl1 b22]; rfl, _, by rw [cl1 b22]; rfl, ?_⟩
        intro w27 e27
        have m27 : Mod no w22 w27 := by subst e27; exact Mod.alloc _ _
        have b27 : Bc w27 w22.heap.size (at0 B i) := by subst e27; exact new_at _ _
        clear e27
        obtain ⟨p', s', w29, hrun, hx29, m29, hnew⟩ := pushB (hx22.no m27) b27 (by omega)
        have g1 := m11.size
        have g2 := m1122.size
        have g3 := m27.size
        refine ⟨_, w29, hrun, _, _, _, rfl, ⟨i + 1, rfl, by omega, ((m11.trans m1122).trans m27).new m29 hn, ?_, fun k hk => (hnew k hk).elim (hn k) fun h => by omega⟩, by simp only; omega⟩
        rw [htk, List.filter_append, List.filter_cons_of_pos (by rw [hq]; rfl)]
        exact hx29
      · refine ⟨⟨i + 1, rfl, by omega, m11.trans m1122, ?_, hn⟩, by simp only; omega⟩
        rw [htk, List.filter_append, List.filter_cons_of_neg (by rw [hq]; simp), List.filter_nil, List.append_nil]
        exact hx22
    · have hti : B.take i = B := List.take_of_length_le (by omega)
      rw [hti] at hx
      have h1' := m11.at' h1
      have g5 := m51.size
      have hX := hX.no m11
      refine ⟨⟨_, by rw [cl2 h1']; rfl⟩, fz2 h1' _ _, ?_⟩
      intro w87 e87
      have m87 : Mod (on r) w11 w87 := by subst e87; exact Mod.set2 _ _ _ _ _
      have b87 : w87.heap[r]? = some (.cells #[.slice xp xq xs, .slice a' l' c'] 29 (0, 0)) := by subst e87; rw [set2 h1']; rfl
      clear e87
      refine ⟨⟨_, by rw [cl2 b87]; rfl⟩, fz2 b87 _ _, ?_⟩
      intro w90 e90
      have m90 : Mod (on r) w87 w90 := by subst e90; exact Mod.set2 _ _ _ _ _
      have b90 : w90.heap[r]? = some (.cells #[.slice xp xq xs, .slice p q s] 29 (0, 0)) := by subst e90; rw [set2 b87]; rfl
      clear e90
      have hpr : ¬ rowB p r := fun hk => by have := hn r hk; omega
      have hxr : ¬ rowB xp r := fun hk => by have := hXn r hk; omega
      have m := m87.trans m90
      exact h w90 ⟨xp, xq, xs, p, q, s, b90, hX.mod m (fun k hk hS => by cases hS; exact hxr hk), hx.mod m (fun k hk hS => by cases hS; exact hpr hk), hxr, hpr⟩ (((m012.trans m51).trans m11).no_trans m)
end Go.Proofs.YtehhhkcemmfjpaaGreatDoor

/- The formulas of functions, printed by a program of mine (gen.py) out of the translation. -/
namespace Go.Proofs.YtehhhkcemmfjpaaGreatDoor
open Go Go.Proofs.YtehhhkcemmfjpaaGreatDoor.St
set_option maxRecDepth 100000

/-- (*staith/staithref07.Table).Declare -/
noncomputable def C36 : Code := (Tryz.f36.body).getD .skip
def pl36 : Nat → Plan
  | 10 => (.quiet 1 (.quiet 2 (.quiet 3 (.quiet 4 (.quiet 6 (.fork (.eff 0 [4, 6] (.fork (.eff 5 [6] (.eff 7 [4] (.eff 8 [] (.quiet 9 .done)))) (.eff 7 [4] (.eff 5 [6] (.eff 8 [] (.quiet 9 .done)))))) (.eff 7 [4] (.eff 0 [4, 6] (.eff 5 [6] (.eff 8 [] (.quiet 9 .done)))))))))))
  | 12 => (.quiet 0 (.quiet 1 (.quiet 2 (.quiet 3 (.quiet 4 (.quiet 5 (.quiet 6 (.quiet 7 (.quiet 8 (.quiet 9 (.quiet 10 (.quiet 11 (.quiet 12 (.quiet 13 (.quiet 14 (.quiet 15 .done))))))))))))))))
  | 14 => (.quiet 0 (.quiet 1 (.quiet 2 (.quiet 3 (.quiet 4 (.quiet 5 (.quiet 6 (.quiet 7 (.quiet 8 (.quiet 9 (.quiet 10 (.quiet 11 (.quiet 12 (.quiet 13 (.quiet 14 (.eff 15 [] (.quiet 16 (.eff 17 [] .done))))))))))))))))))
  | _ => .done
def ls36 : Nat → List (Nat × LT)
  | 5 => [(0, .agg []), (5, (.one .ptr)), (6, (.one .bool))]
  | 14 => [(0, .agg []), (7, (.one .slice))]
  | 17 => [(8, (.one (.int .i64)))]
  | _ => []
def W36 (t : Option Addr) (x0_ : ByteArray) (x1_ : Int) (x2_ : Bool) (w : World) (R : Value → World → Prop) : Prop :=
  (atW (World.alloc w (Obj.cells (Array.mk [Value.string x0_, Value.int IntKind.i64 x1_, Value.bool x2_]) 33 (0, 0))) (fun w0 =>
    (∃ s1 : ByteArray, ((World.cell? w0 (Addr.add (Addr.mk (Array.size (World.heap w)) 0 none) 0) = some (Value.string s1)) ∧ (∃ x2 : Int, ((World.cell? w0 (Addr.add (Addr.mk (Array.size (World.heap w)) 0 none) 1) = some (Value.int IntKind.i64 x2)) ∧ (∃ b3 : Bool, ((World.cell? w0 (Addr.add (Addr.mk (Array.size (World.heap w)) 0 none) 2) = some (Value.bool b3)) ∧ (Ca Tryz.prog (37) (Array.mk [Value.agg (Array.mk (List.reverse [Value.bool b3, Value.int IntKind.i64 x2, Value.string s1]))]) (w0) (fun v4 => (fun w5 =>
      (∃ b6 : Bool, ((v4 = Value.bool b6) ∧ (ifK (!b6)
        (R (Value.int IntKind.i64 2) (w5))
        (∃ z7 : Option Addr → Bool → World → Prop, ((∃ s8 : ByteArray, ((World.cell? w5 (Addr.add (Addr.mk (Array.size (World.heap w)) 0 none) 0) = some (Value.string s8)) ∧ (Ca Tryz.prog (43) (Array.mk [Value.pointer t, Value.string s8]) (w5) (fun v9 => (fun w10 =>
          (∃ s11 : ByteArray, (∃ x12 : Int, (∃ b13 : Bool, (∃ b14 : Bool, ((v9 = Value.tuple (Array.mk (List.reverse [Value.bool b14, Value.agg (Array.mk (List.reverse [Value.bool b13, Value.int IntKind.i64 x12, Value.string s11]))]))) ∧ (atW (World.alloc w10 (Obj.cells (Array.mk [Value.string (ByteArray.mk #[]), Value.int IntKind.i64 0, Value.bool false]) 33 (0, 0))) (fun w15 =>
            ((∃ v16 : Value, (World.cell? w15 (Addr.add (Addr.mk (Array.size (World.heap w10)) 0 none) 0) = some v16)) ∧ ((World.frozen? w15 (Addr.add (Addr.mk (Array.size (World.heap w10)) 0 none) 0) = false) ∧ (atW (World.setCell w15 (Addr.add (Addr.mk (Array.size (World.heap w10)) 0 none) 0) (Value.string s11)) (fun w17 =>
              ((∃ v18 : Value, (World.cell? w17 (Addr.add (Addr.mk (Array.size (World.heap w10)) 0 none) 1) = some v18)) ∧ ((World.frozen? w17 (Addr.add (Addr.mk (Array.size (World.heap w10)) 0 none) 1) = false) ∧ (atW (World.setCell w17 (Addr.add (Addr.mk (Array.size (World.heap w10)) 0 none) 1) (Value.int IntKind.i64 x12)) (fun w19 =>
                ((∃ v20 : Value, (World.cell? w19 (Addr.add (Addr.mk (Array.size (World.heap w10)) 0 none) 2) = some v20)) ∧ ((World.frozen? w19 (Addr.add (Addr.mk (Array.size (World.heap w10)) 0 none) 2) = false) ∧ (atW (World.setCell w19 (Addr.add (Addr.mk (Array.size (World.heap w10)) 0 none) 2) (Value.bool b13)) (fun w21 =>
                  (z7 (some (Addr.mk (Array.size (World.heap w10)) 0 none)) (b14) (w21)))))))))))))))))))))))))) ∧ (∀ (_ : Nat → Value), (∀ (p23 : Option Addr), (∀ (b24 : Bool), (∀ (w25 : World), ((z7 (p23) (b24) (w25)) → (ifK (b24)
          (∃ s26 : ByteArray, ((World.cell? w25 (Addr.add (Addr.mk (Array.size (World.heap w)) 0 none) 0) = some (Value.string s26)) ∧ (∃ x27 : Int, ((World.cell? w25 (Addr.add (Addr.mk (Array.size (World.heap w)) 0 none) 1) = some (Value.int IntKind.i64 x27)) ∧ (∃ b28 : Bool, ((World.cell? w25 (Addr.add (Addr.mk (Array.size (World.heap w)) 0 none) 2) = some (Value.bool b28)) ∧ (onP (p23) (fun a29 =>
            (∃ s30 : ByteArray, ((World.cell? w25 (Addr.add a29 0) = some (Value.string s30)) ∧ (∃ x31 : Int, ((World.cell? w25 (Addr.add a29 1) = some (Value.int IntKind.i64 x31)) ∧ (∃ b32 : Bool, ((World.cell? w25 (Addr.add a29 2) = some (Value.bool b32)) ∧ (eqA Tryz.prog 33 (Value.agg (Array.mk (List.reverse [Value.bool b28, Value.int IntKind.i64 x27, Value.string s26]))) (Value.agg (Array.mk (List.reverse [Value.bool b32, Value.int IntKind.i64 x31, Value.string s30]))) (w25) (fun b33 => (fun w34 =>
              (ifK (!b33)
                (R (Value.int IntKind.i64 12) (w34))
                (R (Value.int IntKind.i64 0) (w34))))))))))))))))))))
          (onP (t) (fun a35 =>
            (∃ p36 : Option Addr, (∃ n37 : Nat, (∃ n38 : Nat, ((World.cell? w25 (Addr.add a35 0) = some (Value.slice p36 n37 n38)) ∧ (ifK (decide ((↑n37 : Int) ≥ 8))
              (R (Value.int IntKind.i64 5) (w25))
              (∃ z39 : Option Addr → Nat → Nat → World → Prop, ((atW (World.drew w25) (fun w40 =>
                (onP (t) (fun a41 =>
                  (∃ p42 : Option Addr, (∃ n43 : Nat, (∃ n44 : Nat, ((World.cell? w40 (Addr.add a41 0) = some (Value.slice p42 n43 n44)) ∧ (∃ s45 : ByteArray, ((World.cell? w40 (Addr.add (Addr.mk (Array.size (World.heap w)) 0 none) 0) = some (Value.string s45)) ∧ (∃ x46 : Int, ((World.cell? w40 (Addr.add (Addr.mk (Array.size (World.heap w)) 0 none) 1) = some (Value.int IntKind.i64 x46)) ∧ (∃ b47 : Bool, ((World.cell? w40 (Addr.add (Addr.mk (Array.size (World.heap w)) 0 none) 2) = some (Value.bool b47)) ∧ ((atW (World.alloc w40 (Obj.cells (Array.mk []) 33 (0, 0))) (fun w48 =>
                    ((World.cell? w48 (Addr.add (Addr.add a41 0) 0) = some (Value.slice p42 n43 n44)) ∧ ((World.cell? w48 (Addr.add (Addr.mk (Array.size (World.heap w)) 0 none) 0) = some (Value.string s45)) ∧ ((World.cell? w48 (Addr.add (Addr.mk (Array.size (World.heap w)) 0 none) 1) = some (Value.int IntKind.i64 x46)) ∧ ((World.cell? w48 (Addr.add (Addr.mk (Array.size (World.heap w)) 0 none) 2) = some (Value.bool b47)) ∧ ((∃ v49 : Value, (∃ w50 : World, ((Sem.run Tryz.prog (Builtin.append_ (Array.mk [26, 26]) 26 (Array.mk [Value.slice (some (Addr.mk (Array.size (World.heap w40)) 0 none)) 0 0, Value.slice p42 n43 n44])) w48 = Result.ok v49 w50) ∧ (∃ p51 : Option Addr, (∃ n52 : Nat, (∃ n53 : Nat, ((v49 = Value.slice p51 n52 n53) ∧ ((World.cell? w50 (Addr.add (Addr.mk (Array.size (World.heap w)) 0 none) 0) = some (Value.string s45)) ∧ ((World.cell? w50 (Addr.add (Addr.mk (Array.size (World.heap w)) 0 none) 1) = some (Value.int IntKind.i64 x46)) ∧ ((World.cell? w50 (Addr.add (Addr.mk (Array.size (World.heap w)) 0 none) 2) = some (Value.bool b47)) ∧ (atW (World.alloc w50 (Obj.cells (Array.mk [Value.string s45, Value.int IntKind.i64 x46, Value.bool b47]) 33 (0, 0))) (fun w54 =>
                      ((World.cell? w54 (Addr.add (Addr.add a41 0) 0) = some (Value.slice p42 n43 n44)) ∧ (∃ v55 : Value, (∃ w56 : World, ((Sem.run Tryz.prog (Builtin.append_ (Array.mk [26, 26]) 26 (Array.mk [Value.slice p51 n52 n53, Value.slice (some (Addr.mk (Array.size (World.heap w50)) 0 none)) 1 1])) w54 = Result.ok v55 w56) ∧ (∃ p57 : Option Addr, (∃ n58 : Nat, (∃ n59 : Nat, ((v55 = Value.slice p57 n58 n59) ∧ (z39 (p57) (n58) (n59) (w56)))))))))))))))))))))) ∧ (atW (World.alloc w48 (Obj.cells (Array.mk [Value.string s45, Value.int IntKind.i64 x46, Value.bool b47]) 33 (0, 0))) (fun w60 =>
                      ((World.cell? w60 (Addr.add (Addr.add a41 0) 0) = some (Value.slice p42 n43 n44)) ∧ (∃ v61 : Value, (∃ w62 : World, ((Sem.run Tryz.prog (Builtin.append_ (Array.mk [26, 26]) 26 (Array.mk [Value.slice (some (Addr.mk (Array.size (World.heap w40)) 0 none)) 0 0, Value.slice p42 n43 n44])) w60 = Result.ok v61 w62) ∧ (∃ p63 : Option Addr, (∃ n64 : Nat, (∃ n65 : Nat, ((v61 = Value.slice p63 n64 n65) ∧ ((World.cell? w62 (Addr.add (Addr.mk (Array.size (World.heap w)) 0 none) 0) = some (Value.string s45)) ∧ ((World.cell? w62 (Addr.add (Addr.mk (Array.size (World.heap w)) 0 none) 1) = some (Value.int IntKind.i64 x46)) ∧ ((World.cell? w62 (Addr.add (Addr.mk (Array.size (World.heap w)) 0 none) 2) = some (Value.bool b47)) ∧ (∃ v66 : Value, (∃ w67 : World, ((Sem.run Tryz.prog (Builtin.append_ (Array.mk [26, 26]) 26 (Array.mk [Value.slice p63 n64 n65, Value.slice (some (Addr.mk (Array.size (World.heap w48)) 0 none)) 1 1])) w62 = Result.ok v66 w67) ∧ (∃ p68 : Option Addr, (∃ n69 : Nat, (∃ n70 : Nat, ((v66 = Value.slice p68 n69 n70) ∧ (z39 (p68) (n69) (n70) (w67))))))))))))))))))))))))))))) ∧ (atW (World.alloc w40 (Obj.cells (Array.mk [Value.string s45, Value.int IntKind.i64 x46, Value.bool b47]) 33 (0, 0))) (fun w71 =>
                    ((World.cell? w71 (Addr.add (Addr.add a41 0) 0) = some (Value.slice p42 n43 n44)) ∧ (atW (World.alloc w71 (Obj.cells (Array.mk []) 33 (0, 0))) (fun w72 =>
                      ((World.cell? w72 (Addr.add (Addr.add a41 0) 0) = some (Value.slice p42 n43 n44)) ∧ ((World.cell? w72 (Addr.add (Addr.mk (Array.size (World.heap w)) 0 none) 0) = some (Value.string s45)) ∧ ((World.cell? w72 (Addr.add (Addr.mk (Array.size (World.heap w)) 0 none) 1) = some (Value.int IntKind.i64 x46)) ∧ ((World.cell? w72 (Addr.add (Addr.mk (Array.size (World.heap w)) 0 none) 2) = some (Value.bool b47)) ∧ (∃ v73 : Value, (∃ w74 : World, ((Sem.run Tryz.prog (Builtin.append_ (Array.mk [26, 26]) 26 (Array.mk [Value.slice (some (Addr.mk (Array.size (World.heap w71)) 0 none)) 0 0, Value.slice p42 n43 n44])) w72 = Result.ok v73 w74) ∧ (∃ p75 : Option Addr, (∃ n76 : Nat, (∃ n77 : Nat, ((v73 = Value.slice p75 n76 n77) ∧ ((World.cell? w74 (Addr.add (Addr.mk (Array.size (World.heap w)) 0 none) 0) = some (Value.string s45)) ∧ ((World.cell? w74 (Addr.add (Addr.mk (Array.size (World.heap w)) 0 none) 1) = some (Value.int IntKind.i64 x46)) ∧ ((World.cell? w74 (Addr.add (Addr.mk (Array.size (World.heap w)) 0 none) 2) = some (Value.bool b47)) ∧ (∃ v78 : Value, (∃ w79 : World, ((Sem.run Tryz.prog (Builtin.append_ (Array.mk [26, 26]) 26 (Array.mk [Value.slice p75 n76 n77, Value.slice (some (Addr.mk (Array.size (World.heap w40)) 0 none)) 1 1])) w74 = Result.ok v78 w79) ∧ (∃ p80 : Option Addr, (∃ n81 : Nat, (∃ n82 : Nat, ((v78 = Value.slice p80 n81 n82) ∧ (z39 (p80) (n81) (n82) (w79))))))))))))))))))))))))))))))))))))))))))) ∧ (∀ (_ : Nat → Value), (∀ (p84 : Option Addr), (∀ (n85 : Nat), (∀ (n86 : Nat), (∀ (w87 : World), ((z39 (p84) (n85) (n86) (w87)) → (∃ z88 : Int → World → Prop, (∃ z89 : Int → World → Nat, ((z88 (IntKind.wrap IntKind.i64 ((↑n85 : Int) - 1)) (w87)) ∧ (∀ (_ : Nat → Value), (∀ (x91 : Int), (∀ (w92 : World), ((z88 (x91) (w92)) → (atW (World.drew w92) (fun w93 =>
                (ifK (decide (x91 > 0))
                  (∃ a94 : Addr, ((p84 = some a94) ∧ (((0 : Int) ≤ IntKind.wrap IntKind.i64 (x91 - 1)) ∧ (((IntKind.wrap IntKind.i64 (x91 - 1) : Int) < (↑n85 : Int)) ∧ (∃ s95 : ByteArray, ((World.cell? w93 (Addr.add (Addr.add a94 (Int.toNat (IntKind.wrap IntKind.i64 (x91 - 1)) * 3)) 0) = some (Value.string s95)) ∧ (∃ a96 : Addr, ((p84 = some a96) ∧ (((0 : Int) ≤ x91) ∧ (((x91 : Int) < (↑n85 : Int)) ∧ (∃ s97 : ByteArray, ((World.cell? w93 (Addr.add (Addr.add a96 (Int.toNat x91 * 3)) 0) = some (Value.string s97)) ∧ (ifK (!(Op.bytesLess (ByteArray.toList s95) (ByteArray.toList s97) || ByteArray.toList s95 == ByteArray.toList s97))
                    (atW (World.drew w93) (fun w98 =>
                      (∃ a99 : Addr, ((p84 = some a99) ∧ (((0 : Int) ≤ x91) ∧ (((x91 : Int) < (↑n85 : Int)) ∧ (∃ s100 : ByteArray, ((World.cell? w98 (Addr.add (Addr.add a99 (Int.toNat x91 * 3)) 0) = some (Value.string s100)) ∧ (∃ x101 : Int, ((World.cell? w98 (Addr.add (Addr.add a99 (Int.toNat x91 * 3)) 1) = some (Value.int IntKind.i64 x101)) ∧ (∃ b102 : Bool, ((World.cell? w98 (Addr.add (Addr.add a99 (Int.toNat x91 * 3)) 2) = some (Value.bool b102)) ∧ (∃ a103 : Addr, ((p84 = some a103) ∧ (((0 : Int) ≤ IntKind.wrap IntKind.i64 (x91 - 1)) ∧ (((IntKind.wrap IntKind.i64 (x91 - 1) : Int) < (↑n85 : Int)) ∧ (∃ s104 : ByteArray, ((World.cell? w98 (Addr.add (Addr.add a103 (Int.toNat (IntKind.wrap IntKind.i64 (x91 - 1)) * 3)) 0) = some (Value.string s104)) ∧ (∃ x105 : Int, ((World.cell? w98 (Addr.add (Addr.add a103 (Int.toNat (IntKind.wrap IntKind.i64 (x91 - 1)) * 3)) 1) = some (Value.int IntKind.i64 x105)) ∧ (∃ b106 : Bool, ((World.cell? w98 (Addr.add (Addr.add a103 (Int.toNat (IntKind.wrap IntKind.i64 (x91 - 1)) * 3)) 2) = some (Value.bool b106)) ∧ (∃ a107 : Addr, ((p84 = some a107) ∧ (((0 : Int) ≤ IntKind.wrap IntKind.i64 (x91 - 1)) ∧ (((IntKind.wrap IntKind.i64 (x91 - 1) : Int) < (↑n85 : Int)) ∧ ((∃ v108 : Value, (World.cell? w98 (Addr.add (Addr.add a107 (Int.toNat (IntKind.wrap IntKind.i64 (x91 - 1)) * 3)) 0) = some v108)) ∧ ((World.frozen? w98 (Addr.add (Addr.add a107 (Int.toNat (IntKind.wrap IntKind.i64 (x91 - 1)) * 3)) 0) = false) ∧ (atW (World.setCell w98 (Addr.add (Addr.add a107 (Int.toNat (IntKind.wrap IntKind.i64 (x91 - 1)) * 3)) 0) (Value.string s100)) (fun w109 =>
                        ((∃ v110 : Value, (World.cell? w109 (Addr.add (Addr.add a107 (Int.toNat (IntKind.wrap IntKind.i64 (x91 - 1)) * 3)) 1) = some v110)) ∧ ((World.frozen? w109 (Addr.add (Addr.add a107 (Int.toNat (IntKind.wrap IntKind.i64 (x91 - 1)) * 3)) 1) = false) ∧ (atW (World.setCell w109 (Addr.add (Addr.add a107 (Int.toNat (IntKind.wrap IntKind.i64 (x91 - 1)) * 3)) 1) (Value.int IntKind.i64 x101)) (fun w111 =>
                          ((∃ v112 : Value, (World.cell? w111 (Addr.add (Addr.add a107 (Int.toNat (IntKind.wrap IntKind.i64 (x91 - 1)) * 3)) 2) = some v112)) ∧ ((World.frozen? w111 (Addr.add (Addr.add a107 (Int.toNat (IntKind.wrap IntKind.i64 (x91 - 1)) * 3)) 2) = false) ∧ (atW (World.setCell w111 (Addr.add (Addr.add a107 (Int.toNat (IntKind.wrap IntKind.i64 (x91 - 1)) * 3)) 2) (Value.bool b102)) (fun w113 =>
                            (∃ a114 : Addr, ((p84 = some a114) ∧ (((0 : Int) ≤ x91) ∧ (((x91 : Int) < (↑n85 : Int)) ∧ ((∃ v115 : Value, (World.cell? w113 (Addr.add (Addr.add a114 (Int.toNat x91 * 3)) 0) = some v115)) ∧ ((World.frozen? w113 (Addr.add (Addr.add a114 (Int.toNat x91 * 3)) 0) = false) ∧ (atW (World.setCell w113 (Addr.add (Addr.add a114 (Int.toNat x91 * 3)) 0) (Value.string s104)) (fun w116 =>
                              ((∃ v117 : Value, (World.cell? w116 (Addr.add (Addr.add a114 (Int.toNat x91 * 3)) 1) = some v117)) ∧ ((World.frozen? w116 (Addr.add (Addr.add a114 (Int.toNat x91 * 3)) 1) = false) ∧ (atW (World.setCell w116 (Addr.add (Addr.add a114 (Int.toNat x91 * 3)) 1) (Value.int IntKind.i64 x105)) (fun w118 =>
                                ((∃ v119 : Value, (World.cell? w118 (Addr.add (Addr.add a114 (Int.toNat x91 * 3)) 2) = some v119)) ∧ ((World.frozen? w118 (Addr.add (Addr.add a114 (Int.toNat x91 * 3)) 2) = false) ∧ (atW (World.setCell w118 (Addr.add (Addr.add a114 (Int.toNat x91 * 3)) 2) (Value.bool b106)) (fun w120 =>
                                  ((z88 (IntKind.wrap IntKind.i64 (x91 - 1)) (w120)) ∧ (z89 (IntKind.wrap IntKind.i64 (x91 - 1)) w120 < z89 x91 w92))))))))))))))))))))))))))))))))))))))))))))))))))))))))
                    (onP (t) (fun a121 =>
                      ((∃ v122 : Value, (World.cell? w93 (Addr.add (Addr.add a121 0) 0) = some v122)) ∧ ((World.frozen? w93 (Addr.add (Addr.add a121 0) 0) = false) ∧ (atW (World.setCell w93 (Addr.add (Addr.add a121 0) 0) (Value.slice p84 n85 n86)) (fun w123 =>
                        (R (Value.int IntKind.i64 0) (w123)))))))))))))))))))))
                  (onP (t) (fun a124 =>
                    ((∃ v125 : Value, (World.cell? w93 (Addr.add (Addr.add a124 0) 0) = some v125)) ∧ ((World.frozen? w93 (Addr.add (Addr.add a124 0) 0) = false) ∧ (atW (World.setCell w93 (Addr.add (Addr.add a124 0) 0) (Value.slice p84 n85 n86)) (fun w126 =>
                      (R (Value.int IntKind.i64 0) (w126)))))))))))))))))))))))))))))))))))))))))))))))))))))))
theorem ca36 (t : Option Addr) (x0_ : ByteArray) (x1_ : Int) (x2_ : Bool) (w : World) (R : Value → World → Prop) (h : W36 t x0_ x1_ x2_ w R) : Ca Tryz.prog 36 ⟨[(.pointer t), (.agg ⟨[(.string x0_), (.int .i64 x1_), (.bool x2_)]⟩)]⟩ w R := by
  have h1 : Tryz.prog.follows .mixedOrders = true := by kernel_rfl
  have h2 : Tryz.f36.body = some C36 := by kernel_rfl
  have h3 : (Tryz.f36.name == "runtime.NumGoroutine") = false := by kernel_rfl
  have h6 : Tryz.f36.results.toList = [.tmp 4] := by kernel_rfl
  have h4 : Nat.ble 2 79 = true := by kernel_rfl
  have h5 : okCode 79 pl36 ls36 C36 0 = true := by kernel_rfl
  have e : W36 t x0_ x1_ x2_ w R = wpC none Tryz.prog 79 pl36 ls36 C36 0 (endP Tryz.prog [.tmp 4] R) (fr0 [(.pointer t), (.agg ⟨[(.string x0_), (.int .i64 x1_), (.bool x2_)]⟩)]) [] w := by kernel_rfl
  exact ca_of' (P := Tryz.prog) (g := 36) (fn := Tryz.f36) (c := C36) (m := 79) (rs := [.tmp 4]) (args := [(.pointer t), (.agg ⟨[(.string x0_), (.int .i64 x1_), (.bool x2_)]⟩)]) (pl := pl36) (ls := ls36) (w := w) (R := R) h1 Tryz.func36 h2 Tryz.ntmps36 h6 h3 h4 h5 (Eq.mp e h)

/-- staith/staithref07.Same -/
noncomputable def C14 : Code := (Tryz.f14.body).getD .skip
def pl14 : Nat → Plan
  | 6 => (.quiet 0 (.quiet 1 (.quiet 2 (.quiet 3 (.quiet 4 (.quiet 5 (.quiet 6 (.quiet 7 (.quiet 8 (.quiet 9 (.quiet 10 (.eff 11 [] .done))))))))))))
  | 12 => (.quiet 0 (.quiet 1 (.quiet 2 (.quiet 3 (.quiet 4 (.quiet 5 (.quiet 6 (.quiet 7 (.quiet 8 (.quiet 9 (.quiet 10 (.eff 11 [] .done))))))))))))
  | _ => .done
def ls14 : Nat → List (Nat × LT)
  | 6 => [(29, (.one (.int .i64)))]
  | 15 => [(47, (.one (.int .i64)))]
  | _ => []
def W14 (xsa : Option Addr) (xsl : Nat) (_xsc : Nat) (bsa : Option Addr) (bsl : Nat) (_bsc : Nat) (t : Option Addr) (w : World) (R : Value → World → Prop) : Prop :=
  (onP (t) (fun a0 =>
    (∃ p1 : Option Addr, (∃ n2 : Nat, (∃ n3 : Nat, ((World.cell? w (Addr.add a0 0) = some (Value.slice p1 n2 n3)) ∧ (ifK ((↑xsl : Int) != (↑n2 : Int))
      (R (Value.bool false) (w))
      (onP (t) (fun a4 =>
        (∃ p5 : Option Addr, (∃ n6 : Nat, (∃ n7 : Nat, ((World.cell? w (Addr.add a4 1) = some (Value.slice p5 n6 n7)) ∧ (ifK ((↑bsl : Int) != (↑n6 : Int))
          (R (Value.bool false) (w))
          (∃ z8 : Int → World → Prop, (∃ z9 : Int → World → Nat, ((z8 (0) (w)) ∧ (∀ (_ : Nat → Value), (∀ (x11 : Int), (∀ (w12 : World), ((z8 (x11) (w12)) → (ifK (decide (x11 < (↑xsl : Int)))
            (atW (World.drew w12) (fun w13 =>
              (∃ a14 : Addr, ((xsa = some a14) ∧ (((0 : Int) ≤ x11) ∧ (((x11 : Int) < (↑xsl : Int)) ∧ (∃ s15 : ByteArray, ((World.cell? w13 (Addr.add (Addr.add a14 (Int.toNat x11 * 3)) 0) = some (Value.string s15)) ∧ (∃ x16 : Int, ((World.cell? w13 (Addr.add (Addr.add a14 (Int.toNat x11 * 3)) 1) = some (Value.int IntKind.i64 x16)) ∧ (∃ b17 : Bool, ((World.cell? w13 (Addr.add (Addr.add a14 (Int.toNat x11 * 3)) 2) = some (Value.bool b17)) ∧ (onP (t) (fun a18 =>
                (∃ p19 : Option Addr, (∃ n20 : Nat, (∃ n21 : Nat, ((World.cell? w13 (Addr.add a18 0) = some (Value.slice p19 n20 n21)) ∧ (∃ a22 : Addr, ((p19 = some a22) ∧ (((0 : Int) ≤ x11) ∧ (((x11 : Int) < (↑n20 : Int)) ∧ (∃ s23 : ByteArray, ((World.cell? w13 (Addr.add (Addr.add a22 (Int.toNat x11 * 3)) 0) = some (Value.string s23)) ∧ (∃ x24 : Int, ((World.cell? w13 (Addr.add (Addr.add a22 (Int.toNat x11 * 3)) 1) = some (Value.int IntKind.i64 x24)) ∧ (∃ b25 : Bool, ((World.cell? w13 (Addr.add (Addr.add a22 (Int.toNat x11 * 3)) 2) = some (Value.bool b25)) ∧ (eqA Tryz.prog 33 (Value.agg (Array.mk (List.reverse [Value.bool b17, Value.int IntKind.i64 x16, Value.string s15]))) (Value.agg (Array.mk (List.reverse [Value.bool b25, Value.int IntKind.i64 x24, Value.string s23]))) (w13) (fun b26 => (fun w27 =>
                  (ifK (!b26)
                    (R (Value.bool false) (w27))
                    ((z8 (IntKind.wrap IntKind.i64 (x11 + 1)) (w27)) ∧ (z9 (IntKind.wrap IntKind.i64 (x11 + 1)) w27 < z9 x11 w12))))))))))))))))))))))))))))))))))
            (∃ z28 : Int → World → Prop, (∃ z29 : Int → World → Nat, ((z28 (0) (w12)) ∧ (∀ (_ : Nat → Value), (∀ (x31 : Int), (∀ (w32 : World), ((z28 (x31) (w32)) → (ifK (decide (x31 < (↑bsl : Int)))
              (atW (World.drew w32) (fun w33 =>
                (∃ a34 : Addr, ((bsa = some a34) ∧ (((0 : Int) ≤ x31) ∧ (((x31 : Int) < (↑bsl : Int)) ∧ (∃ s35 : ByteArray, ((World.cell? w33 (Addr.add (Addr.add a34 (Int.toNat x31 * 3)) 0) = some (Value.string s35)) ∧ (∃ s36 : ByteArray, ((World.cell? w33 (Addr.add (Addr.add a34 (Int.toNat x31 * 3)) 1) = some (Value.string s36)) ∧ (∃ s37 : ByteArray, ((World.cell? w33 (Addr.add (Addr.add a34 (Int.toNat x31 * 3)) 2) = some (Value.string s37)) ∧ (onP (t) (fun a38 =>
                  (∃ p39 : Option Addr, (∃ n40 : Nat, (∃ n41 : Nat, ((World.cell? w33 (Addr.add a38 1) = some (Value.slice p39 n40 n41)) ∧ (∃ a42 : Addr, ((p39 = some a42) ∧ (((0 : Int) ≤ x31) ∧ (((x31 : Int) < (↑n40 : Int)) ∧ (∃ s43 : ByteArray, ((World.cell? w33 (Addr.add (Addr.add a42 (Int.toNat x31 * 3)) 0) = some (Value.string s43)) ∧ (∃ s44 : ByteArray, ((World.cell? w33 (Addr.add (Addr.add a42 (Int.toNat x31 * 3)) 1) = some (Value.string s44)) ∧ (∃ s45 : ByteArray, ((World.cell? w33 (Addr.add (Addr.add a42 (Int.toNat x31 * 3)) 2) = some (Value.string s45)) ∧ (eqA Tryz.prog 35 (Value.agg (Array.mk (List.reverse [Value.string s37, Value.string s36, Value.string s35]))) (Value.agg (Array.mk (List.reverse [Value.string s45, Value.string s44, Value.string s43]))) (w33) (fun b46 => (fun w47 =>
                    (ifK (!b46)
                      (R (Value.bool false) (w47))
                      ((z28 (IntKind.wrap IntKind.i64 (x31 + 1)) (w47)) ∧ (z29 (IntKind.wrap IntKind.i64 (x31 + 1)) w47 < z29 x31 w32))))))))))))))))))))))))))))))))))
              (R (Value.bool true) (w32))))))))))))))))))))))))))))))))
theorem ca14 (xsa : Option Addr) (xsl : Nat) (xsc : Nat) (bsa : Option Addr) (bsl : Nat) (bsc : Nat) (t : Option Addr) (w : World) (R : Value → World → Prop) (h : W14 xsa xsl xsc bsa bsl bsc t w R) : Ca Tryz.prog 14 ⟨[(.slice xsa xsl xsc), (.slice bsa bsl bsc), (.pointer t)]⟩ w R := by
  have h1 : Tryz.prog.follows .mixedOrders = true := by kernel_rfl
  have h2 : Tryz.f14.body = some C14 := by kernel_rfl
  have h3 : (Tryz.f14.name == "runtime.NumGoroutine") = false := by kernel_rfl
  have h6 : Tryz.f14.results.toList = [.tmp 6] := by kernel_rfl
  have h4 : Nat.ble 3 63 = true := by kernel_rfl
  have h5 : okCode 63 pl14 ls14 C14 0 = true := by kernel_rfl
  have e : W14 xsa xsl xsc bsa bsl bsc t w R = wpC none Tryz.prog 63 pl14 ls14 C14 0 (endP Tryz.prog [.tmp 6] R) (fr0 [(.slice xsa xsl xsc), (.slice bsa bsl bsc), (.pointer t)]) [] w := by kernel_rfl
  exact ca_of' (P := Tryz.prog) (g := 14) (fn := Tryz.f14) (c := C14) (m := 63) (rs := [.tmp 6]) (args := [(.slice xsa xsl xsc), (.slice bsa bsl bsc), (.pointer t)]) (pl := pl14) (ls := ls14) (w := w) (R := R) h1 Tryz.func14 h2 Tryz.ntmps14 h6 h3 h4 h5 (Eq.mp e h)
end Go.Proofs.YtehhhkcemmfjpaaGreatDoor

/- The reference's Same. -/
namespace Go.Proofs.YtehhhkcemmfjpaaGreatDoor
open Go Go.Proofs.YtehhhkcemmfjpaaGreatDoor Go.Proofs.YtehhhkcemmfjpaaGreatDoor.St

theorem same_step {α : Type} [Inhabited α] {X Y : List α} {i : Nat} (hi : i < X.length) (hj : i < Y.length) : (X.drop i = Y.drop i) ↔ (at0 X i = at0 Y i ∧ X.drop (i + 1) = Y.drop (i + 1)) := by
  rw [List.drop_eq_getElem_cons hi, List.drop_eq_getElem_cons hj, List.cons.injEq, at0_eq hi, at0_eq hj]
theorem same_ok {w : World} {r : Nat} {X Y : List Exc} {B C : List Bnd} (hR : RTb w r X B) {ya : Option Addr} {yl yc : Nat} (hY : Rx excL 33 w ya yl yc Y) {ca : Option Addr} {cl cc : Nat} (hC : Rx bndL 35 w ca cl cc C) (h1 : X.length < 1000000000) (h2 : B.length < 1000000000)
    (R : Value → World → Prop) (h : ∀ w', Mod no w w' → R (.bool (decide (Y = X ∧ C = B))) w') : Ca Tryz.prog 14 #[.slice ya yl yc, .slice ca cl cc, .pointer (some ⟨r, 0, none⟩)] w R := by
  refine ca14 ya yl yc ca cl cc (some ⟨r, 0, none⟩) w R ?_
  obtain ⟨a, l, c, a', l', c', hr, hx, hb, _, _⟩ := hR.ex
  have e1 := hx.len.1
  have e2 := hb.len.1
  have e3 := hY.len.1
  have e4 := hC.len.1
  have no1 : ∀ w', Mod no w w' → ¬ (Y = X ∧ C = B) → R (.bool false) w' := fun w' m hn => by
    have h' := h w' m
    rw [decide_eq_false hn] at h'
    exact h'
  refine ⟨a, l, c, by rw [cl1 hr]; rfl, ifK_of (fun hne => no1 w (Mod.refl _ _) fun hh => ?_) fun hl => ⟨a', l', c', by rw [cl1 hr]; rfl, ifK_of (fun hne => no1 w (Mod.refl _ _) fun hh => ?_) fun hl' => ?_⟩⟩
  · rw [← hh.1, e3] at e1
    subst e1
    simp at hne
  · rw [← hh.2, e4] at e2
    subst e2
    simp at hne
  have hl : yl = l := by have : (yl : Int) = l := by simpa using hl
                         omega
  have hl' : cl = l' := by have : (cl : Int) = l' := by simpa using hl'
                           omega
  subst hl
  subst hl'
  refine ⟨fun x w' => ∃ i : Nat, x = i ∧ i ≤ yl ∧ Mod no w w' ∧ (Y = X ↔ Y.drop i = X.drop i), fun x _ => ((yl : Int) - x).toNat, ⟨0, rfl, by omega, Mod.refl _ _, Iff.rfl⟩, ?_⟩
  rintro _ _ w12 ⟨i, rfl, hi, m12, he⟩
  refine ifK_dec (fun hlt => ?_) (fun hge => ?_)
  · intro w13 e13
    have m13 : Mod no w12 w13 := by subst e13; exact Mod.drew _
    clear e13
    have m := m12.trans m13
    have e0 : IntKind.i64.wrap ((i : Int) + 1) = ((i + 1 : Nat) : Int) := (by first | (simp only [IntKind.wrap_i64]; omega) | omega)
    rw [e0]
    clear e0
    have st := same_step (X := Y) (Y := X) (i := i) (by omega) (by omega)
    refine (hY.no m).cellX (by omega) ⟨a, yl, c, by rw [cl1 (m.at' hr)]; rfl, (hx.no m).cellX (by omega) ?_⟩
    refine eqA_agg exc_s.guard (exc_s.eq (at0 Y i) (at0 X i)) (ifK_not (fun hq => ?_) (fun hq => ?_))
    · exact no1 w13 m fun hh => of_decide_eq_false hq (st.1 (he.1 hh.1)).1
    · exact ⟨⟨i + 1, rfl, by omega, m, he.trans (st.trans ⟨fun hh => hh.2, fun hh => ⟨of_decide_eq_true hq, hh⟩⟩)⟩, by simp only; omega⟩
  have hYX : Y = X := he.2 (by rw [List.drop_eq_nil_of_le (by omega), List.drop_eq_nil_of_le (by omega)])
  refine ⟨fun x w' => ∃ i : Nat, x = i ∧ i ≤ cl ∧ Mod no w w' ∧ (C = B ↔ C.drop i = B.drop i), fun x _ => ((cl : Int) - x).toNat, ⟨0, rfl, by omega, m12, Iff.rfl⟩, ?_⟩
  rintro _ _ w32 ⟨i, rfl, hi, m32, he⟩
  refine ifK_dec (fun hlt => ?_) (fun hge => ?_)
  · intro w13 e13
    have m13 : Mod no w32 w13 := by subst e13; exact Mod.drew _
    clear e13
    have m := m32.trans m13
    have e0 : IntKind.i64.wrap ((i : Int) + 1) = ((i + 1 : Nat) : Int) := (by first | (simp only [IntKind.wrap_i64]; omega) | omega)
    rw [e0]
    clear e0
    have st := same_step (X := C) (Y := B) (i := i) (by omega) (by omega)
    refine (hC.no m).cellB (by omega) ⟨a', cl, c', by rw [cl1 (m.at' hr)]; rfl, (hb.no m).cellB (by omega) ?_⟩
    refine eqA_agg bnd_s.guard (bnd_s.eq (at0 C i) (at0 B i)) (ifK_not (fun hq => ?_) (fun hq => ?_))
    · exact no1 w13 m fun hh => of_decide_eq_false hq (st.1 (he.1 hh.2)).1
    · exact ⟨⟨i + 1, rfl, by omega, m, he.trans (st.trans ⟨fun hh => hh.2, fun hh => ⟨of_decide_eq_true hq, hh⟩⟩)⟩, by simp only; omega⟩
  · have hCB : C = B := he.2 (by rw [List.drop_eq_nil_of_le (by omega), List.drop_eq_nil_of_le (by omega)])
    have h' := h w32 m32
    rw [decide_eq_true ⟨hYX, hCB⟩] at h'
    exact h'
end Go.Proofs.YtehhhkcemmfjpaaGreatDoor

/- Elements of three cells, written cell by cell (the unfolded form of 'wr_cells'). It names no program. -/
namespace Go.Proofs.YtehhhkcemmfjpaaGreatDoor.St
open Go

theorem putAt {α : Type} {L : Lay α} {e : TypeId} {w : World} {g l c : Nat} {xs : List α} (h : Rx L e w (some ⟨g, 0, none⟩) l c xs) (hs : L.s = 3) {n : Nat} (hn : n < l) (v : α) {x y z : Value} (hv : L.cs v = [x, y, z]) {K : World → Prop}
    (hk : ∀ w', Mod (on g) w w' → Rx L e w' (some ⟨g, 0, none⟩) l c (xs.set n v) → K w') :
    (∃ o : Value, w.cell? (Addr.add (Addr.add ⟨g, 0, none⟩ (n * 3)) 0) = some o) ∧ w.frozen? (Addr.add (Addr.add ⟨g, 0, none⟩ (n * 3)) 0) = false ∧ atW (w.setCell (Addr.add (Addr.add ⟨g, 0, none⟩ (n * 3)) 0) x) fun w1 =>
    (∃ o : Value, w1.cell? (Addr.add (Addr.add ⟨g, 0, none⟩ (n * 3)) 1) = some o) ∧ w1.frozen? (Addr.add (Addr.add ⟨g, 0, none⟩ (n * 3)) 1) = false ∧ atW (w1.setCell (Addr.add (Addr.add ⟨g, 0, none⟩ (n * 3)) 1) y) fun w2 =>
    (∃ o : Value, w2.cell? (Addr.add (Addr.add ⟨g, 0, none⟩ (n * 3)) 2) = some o) ∧ w2.frozen? (Addr.add (Addr.add ⟨g, 0, none⟩ (n * 3)) 2) = false ∧ atW (w2.setCell (Addr.add (Addr.add ⟨g, 0, none⟩ (n * 3)) 2) z) K := by
  have := wr_cells h hn v hk
  have hx : x.oneCell' = true := L.one v x (by rw [hv]; simp)
  have hy : y.oneCell' = true := L.one v y (by rw [hv]; simp)
  have hz : z.oneCell' = true := L.one v z (by rw [hv]; simp)
  rw [hv, hs] at this
  simp only [stCells, hx, hy, hz, cond_true] at this
  exact this
end Go.Proofs.YtehhhkcemmfjpaaGreatDoor.St

/- Insertion from behind into a rising row, and rows that are permutations of one another. It names no program. -/
namespace Go.Proofs.YtehhhkcemmfjpaaGreatDoor.St
open Go

/-- x was put into X, from behind, as far as what stands there is more. -/
def Inb {α : Type} [_root_.LT α] (x : α) (X X' : List α) : Prop := ∃ i, i ≤ X.length ∧ X' = X.take i ++ x :: X.drop i ∧ (∀ y ∈ X.drop i, x < y) ∧ ∀ j y, j + 1 = i → X[j]? = some y → ¬ x < y
section
variable {α : Type} [_root_.LT α] {x : α} {X X' : List α}
theorem Inb.perm (h : Inb x X X') : X'.Perm (X ++ [x]) := by
  obtain ⟨i, _, rfl, _⟩ := h
  refine List.perm_middle.trans ?_
  rw [List.take_append_drop]
  exact (List.perm_append_singleton x X).symm
theorem Inb.mem (h : Inb x X X') (y : α) : y ∈ X' ↔ y ∈ X ∨ y = x := by
  rw [h.perm.mem_iff]; simp
theorem Inb.rises (tr : ∀ a b c : α, a < b → b < c → a < c) (hX : X.Pairwise (· < ·)) (ht : ∀ y ∈ X, x < y ∨ y < x) (h : Inb x X X') : X'.Pairwise (· < ·) := by
  obtain ⟨i, hi, rfl, h1, h2⟩ := h
  have hbelow : ∀ y ∈ X.take i, y < x := by
    intro y hy
    obtain ⟨j, hj, rfl⟩ := List.mem_iff_getElem.1 hy
    rw [List.length_take] at hj
    have hji : j < i := by omega
    obtain ⟨k, rfl⟩ : ∃ k, i = k + 1 := ⟨i - 1, by omega⟩
    have hlast : X[k]'(by omega) < x := (ht _ (List.getElem_mem _)).resolve_left (h2 k _ rfl (List.getElem?_eq_getElem (by omega)))
    rw [List.getElem_take]
    by_cases e : j = k
    · subst e; exact hlast
    · exact tr _ _ _ (List.pairwise_iff_getElem.1 hX j k (by omega) (by omega) (by omega)) hlast
  rw [List.pairwise_append]
  refine ⟨hX.sublist (List.take_sublist _ _), List.pairwise_cons.2 ⟨h1, hX.sublist (List.drop_sublist _ _)⟩, fun a ha b hb => ?_⟩
  rcases List.mem_cons.1 hb with rfl | hb
  · exact hbelow a ha
  · exact tr _ _ _ (hbelow a ha) (h1 b hb)
end
/-- The next step of the loop that puts it in. -/
theorem ins_step {α : Type} {x : α} {X : List α} {i : Nat} (hi : i + 1 ≤ X.length) : (X.take (i + 1) ++ x :: X.drop (i + 1)) = X.take i ++ X[i] :: x :: X.drop (i + 1) := by
  rw [List.take_succ_eq_append_getElem (by omega), List.append_assoc]; rfl
theorem ins_next {α : Type} {x : α} {X : List α} {i : Nat} (hi : i + 1 ≤ X.length) : (X.take i ++ x :: X.drop i) = X.take i ++ x :: X[i] :: X.drop (i + 1) := by
  rw [List.drop_eq_getElem_cons (by omega)]
theorem rowB_eq {g k : Nat} (h : rowB (some ⟨g, 0, none⟩) k) : g = k := by simpa [rowB] using h
theorem swap_mid {α : Type} (P : List α) (a b : α) (S : List α) : ((P ++ a :: b :: S).set P.length b).set (P.length + 1) a = P ++ b :: a :: S := by
  rw [List.set_append_right _ _ (Nat.le_refl _), Nat.sub_self, List.set_cons_zero, List.set_append_right _ _ (by omega), show P.length + 1 - P.length = 1 by omega]
  rfl
/-- A rising row is the sorted permutation. -/
theorem rising_unique {α : Type} [_root_.LT α] [LE α] [Inhabited α] {xs X : List α} (hle : ∀ a b : α, a < b → a ≤ b) (anti : ∀ a b, a ∈ X → b ∈ X → a ≤ b → b ≤ a → a = b) (hp : xs.Perm X) (hs : Srt xs 0 xs.length) (hX : X.Pairwise (· < ·)) : xs = X := by
  have h1 : xs.Pairwise (· ≤ ·) := by
    rw [List.pairwise_iff_getElem]
    intro i j hi hj hij
    have := hs i j (Nat.zero_le _) hij hj
    simpa [at0, hi, hj] using this
  have h2 : X.Pairwise (· ≤ ·) := hX.imp (hle _ _)
  exact List.Perm.eq_of_pairwise (le := fun a b => a ≤ b) (fun a b ha hb hab hba => anti a b (hp.mem_iff.1 ha) hb hab hba) h1 h2 hp
end Go.Proofs.YtehhhkcemmfjpaaGreatDoor.St

/- The reference's Declare. -/
namespace Go.Proofs.YtehhhkcemmfjpaaGreatDoor
open Go Go.Proofs.YtehhhkcemmfjpaaGreatDoor Go.Proofs.YtehhhkcemmfjpaaGreatDoor.St

/-- append([]T{}, X...), where []T{} lies at k. -/
theorem copyRow {α : Type} {L : Lay α} {P : Program} {t ty e : TypeId} (ho : laidOk P t e L.s = true) {w : World} {k : Nat} (hk : w.heap[k]? = some (.cells #[] e (0, 0))) {a : Option Addr} {l c : Nat} {X : List α} (h : Row L e w a l c X) (hl : l ≤ 1000000000) :
    ∃ a' c' w', (Builtin.append_ #[t, t] ty #[.slice (some ⟨k, 0, none⟩) 0 0, .slice a l c]).run P w = .ok (.slice a' l c') w' ∧ Row L e w' a' l c' X ∧ Mod (on k) w w' ∧ (∀ j, rowB a' j → j = k ∨ w.heap.size ≤ j) := by
  have hr : Row L e w (some ⟨k, 0, none⟩) 0 0 [] := Row.lit L hk [] rfl (Nat.zero_le _)
  obtain ⟨a', c', w', h1, h2, h3, h4⟩ := hr.push (P := P) (t := t) (ty := ty) ho h.len.1 h.all.1 h.all.2 (by omega)
  rw [Nat.zero_add] at h1 h2
  exact ⟨a', c', w', h1, h2, h3.mono fun j _ hj => (by cases hj; rfl), fun j hj => (h4 j hj).imp (fun hj => by cases hj; rfl) id⟩
theorem St.Rx.name {w : World} {a : Option Addr} {l c : Nat} {X : List Exc} (h : Rx excL 33 w a l c X) {i : Nat} (hi : i < l) {K : ByteArray → Prop} (hk : K (at0 X i).n) :
    ∃ ad : Addr, a = some ad ∧ (0 : Int) ≤ (i : Int) ∧ (i : Int) < (↑l : Int) ∧ ∃ s : ByteArray, w.cell? (Addr.add (Addr.add ad (Int.toNat (i : Int) * 3)) 0) = some (.string s) ∧ K s := by
  have hil := h.lt hi
  obtain ⟨g, rfl, hc⟩ := Row.getS h hil (s := 3) rfl
  rw [at0_eq hil] at hk
  rw [Int.toNat_natCast]
  exact ⟨_, rfl, by omega, by omega, _, hc 0 _ rfl, hk⟩
theorem at0_mid {α : Type} [Inhabited α] (P S : List α) (a : α) {i : Nat} (hi : P.length = i) : at0 (P ++ a :: S) i = a := by
  subst hi
  rw [at0_eq (by simp)]
  simp
theorem at0_mid1 {α : Type} [Inhabited α] (P S : List α) (a b : α) {i : Nat} (hi : P.length + 1 = i) : at0 (P ++ a :: b :: S) i = b := by
  subst hi
  rw [at0_eq (by simp)]
  simp
def AddedX (x : Exc) (X X' : List Exc) : Prop := if goodX x && (findX x.n X).isNone && decide (X.length < 8) then Inb x X X' else X' = X
theorem declareR_ok {w : World} {r : Nat} {X : List Exc} {B : List Bnd} (hR : RTb w r X B) (x : Exc) (hl : X.length < 1000000000) (R : Value → World → Prop)
    (h : ∀ w' X', AddedX x X X' → RTb w' r X' B → Mod (on r) w w' → R (.int .i64 (declR x X)) w') :
    Ca Tryz.prog 36 #[.pointer (some ⟨r, 0, none⟩), .agg ⟨x.cs⟩] w R := by
  refine (ca36 (some ⟨r, 0, none⟩) x.n x.k x.f w R ?_ : Ca _ _ _ _ _)
  intro w0 e0
  have m0 : Mod no w w0 := by subst e0; exact Mod.alloc _ _
  have b0 : Xc w0 w.heap.size x := by subst e0; exact new_at _ _
  clear e0
  refine ⟨_, by rw [cl1 b0]; rfl, _, by rw [cl1 b0]; rfl, _, by rw [cl1 b0]; rfl, ?_⟩
  refine (goodR_ok x w0 _ fun w5 m5 => ?_ : Ca _ _ _ _ _)
  refine ⟨_, rfl, ?_⟩
  have m05 := m0.trans m5
  have same : ∀ w', Mod no w w' → ¬ (goodX x && (findX x.n X).isNone && decide (X.length < 8)) = true → R (.int .i64 (declR x X)) w' := fun w' m hc => h w' X (by rw [AddedX, if_neg hc]) (hR.no m) m.of_no
  refine ifK_of (fun hg => ?_) (fun hg => ?_)
  · have hg : goodX x = false := by simpa using hg
    have h' := same w5 m05 (by rw [hg]; simp)
    rw [declR, hg] at h'
    exact h'
  have hg : goodX x = true := by simpa using hg
  have b5 := m5.at' b0
  have hR5 := hR.no m05
  refine ⟨fun p b w' => ∃ k, p = some ⟨k, 0, none⟩ ∧ Xc w' k (fx x.n X) ∧ b = hx x.n X ∧ Mod no w w' ∧ Xc w' w.heap.size x, ?_, ?_⟩
  · refine ⟨_, by rw [cl1 b5]; rfl, findR_ok hR5 x.n hl _ fun w10 m10 => ⟨_, _, _, _, rfl, ?_⟩⟩
    intro w15 e0
    have m15 : Mod no w10 w15 := by subst e0; exact Mod.alloc _ _
    have b15 : Xc w15 w10.heap.size exc0 := by subst e0; exact new_at _ _
    clear e0
    refine put3 b15 fun w21 m21 b21 => ⟨_, rfl, b21, rfl, ?_⟩
    have m1021 : Mod no w10 w21 := m15.new m21 fun k hk => by cases hk; exact Nat.le_refl _
    exact ⟨(m05.trans m10).trans m1021, m1021.at' (m10.at' b5)⟩
  rintro _ _ _ w25 ⟨k, rfl, bk, rfl, m25, b25⟩
  cases hf : findX x.n X with
  | some y =>
    have hb : hx x.n X = true := by rw [hx, hf]; rfl
    have hy : fx x.n X = y := by rw [fx, hf]; rfl
    rw [hb]
    rw [hy] at bk
    refine ifK_of (fun _ => ?_) fun h => by cases h
    refine ⟨_, by rw [cl1 b25]; rfl, _, by rw [cl1 b25]; rfl, _, by rw [cl1 b25]; rfl, _, by rw [cl1 bk]; rfl, _, by rw [cl1 bk]; rfl, _, by rw [cl1 bk]; rfl, ?_⟩
    have h' := same w25 m25 (by rw [hf]; simp)
    rw [declR, hg, hf] at h'
    simp only [if_true] at h'
    refine eqA_agg exc_s.guard (exc_s.eq x y) (ifK_not (fun he => ?_) (fun he => ?_))
    · rw [if_neg (fun e => of_decide_eq_false he e.symm)] at h'; exact h'
    · rw [if_pos (of_decide_eq_true he).symm] at h'; exact h'
  | none =>
  have hb : hx x.n X = false := by rw [hx, hf]; rfl
  rw [hb]
  refine ifK_of (fun h => by cases h) fun _ => ?_
  have hR25 := hR.no m25
  obtain ⟨a, l, c, a', l', c', h1, h2, h3, h4, h5⟩ := hR25.ex
  have hxl := h2.len.1
  have hrlt : r < w.heap.size := by obtain ⟨_, _, _, _, _, _, hh, _⟩ := hR.ex; exact lt_of_heap hh
  refine ⟨a, l, c, by rw [cl1 h1]; rfl, ifK_dec (fun hge => ?_) (fun hlt => ?_)⟩
  · have h' := same w25 m25 (by rw [decide_eq_false (show ¬ X.length < 8 by omega)]; simp)
    rw [declR, hg, hf] at h'
    simp only [if_true] at h'
    rw [if_pos (by omega)] at h'
    exact h'
  have hlt : l < 8 := by omega
  have g0 := m25.size
  have hok : laidOk Tryz.prog 26 33 excL.s = true := by kernel_rfl
  refine ⟨fun p q s w' => Rx excL 33 w' p q s (X ++ [x]) ∧ Mod no w25 w' ∧ (∀ k, rowB p k → w25.heap.size ≤ k), ?_, ?_⟩
  · intro w40 e0
    have m40 : Mod no w25 w40 := by subst e0; exact Mod.drew _
    clear e0
    have b40 := m40.at' b25
    have h1 := m40.at' h1
    have h40 := h1
    have g1 := m40.size
    have h2 := h2.no m40
    refine ⟨a, l, c, by rw [cl1 h1]; rfl, _, by rw [cl1 b40]; rfl, _, by rw [cl1 b40]; rfl, _, by rw [cl1 b40]; rfl, ⟨?_, ?_⟩⟩
    · intro w48 e0
      have m48 : Mod no w40 w48 := by subst e0; exact Mod.alloc _ _
      have e48 : w48.heap[w40.heap.size]? = some (.cells #[] 33 (0, 0)) := by subst e0; exact new_at _ _
      clear e0
      have h1 := m48.at' h1
      have b48 := m48.at' b40
      have g2 := m48.size
      have h2 := h2.no m48
      have l48 := lt_of_heap e48
      refine ⟨by rw [cl2 h1]; rfl, by rw [cl1 b48]; rfl, by rw [cl1 b48]; rfl, by rw [cl1 b48]; rfl, ⟨?_, ?_⟩⟩
      · obtain ⟨p, c2, w50, hr, x50, m50, n50⟩ := copyRow (L := excL) (P := Tryz.prog) (ty := 26) hok e48 h2 (by omega)
        have n4050 : Mod no w40 w50 := m48.new m50 fun k hk => by cases hk; exact Nat.le_refl _
        have b50 := n4050.at' b40
        have g3 := m50.size
        refine ⟨_, w50, hr, _, _, _, rfl, by rw [cl1 b50]; rfl, by rw [cl1 b50]; rfl, by rw [cl1 b50]; rfl, ?_⟩
        intro w54 e0
        have m54 : Mod no w50 w54 := by subst e0; exact Mod.alloc _ _
        have b54 : Xc w54 w50.heap.size x := by subst e0; exact new_at _ _
        clear e0
        have h1 := (n4050.trans m54).at' h40
        obtain ⟨p2, c3, w56, hr, x56, m56, n56⟩ := pushX (Rx.no x50 m54) b54 (by omega)
        have g4 := m54.size
        refine ⟨by rw [cl2 h1]; rfl, _, w56, hr, _, _, _, rfl, x56, ?_, ?_⟩
        · exact ((m40.trans n4050).trans m54).new m56 fun k hk => by have := n50 k hk; omega
        · intro k hk
          rcases n56 k hk with hk | hk
          · have := n50 k hk; omega
          · omega
      · intro w60 e0
        have m60 : Mod no w48 w60 := by subst e0; exact Mod.alloc _ _
        have b60 : Xc w60 w48.heap.size x := by subst e0; exact new_at _ _
        clear e0
        have h1 := m60.at' h1
        have g3 := m60.size
        obtain ⟨p, c2, w62, hr, x62, m62, n62⟩ := copyRow (L := excL) (P := Tryz.prog) (ty := 26) hok (m60.at' e48) (h2.no m60) (by omega)
        have n4062 : Mod no w40 w62 := (m48.trans m60).new m62 fun k hk => by cases hk; exact Nat.le_refl _
        have b62 := n4062.at' b40
        have g4 := m62.size
        have x' := m62.at b60 (fun hS => by have : w48.heap.size = w40.heap.size := hS; omega)
        obtain ⟨p2, c3, w67, hr2, x67, m67, n67⟩ := pushX x62 x' (by omega)
        refine ⟨by rw [cl2 h1]; rfl, _, w62, hr, _, _, _, rfl, by rw [cl1 b62]; rfl, by rw [cl1 b62]; rfl, by rw [cl1 b62]; rfl, _, w67, hr2, _, _, _, rfl, x67, ?_, ?_⟩
        · exact (m40.trans n4062).new m67 fun k hk => by have := n62 k hk; omega
        · intro k hk
          rcases n67 k hk with hk | hk
          · have := n62 k hk; omega
          · omega
    · intro w71 e0
      have m71 : Mod no w40 w71 := by subst e0; exact Mod.alloc _ _
      have b71 : Xc w71 w40.heap.size x := by subst e0; exact new_at _ _
      clear e0
      have h1 := m71.at' h1
      refine ⟨by rw [cl2 h1]; rfl, ?_⟩
      intro w72 e0
      have m72 : Mod no w71 w72 := by subst e0; exact Mod.alloc _ _
      have e72 : w72.heap[w71.heap.size]? = some (.cells #[] 33 (0, 0)) := by subst e0; exact new_at _ _
      clear e0
      have h1 := m72.at' h1
      have m4072 := m71.trans m72
      have b72 := m4072.at' b40
      have g2 := m71.size
      have g3 := m72.size
      have l71 := lt_of_heap b71
      obtain ⟨p, c2, w74, hr, x74, m74, n74⟩ := copyRow (L := excL) (P := Tryz.prog) (ty := 26) hok e72 (h2.no m4072) (by omega)
      have n4074 : Mod no w40 w74 := m4072.new m74 fun k hk => by cases hk; exact g2
      have b74 := n4074.at' b40
      have g4 := m74.size
      have x' := m74.at (m72.at' b71) (fun hS => by have : w40.heap.size = w71.heap.size := hS; omega)
      obtain ⟨p2, c3, w79, hr2, x79, m79, n79⟩ := pushX x74 x' (by omega)
      refine ⟨by rw [cl2 h1]; rfl, by rw [cl1 b72]; rfl, by rw [cl1 b72]; rfl, by rw [cl1 b72]; rfl, _, w74, hr, _, _, _, rfl, by rw [cl1 b74]; rfl, by rw [cl1 b74]; rfl, by rw [cl1 b74]; rfl, _, w79, hr2, _, _, _, rfl, x79, ?_, ?_⟩
      · exact (m40.trans n4074).new m79 fun k hk => by have := n74 k hk; omega
      · intro k hk
        rcases n79 k hk with hk | hk
        · have := n74 k hk; omega
        · omega
  rintro _ p q s w87 ⟨x87, m87, n87⟩
  have hql := x87.len.1
  rw [List.length_append, List.length_singleton, hxl] at hql
  subst hql
  obtain ⟨g, rfl, _⟩ := Row.get x87 (i := 0) (by simp)
  have hgn := n87 g rfl
  have hcl : IntKind.i64.wrap (((l + 1 : Nat) : Int) - 1) = (l : Int) := by rw [wrap64 (by omega) (by omega)]; omega
  rw [hcl]
  clear hcl
  refine ⟨fun y w' => ∃ i : Nat, y = i ∧ i ≤ l ∧ Rx excL 33 w' (some ⟨g, 0, none⟩) (l + 1) s (X.take i ++ x :: X.drop i) ∧ Mod no w25 w' ∧ ∀ y ∈ X.drop i, x < y, fun y _ => y.toNat,
    ⟨l, rfl, Nat.le_refl _, by rw [List.take_of_length_le (by omega), List.drop_eq_nil_of_le (by omega)]; exact x87, m87, fun y hy => by rw [← hxl, List.drop_length] at hy; cases hy⟩, ?_⟩
  rintro _ _ w92 ⟨i, rfl, hi, x92, m92, hgt⟩
  intro w93 e0
  have m93 : Mod no w92 w93 := by subst e0; exact Mod.drew _
  clear e0
  have x93 := x92.no m93
  have m93' := m92.trans m93
  have done : (∀ j y, j + 1 = i → X[j]? = some y → ¬ x < y) → ∃ v122 : Value, w93.cell? (Addr.add (Addr.add ⟨r, 0, none⟩ 0) 0) = some v122 := fun _ => ⟨_, by rw [cl2 (m93'.at' h1)]; rfl⟩
  have fin : (∀ j y, j + 1 = i → X[j]? = some y → ¬ x < y) → ∀ w', w' = w93.setCell (Addr.add (Addr.add ⟨r, 0, none⟩ 0) 0) (.slice (some ⟨g, 0, none⟩) (l + 1) s) → R (.int .i64 0) w' := by
    intro hmin w' e0
    have h1' := m93'.at' h1
    have mr : Mod (on r) w93 w' := by subst e0; exact Mod.set2 _ _ _ _ _
    have br : w'.heap[r]? = some (.cells #[.slice (some ⟨g, 0, none⟩) (l + 1) s, .slice a' l' c'] 29 (0, 0)) := by subst e0; rw [set2 h1']; rfl
    clear e0
    have h' := h w' (X.take i ++ x :: X.drop i) (by
      rw [AddedX, if_pos (by rw [hg, hf, decide_eq_true (show X.length < 8 by omega)]; rfl)]
      exact ⟨i, by omega, rfl, hgt, hmin⟩)
      ⟨_, _, _, a', l', c', br, x93.mod mr (fun k hk hS => by have e1 := rowB_eq hk; have e2 : k = r := hS; omega), (h3.no m93').mod mr (fun k hk hS => by cases hS; exact h5 hk), fun hk => by have e1 := rowB_eq hk; omega, h5⟩ ((m25.trans m93').no_trans mr)
    rw [declR, hg, hf] at h'
    simp only [if_true] at h'
    rw [if_neg (by omega)] at h'
    exact h'
  have fz : w93.frozen? (Addr.add (Addr.add ⟨r, 0, none⟩ 0) 0) = false := fz2 (m93'.at' h1) _ _
  refine ifK_dec (fun hpos => ?_) (fun hz => ?_)
  · obtain ⟨j, rfl⟩ : ∃ j, i = j + 1 := ⟨i - 1, by omega⟩
    have ej : IntKind.i64.wrap (((j + 1 : Nat) : Int) - 1) = (j : Int) := by rw [wrap64 (by omega) (by omega)]; omega
    rw [ej]
    clear ej
    have hjX : j < X.length := by omega
    have hst := ins_step (x := x) (X := X) (i := j) (by omega)
    rw [hst] at x93
    have hP : (X.take j).length = j := by rw [List.length_take]; omega
    have a1 : at0 (X.take j ++ X[j] :: x :: X.drop (j + 1)) j = X[j] := at0_mid _ _ _ hP
    have a2 : at0 (X.take j ++ X[j] :: x :: X.drop (j + 1)) (j + 1) = x := at0_mid1 _ _ _ _ (by omega)
    refine x93.name (by omega) (x93.name (by omega) ?_)
    rw [a1, a2, lt_bool, toList_beq]
    refine ifK_of (fun hc => ?_) (fun hc => ?_)
    · have hlt : x < X[j] := by
        simp only [Bool.not_eq_true', Bool.or_eq_false_iff, decide_eq_false_iff_not] at hc
        exact Classical.byContradiction fun hn => hc.2 (str_total hc.1 hn)
      intro w98 e0
      have m98 : Mod no w93 w98 := by subst e0; exact Mod.drew _
      clear e0
      have x98 := x93.no m98
      refine x98.cellX (by omega) (x98.cellX (by omega) ?_)
      rw [a1, a2]
      refine ⟨_, rfl, by omega, by omega, ?_⟩
      rw [Int.toNat_natCast]
      refine putAt x98 rfl (by omega) x rfl fun w113 m113 x113 => ?_
      refine ⟨_, rfl, by omega, by omega, ?_⟩
      rw [Int.toNat_natCast]
      refine putAt x113 rfl (by omega) X[j] rfl fun w120 m120 x120 => ?_
      have hsw : ((X.take j ++ X[j] :: x :: X.drop (j + 1)).set j x).set (j + 1) X[j] = X.take j ++ x :: X.drop j := by
        have := swap_mid (X.take j) X[j] x (X.drop (j + 1))
        rw [hP] at this
        rw [this, ← List.drop_eq_getElem_cons hjX]
      rw [hsw] at x120
      refine ⟨⟨j, rfl, by omega, x120, (m93'.trans m98).new (m113.trans m120) fun k hk => by cases hk; exact hgn, fun y hy => ?_⟩, by simp only; omega⟩
      rw [List.drop_eq_getElem_cons hjX] at hy
      rcases List.mem_cons.1 hy with rfl | hy
      · exact hlt
      · exact hgt y hy
    · have hmin : ∀ j' y, j' + 1 = j + 1 → X[j']? = some y → ¬ x < y := by
        intro j' y he hy hlt
        obtain rfl : j' = j := by omega
        rw [List.getElem?_eq_getElem hjX] at hy
        cases hy
        simp only [Bool.not_eq_false', Bool.or_eq_true, decide_eq_true_eq] at hc
        rcases hc with hc | hc
        · exact str_asym hlt hc
        · have hlt : x.n < (X[j']).n := hlt
          rw [hc] at hlt
          exact str_irr _ hlt
      exact ⟨done hmin, fz, fin hmin⟩
  · have hmin : ∀ j y, j + 1 = i → X[j]? = some y → ¬ x < y := fun j y he => by omega
    exact ⟨done hmin, fz, fin hmin⟩
end Go.Proofs.YtehhhkcemmfjpaaGreatDoor
