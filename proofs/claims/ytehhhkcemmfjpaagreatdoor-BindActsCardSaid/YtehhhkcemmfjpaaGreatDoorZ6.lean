/- Parts of the proof of BindActsCard. -/
import Derived.Test.YtehhhkcemmfjpaaGreatDoorZ5
/- The laws of chapter 07: a list of acts, whether it is light; the examples; BindActs. -/
namespace Go.Proofs.YtehhhkcemmfjpaaGreatDoor
open Go Go.ChangeShapes Go.WideShapes Go.Deep Go.Proofs.YtehhhkcemmfjpaaGreatDoor Go.Proofs.YtehhhkcemmfjpaaGreatDoor.St

theorem _root_.Eq.no {w w' : World} {k : Nat} {o : Obj} (h : w.heap[k]? = some o) (m : Mod St.no w w') : w'.heap[k]? = some o := m.at' h

/-- Its texts are no longer than a machine can hold. -/
structure AcOk (x : Ac) : Prop where
  sn : x.e.n.size ≤ 140737488355328
  sx : x.b.x.size ≤ 140737488355328
  sq : x.b.q.size ≤ 140737488355328
  sp : x.b.p.size ≤ 140737488355328
structure Acs (w : World) (a : Option Addr) (l c : Nat) (xs : List Ac) : Prop where
  row : ArgRow acL w a l c xs
  ok : ∀ x ∈ xs, AcOk x
theorem Acs.no {w w' : World} {a : Option Addr} {l c : Nat} {xs : List Ac} (h : Acs w a l c xs) (hm : Mod St.no w w') : Acs w' a l c xs := ⟨h.row.no hm, h.ok⟩
/-- One of the acts is copied into a place of its own. -/
theorem copyAc {w : World} {a : Option Addr} {l c : Nat} {xs : List Ac} (hr : Acs w a l c xs) (i : Nat) (hi : i < xs.length) {K : World → Prop}
    (hk : ∀ w', w'.heap[w.heap.size]? = some (.cells (acL.cs xs[i]).toArray 37 (0, 0)) → Mod St.no w w' → K w') :
    ∃ ad : Addr, a = some ad ∧ (0 : Int) ≤ (i : Int) ∧ (i : Int) < (↑l : Int) ∧ ∃ x0 : Int, w.cell? (Addr.add (Addr.add ad (Int.toNat (i : Int) * 7)) 0) = some (.int .i64 x0) ∧
      ∃ x1 : ByteArray, w.cell? (Addr.add (Addr.add ad (Int.toNat (i : Int) * 7)) 1) = some (.string x1) ∧ ∃ x2 : Int, w.cell? (Addr.add (Addr.add ad (Int.toNat (i : Int) * 7)) 2) = some (.int .i64 x2) ∧
      ∃ x3 : Bool, w.cell? (Addr.add (Addr.add ad (Int.toNat (i : Int) * 7)) 3) = some (.bool x3) ∧ ∃ x4 : ByteArray, w.cell? (Addr.add (Addr.add ad (Int.toNat (i : Int) * 7)) 4) = some (.string x4) ∧
      ∃ x5 : ByteArray, w.cell? (Addr.add (Addr.add ad (Int.toNat (i : Int) * 7)) 5) = some (.string x5) ∧ ∃ x6 : ByteArray, w.cell? (Addr.add (Addr.add ad (Int.toNat (i : Int) * 7)) 6) = some (.string x6) ∧
      atW (w.alloc (.cells ⟨[.int .i64 0, .string ⟨#[]⟩, .int .i64 0, .bool false, .string ⟨#[]⟩, .string ⟨#[]⟩, .string ⟨#[]⟩]⟩ 37 (0, 0))) fun w1 => fillC w.heap.size [.int .i64 x0, .string x1, .int .i64 x2, .bool x3, .string x4, .string x5, .string x6] 0 w1 K := by
  obtain ⟨ad, had, hg⟩ := hr.row.get i hi
  have hl := hr.row.len
  have hg : ∀ j v, (acL.cs xs[i])[j]? = some v → w.cell? (Addr.add (Addr.add ad (Int.toNat (i : Int) * 7)) j) = some v := hg
  refine ⟨_, had, by omega, by omega, _, hg 0 _ rfl, _, hg 1 _ rfl, _, hg 2 _ rfl, _, hg 3 _ rfl, _, hg 4 _ rfl, _, hg 5 _ rfl, _, hg 6 _ rfl, ?_⟩
  intro w2 e0
  have m2 : Mod no w w2 := by subst e0; exact Mod.alloc _ _
  have b2 : w2.heap[w.heap.size]? = some (.cells #[.int .i64 0, .string (ByteArray.mk #[]), .int .i64 0, .bool false, .string (ByteArray.mk #[]), .string (ByteArray.mk #[]), .string (ByteArray.mk #[])] 37 (0, 0)) := by subst e0; exact new_at _ _
  clear e0
  refine fillC_ok (vs := acL.cs xs[i]) b2 rfl fun w3 b3 m3 _ => hk w3 b3 (m2.new m3 fun k hk => by cases hk; exact Nat.le_refl _)
theorem light_ok (a : Option Addr) (l c : Nat) (xs : List Ac) (w : World) (hr : Acs w a l c xs) (R : Value → World → Prop) (h : ∀ w' b, Mod St.no w w' → (b = true → l ≤ 300 ∧ ∀ x ∈ xs, x.b.p.size < 1000000000) → R (.bool b) w') : Ca Tryz.prog 11 #[.slice a l c] w R := by
  have hl := hr.row.len
  refine ca11 a l c w R ?_
  refine ⟨fun n x w' => ∃ (i k : Nat), x = i ∧ n = k ∧ i ≤ k ∧ k ≤ 300 ∧ i ≤ l ∧ Mod St.no w w' ∧ ∀ j (hj : j < xs.length), j < i → xs[j].b.p.size < 1000000000, fun _ x _ => ((l : Int) - x).toNat, ⟨0, 0, rfl, rfl, Nat.zero_le _, by decide, Nat.zero_le _, Mod.refl _ _, fun j _ h => by omega⟩, ?_⟩
  rintro _ _ _ w1 ⟨i, k, rfl, rfl, hik, hk, hi, m1, hall⟩
  refine ifK_dec (fun hlt => ?_) (fun hge => h w1 true m1 fun _ => ⟨by omega, fun x hx => by
    obtain ⟨j, hj, rfl⟩ := List.getElem_of_mem hx
    exact hall j hj (by omega)⟩)
  have hil : i < xs.length := by omega
  refine copyAc (hr.no m1) i hil fun w2 b2 m2 => ?_
  have hok := hr.ok xs[i] (List.getElem_mem hil)
  have h1 := hok.sn
  have h2 := hok.sx
  have h3 := hok.sq
  have h4 := hok.sp
  refine ⟨_, by rw [cl2 b2]; rfl, _, by rw [cl2 b2]; rfl, _, by rw [cl2 b2]; rfl, _, by rw [cl2 b2]; rfl, by decide, ?_⟩
  obtain ⟨q4, hq4⟩ : ∃ q4, (xs[i]).b.p.size = q4 := ⟨_, rfl⟩
  rw [hq4] at h4 ⊢
  generalize (xs[i]).e.n.size = q1 at h1
  generalize (xs[i]).b.x.size = q2 at h2
  generalize (xs[i]).b.q.size = q3 at h3
  clear hok b2
  have e1 : IntKind.i64.wrap (IntKind.i64.wrap (IntKind.i64.wrap ((q1 : Int) + (q2 : Int)) + (q3 : Int)) + (q4 : Int)) = ((q1 + q2 + q3 + q4 : Nat) : Int) := by rw [wrap64 (x := (q1 : Int) + (q2 : Int)) (by omega) (by omega), wrap64 (x := (q1 : Int) + (q2 : Int) + (q3 : Int)) (by omega) (by omega), wrap64 (by omega) (by omega)]; omega
  have e2 : Int.tdiv ((q1 + q2 + q3 + q4 : Nat) : Int) 100 = ((q1 + q2 + q3 + q4) / 100 : Nat) := by rw [Int.tdiv_eq_ediv_of_nonneg (by omega)]; omega
  rw [e1, e2]
  have e3 : IntKind.i64.wrap (((q1 + q2 + q3 + q4) / 100 : Nat) : Int) = ((q1 + q2 + q3 + q4) / 100 : Nat) := wrap64 (by omega) (by omega)
  rw [e3]
  have e4 : IntKind.i64.wrap (1 + (((q1 + q2 + q3 + q4) / 100 : Nat) : Int)) = (1 + (q1 + q2 + q3 + q4) / 100 : Nat) := by rw [wrap64 (by omega) (by omega)]; omega
  rw [e4]
  have e5 : IntKind.i64.wrap ((k : Int) + ((1 + (q1 + q2 + q3 + q4) / 100 : Nat) : Int)) = (k + (1 + (q1 + q2 + q3 + q4) / 100) : Nat) := by rw [wrap64 (by omega) (by omega)]; omega
  rw [e5]
  have e6 : IntKind.i64.wrap ((i : Int) + 1) = ((i + 1 : Nat) : Int) := by rw [wrap64 (by omega) (by omega)]; rfl
  rw [e6]
  have hz1 : q4 / 100 ≤ (q1 + q2 + q3 + q4) / 100 := Nat.div_le_div_right (by omega)
  generalize (q1 + q2 + q3 + q4) / 100 = z at hz1
  refine ifK_dec (fun _ => h w2 false (m1.trans m2) fun h => by cases h) (fun hz => ?_)
  refine ⟨⟨i + 1, k + (1 + z), rfl, rfl, by omega, by omega, by omega, m1.trans m2, fun j hj hji => ?_⟩, by simp only; omega⟩
  by_cases e : j = i
  · subst e; omega
  · exact hall j hj (by omega)

/-! ### The examples -/
def exX : Exc := ⟨⟨#[120]⟩, 3, false⟩
def exB : Bnd := ⟨⟨#[120]⟩, ⟨#[113]⟩, ⟨#[97, 46, 42]⟩⟩
theorem ex_declR : declR exX [] = 0 := by decide +kernel
theorem ex_declD : declD exX [] = [exX] := by decide +kernel
theorem ex_bindR : bindR exB [exX] [] = 0 := by decide +kernel
theorem ex_bindB : bindB exB [exX] [] = [exB] := by decide +kernel
theorem ex_bindR2 : bindR exB [exX] [exB] = 0 := by decide +kernel
theorem ex_bindB2 : bindB exB [exX] [exB] = [exB] := by decide +kernel
theorem ex_fx : fx ⟨#[120]⟩ [exX] = exX := by decide +kernel
theorem ex_hx : hx ⟨#[120]⟩ [exX] = true := by decide +kernel
theorem ex_dropD : ([exX].filter fun e => !(e.n == ⟨#[120]⟩)) = [] := by decide +kernel
theorem ex_dropB : ([exB].filter fun b => !decide (b.x = ⟨#[120]⟩)) = [] := by decide +kernel
theorem lives_ok (w : World) (R : Value → World → Prop) (h : ∀ w', Mod St.no w w' → R (.bool true) w') : Ca Tryz.prog 12 #[] w R := by
  refine ca12 w R ?_
  refine new_ok w _ fun w1 t m1 m2 hT n1 ht hm1 hm2 => ⟨_, rfl, ?_⟩
  intro w3 e0
  have n3 : Mod no w1 w3 := by subst e0; exact Mod.alloc _ _
  have b3 : Xc w3 w1.heap.size exc0 := by subst e0; exact new_at _ _
  clear e0
  refine put3 b3 fun w9 n9 b9 => ?_
  have n19 : Mod St.no w1 w9 := n3.new n9 fun k hk => by cases hk; exact Nat.le_refl _
  have b9 : Xc w9 w1.heap.size exX := b9
  intro w10 e0
  have n10 : Mod no w9 w10 := by subst e0; exact Mod.alloc _ _
  have b10 : w10.heap[w9.heap.size]? = some (.cells #[.string (ByteArray.mk #[]), .string (ByteArray.mk #[]), .string (ByteArray.mk #[])] 35 (0, 0)) := by subst e0; exact new_at _ _
  clear e0
  refine put3 b10 fun w16 n16 b16 => ?_
  have b16 : Bc w16 w9.heap.size exB := b16
  have n916 : Mod St.no w9 w16 := n10.new n16 fun k hk => by cases hk; exact Nat.le_refl _
  have b9 := b9.no n916
  have hT := (hT.no n19).no n916
  have g1 := n1.size
  have g2 := n19.size
  have g3 := n916.size
  have l9 := lt_of_heap b9
  have l16 := lt_of_heap b16
  have m16 := (n1.trans n19).trans n916
  have nx : w1.heap.size ≠ m1 ∧ w1.heap.size ≠ m2 ∧ w9.heap.size ≠ m1 ∧ w9.heap.size ≠ m2 := by
    obtain ⟨_, _, q1, _⟩ := hT.x
    obtain ⟨_, _, q2, _⟩ := hT.b
    refine ⟨?_, ?_, ?_, ?_⟩ <;> intro e
    · rw [← e, b9] at q1; cases q1
    · rw [← e, b9] at q2; cases q2
    · rw [← e, b16] at q1; cases q1
    · rw [← e, b16] at q2; cases q2
  refine (ifK_of (fun h => by cases h) (fun _ => ?_) : ifK false _ _)
  refine ⟨_, by rw [cl1 b9]; rfl, _, by rw [cl1 b9]; rfl, _, by rw [cl1 b9]; rfl, ?_⟩
  refine (declare_ok hT exX _ fun w21 hT21 n21 => ?_ : Ca _ _ _ _ _)
  rw [ex_declR]
  rw [ex_declD] at hT21
  have m21 := m16.new n21 fun k hk => by cases hk; exact hm1
  have b9 := n21.at b9 nx.1
  have b16 := n21.at b16 nx.2.2.1
  refine ⟨_, rfl, (ifK_of (fun h => by cases h) (fun _ => ?_) : ifK false _ _)⟩
  refine ⟨_, by rw [cl1 b16]; rfl, _, by rw [cl1 b16]; rfl, _, by rw [cl1 b16]; rfl, ?_⟩
  refine (bind_ok hT21 exB (by decide) _ fun w27 hT27 n27 => ?_ : Ca _ _ _ _ _)
  rw [ex_bindR]
  rw [ex_bindB] at hT27
  have m27 := m21.new n27 fun k hk => by cases hk; exact hm2
  have b9 := n27.at b9 nx.2.1
  have b16 := n27.at b16 nx.2.2.2
  refine ⟨_, rfl, (ifK_of (fun h => by cases h) (fun _ => ?_) : ifK false _ _)⟩
  refine ⟨_, by rw [cl1 b16]; rfl, _, by rw [cl1 b16]; rfl, _, by rw [cl1 b16]; rfl, ?_⟩
  refine (bind_ok hT27 exB (by decide) _ fun w33 hT33 n33 => ?_ : Ca _ _ _ _ _)
  rw [ex_bindR2]
  rw [ex_bindB2] at hT33
  have m33 := m27.new n33 fun k hk => by cases hk; exact hm2
  have b9 := n33.at b9 nx.2.1
  refine ⟨_, rfl, (ifK_of (fun h => by cases h) (fun _ => ?_) : ifK false _ _)⟩
  refine bindings_ok hT33 (by decide) _ fun w36 p l c bs hbs hp _ n36 _ => ⟨_, _, _, rfl, ?_⟩
  have hl : l = 1 := by have := hbs.len.1; have := hp.length_eq; simp at this; omega
  subst hl
  refine (ifK_of (fun h => by cases h) (fun _ => ?_) : ifK false _ _)
  have hT36 := hT33.no n36
  refine find_ok hT36 _ _ fun w41 n41 => ?_
  rw [ex_fx, ex_hx]
  refine ⟨_, _, _, _, rfl, ?_⟩
  intro w46 e0
  have n46 : Mod no w41 w46 := by subst e0; exact Mod.alloc _ _
  have b46 : Xc w46 w41.heap.size exc0 := by subst e0; exact new_at _ _
  clear e0
  refine put3 b46 fun w52 n52 b52 => ?_
  have n4152 : Mod St.no w41 w52 := n46.new n52 fun k hk => by cases hk; exact Nat.le_refl _
  have b52 : Xc w52 w41.heap.size exX := b52
  have n3652 := n41.trans n4152
  have b9 := n3652.at' (n36.at' b9)
  refine (ifK_of (fun _ => ?_) (fun h => by cases h) : ifK true _ _)
  refine ⟨_, by rw [cl1 b52]; rfl, _, by rw [cl1 b52]; rfl, _, by rw [cl1 b52]; rfl, _, by rw [cl1 b9]; rfl, _, by rw [cl1 b9]; rfl, _, by rw [cl1 b9]; rfl, ?_⟩
  refine eqA_agg exc_s.guard (exc_s.eq exX exX) ?_
  rw [decide_eq_true rfl]
  refine (ifK_of (fun _ => ?_) (fun h => by cases h) : ifK true _ _)
  have m52 := (m33.trans n36).trans n3652
  refine drop_ok (hT36.no n3652) _ (by decide) _ fun w62 hT62 n62 => ?_
  rw [ex_hx] at hT62 ⊢
  simp only [if_true, ex_dropD, ex_dropB] at hT62
  have m62 := m52.new n62 fun k hk => by rcases hk with rfl | rfl <;> assumption
  refine ⟨_, rfl, (ifK_of (fun _ => ?_) (fun h => by cases h) : ifK true _ _)⟩
  refine bindings_ok hT62 (by decide) _ fun w65 p l c bs hbs hp _ n65 _ => ⟨_, _, _, rfl, ?_⟩
  have hl : l = 0 := by have h1 := hbs.len.1; have h2 : bs.length = 0 := hp.length_eq; omega
  subst hl
  refine (ifK_of (fun _ => ?_) (fun h => by cases h) : ifK true _ _)
  refine drop_ok (hT62.no n65) _ (by decide) _ fun w70 _ n70 => ?_
  exact ⟨_, rfl, h w70 ((m62.trans n65).new n70 fun k hk => by rcases hk with rfl | rfl <;> assumption)⟩
theorem TB7.new {w w' : World} {t m1 m2 : Nat} (hT : Tbl w t m1 m2 [] []) (n : Mod St.no w w') (hr : w'.heap[w.heap.size]? = some (.cells #[.slice none 0 0, .slice none 0 0] 29 (0, 0))) : TB7 w' t m1 m2 w.heap.size [] [] [] [] :=
  ⟨hT.no n, ⟨none, 0, 0, none, 0, 0, hr, Row.empty _ _ _, Row.empty _ _ _, fun h => (by cases h), fun h => (by cases h)⟩, sy_nil, ok7_nil⟩
theorem acts_walk (aa : Option Addr) (al ac : Nat) (xs : List Ac) (w : World) (hx : Acs w aa al ac xs) (R : Value → World → Prop) (hR : ∀ w', Mod St.no w w' → R (.bool true) w') : Ca Tryz.prog 3 #[.slice aa al ac] w R := by
  refine ca3 aa al ac w R ?_
  have hxl := hx.row.len
  have lives : ∀ w', Mod St.no w w' → Ca Tryz.prog 12 #[] w' fun v w'' => ∃ b, v = .bool b ∧ R (.bool b) w'' := fun w' m => lives_ok w' _ fun w'' m' => ⟨_, rfl, hR w'' (m.trans m')⟩
  refine new_ok w _ fun w1 t m1 m2 hT n1 ht hm1 hm2 => ⟨_, rfl, ?_⟩
  intro w3 e0
  have n3 : Mod no w1 w3 := by subst e0; exact Mod.alloc _ _
  have b3 : w3.heap[w1.heap.size]? = some (.cells #[.slice none 0 0, .slice none 0 0] 29 (0, 0)) := by subst e0; exact new_at _ _
  clear e0
  have T3 := TB7.new hT n3 b3
  have hr := n1.size
  generalize w1.heap.size = r at hr T3
  clear b3 hT
  have n03 := n1.trans n3
  refine (ifK_of (fun h => by cases h) (fun _ => ?_) : ifK false _ _)
  refine light_ok aa al ac xs w3 (hx.no n03) _ fun w8 b n8 hb => ⟨b, rfl, ?_⟩
  have n08 := n03.trans n8
  cases b with
  | false =>
    refine (ifK_of (fun _ => ?_) (fun h => by cases h) : ifK true _ _)
    refine (ifK_of (fun _ => ?_) (fun h => by cases h) : ifK true _ _)
    exact lives w8 n08
  | true =>
  obtain ⟨hl, hp⟩ := hb rfl
  refine (ifK_of (fun h => by cases h) (fun _ => ?_) : ifK false _ _)
  refine ⟨fun y w' => ∃ (i : Nat) (D X : List Exc) (B C : List Bnd), y = i ∧ i ≤ al ∧ Mod St.no w w' ∧ TB7 w' t m1 m2 r D X B C, fun y _ => ((al : Int) - y).toNat, ⟨0, [], [], [], [], rfl, Nat.zero_le _, n08, T3.no n8⟩, ?_⟩
  rintro _ _ w17 ⟨i, D, X, B, C, rfl, hi, n17, T17⟩
  refine ifK_dec (fun hlt => ?_) (fun hge => lives w17 n17)
  have hil : i < xs.length := by omega
  have e1 : IntKind.i64.wrap ((i : Int) + 1) = ((i + 1 : Nat) : Int) := (by first | (simp only [IntKind.wrap_i64]; omega) | omega)
  rw [e1]
  clear e1
  refine copyAc (hx.no n17) i hil fun w40 b40 n40 => ?_
  have hp := hp xs[i] (List.getElem_mem hil)
  generalize xs[i] = x at hp b40
  have b40 : w40.heap[w17.heap.size]? = some (.cells #[.int .i64 x.k, .string x.e.n, .int .i64 x.e.k, .bool x.e.f, .string x.b.x, .string x.b.q, .string x.b.p] 37 (0, 0)) := b40
  refine ⟨_, by rw [cl1 b40]; rfl, _, by rw [cl1 b40]; rfl, _, by rw [cl1 b40]; rfl, _, by rw [cl1 b40]; rfl, _, by rw [cl1 b40]; rfl, _, by rw [cl1 b40]; rfl, _, by rw [cl1 b40]; rfl, ?_⟩
  refine (act_ok (T17.no n40) x hp _ fun w49 D X B C T49 n49 => ?_ : Ca _ _ _ _ _)
  have n049 := (n17.trans n40).new n49 fun k hk => by rcases hk with rfl | rfl | rfl <;> assumption
  refine ⟨_, rfl, (ifK_of (fun h => by cases h) (fun _ => ?_) : ifK false _ _)⟩
  refine exchanges_ok T49.tb (by have := T49.ok.xl; omega) _ fun w52 p q s xs' hxs hpx hsx n52 _ => ⟨_, _, _, rfl, ?_⟩
  have T52 := T49.no n52
  refine bindings_ok T52.tb (by have := T49.ok.bl; omega) _ fun w57 p' q' s' bs hbs hpb hsb n57 _ => ⟨_, _, _, rfl, ?_⟩
  have T57 := T52.no n57
  refine same_ok T57.rt (hxs.no n57) hbs T57.xl T57.cl _ fun w62 n62 => ⟨_, rfl, ?_⟩
  have ex := T57.sy.exs T57.tb.dn hpx (by rw [hxs.len.1]; exact hsx)
  have eb := T57.sy.bnds hpb (by rw [hbs.len.1]; exact hsb)
  rw [decide_eq_true ⟨ex, eb⟩]
  refine (ifK_of (fun h => by cases h) (fun _ => ?_) : ifK false _ _)
  exact ⟨⟨i + 1, D, X, B, C, rfl, by omega, ((n049.trans n52).trans n57).trans n62, T57.no n62⟩, by simp only; omega⟩
end Go.Proofs.YtehhhkcemmfjpaaGreatDoor

/- Leaves, opened; an exchange and a binding among the arguments, and rows of the laws' acts. -/
namespace Go.Proofs.YtehhhkcemmfjpaaGreatDoor.St
open Go Go.ChangeShapes Go.WideShapes Go.Deep
section
variable {P : Program} {w : World} {B n : Nat} {t : TypeId} {cs : List Value}
theorem leaf_struct {fs : Array Field} (ht : P.underlying t = some (.struct fs)) (h : Leaf P w B (n + 1) t cs) : cs.length = P.cellsOf t ∧ ∀ (i : Nat) (f : Field), fs[i]? = some f → Leaf P w B n f.type ((cs.drop f.offset).take (P.cellsOf f.type)) := by
  unfold Leaf at h; rw [ht] at h; exact h
theorem leaf_int {k : IntKind} (ht : P.underlying t = some (.int k)) (h : Leaf P w B (n + 1) t cs) : ∃ x, cs = [.int k x] ∧ (Lit.int k x).wf = true := by
  unfold Leaf at h; rw [ht] at h; exact h
theorem leaf_string (ht : P.underlying t = some .string) (h : Leaf P w B (n + 1) t cs) : ∃ s : ByteArray, cs = [.string s] ∧ s.size ≤ B := by
  unfold Leaf at h; rw [ht] at h; exact h
theorem leaf_bool (ht : P.underlying t = some .bool) (h : Leaf P w B (n + 1) t cs) : ∃ b, cs = [.bool b] := by
  unfold Leaf at h; rw [ht] at h; exact h
theorem leaf_slice {e : TypeId} (ht : P.underlying t = some (.slice e)) (h : Leaf P w B (n + 1) t cs) : ∃ (a : Option Addr) (l c : Nat), cs = [.slice a l c] ∧ l ≤ c ∧ c ≤ 9223372036854775807 ∧ c * P.bytesOf e ≤ B ∧
        ∀ i, i < l → ∃ ad, a = some ad ∧ ∃ cs', cs'.length = P.cellsOf e ∧ (∀ j v, cs'[j]? = some v → w.cell? (Addr.add (Addr.add ad (i * P.cellsOf e)) j) = some v) ∧ Leaf P w B n e cs' := by
  unfold Leaf at h; rw [ht] at h; exact h
/-- A field of one cell. -/
theorem field1 {fs : Array Field} {f : Field} (h : ∀ (i : Nat) (f : Field), fs[i]? = some f → Leaf P w B n f.type ((cs.drop f.offset).take (P.cellsOf f.type))) (i : Nat) (hf : fs[i]? = some f) {o : Nat} (ho : f.offset = o) {u : TypeId} (hu : f.type = u) {k : Nat} (hk : P.cellsOf u = k) : Leaf P w B n u ((cs.drop o).take k) := by
  subst ho; subst hu; subst hk; exact h i f hf
end
theorem row_arg {H : Type} {enc : TypeId × Value → H} {P : Program} {w : World} {v : Value} {d : DataW H} {p : List MemPlace} {base : Nat} {r : Reach} {b0 : Nat} {t e : TypeId} {α : Type} [Inhabited α] {L : Lay α} (Q : α → Prop) {B : Nat} (n : Nat) (ht : P.underlying t = some (.slice e))
    (hs : L.s = P.cellsOf e) (hv : Value.okWide P w r b0 t v) (h : DataW.Trod enc P w base (fun _ => true) true t v d p) (hz : ∀ n ∈ d.weights P t, n ≤ B) (hx : ∀ cs, cs.length = L.s → Leaf P w B n e cs → ∃ x, L.cs x = cs ∧ Q x) :
    ∃ a l c xs, v = .slice a l c ∧ ArgRow L w a l c xs ∧ (∀ x ∈ xs, Q x) ∧ c * P.bytesOf e ≤ B := by
  obtain ⟨a, l, c, rfl⟩ := okWide_slice ht hv
  obtain ⟨fuel, hf⟩ := h
  obtain ⟨a', l', c', hcs, h1, h2, h3, h4⟩ := leaf_slice ht (leaf_of (n + 1) hf hz)
  simp only [Value.cells, List.cons.injEq, and_true] at hcs
  injection hcs with e1 e2 e3
  subst e1; subst e2; subst e3
  obtain ⟨xs, h5, h6⟩ := leaf_row Q hs hx h1 h2 h4
  exact ⟨a, l, c, xs, rfl, h5, h6, h3⟩
theorem struct_arg {H : Type} {enc : TypeId × Value → H} {P : Program} {w : World} {v : Value} {d : DataW H} {p : List MemPlace} {base : Nat} {r : Reach} {b0 : Nat} {t : TypeId} {fs : Array Field} {B : Nat} (n : Nat) (ht : P.underlying t = some (.struct fs))
    (hv : Value.okWide P w r b0 t v) (h : DataW.Trod enc P w base (fun _ => true) true t v d p) (hz : ∀ n ∈ d.weights P t, n ≤ B) : ∃ cs : List Value, v = .agg ⟨cs⟩ ∧ Leaf P w B n t cs := by
  obtain ⟨cs, rfl, _⟩ := okWide_struct ht hv
  obtain ⟨fuel, hf⟩ := h
  exact ⟨cs.toList, rfl, leaf_of n hf hz⟩
end Go.Proofs.YtehhhkcemmfjpaaGreatDoor.St
namespace Go.Proofs.YtehhhkcemmfjpaaGreatDoor
open Go Go.ChangeShapes Go.WideShapes Go.Deep Go.Proofs.YtehhhkcemmfjpaaGreatDoor Go.Proofs.YtehhhkcemmfjpaaGreatDoor.St

theorem c_str : Tryz.prog.cellsOf 9 = 1 := by kernel_rfl
theorem c_int : Tryz.prog.cellsOf 3 = 1 := by kernel_rfl
theorem c_bool : Tryz.prog.cellsOf 4 = 1 := by kernel_rfl
theorem c_exc : Tryz.prog.cellsOf 33 = 3 := by kernel_rfl
theorem c_bnd : Tryz.prog.cellsOf 35 = 3 := by kernel_rfl
theorem c_act : Tryz.prog.cellsOf 37 = 7 := by kernel_rfl
set_option maxRecDepth 100000 in
theorem leaf_exc {w : World} {B n : Nat} {cs : List Value} (h : Leaf Tryz.prog w B (n + 2) 33 cs) : ∃ e : Exc, cs = e.cs ∧ e.n.size ≤ B := by
  obtain ⟨hl, hf⟩ := leaf_struct Tryz.underlying33 h
  rw [c_exc] at hl
  match cs, hl with
  | [c0, c1, c2], _ =>
    obtain ⟨s, e0, hs⟩ := leaf_string Tryz.underlying9 (field1 (o := 0) hf 0 rfl rfl rfl c_str)
    obtain ⟨k, e1, _⟩ := leaf_int Tryz.underlying3 (field1 (o := 1) hf 1 rfl rfl rfl c_int)
    obtain ⟨f, e2⟩ := leaf_bool Tryz.underlying4 (field1 (o := 2) hf 2 rfl rfl rfl c_bool)
    have e0 : [c0] = [Value.string s] := e0
    have e1 : [c1] = [Value.int .i64 k] := e1
    have e2 : [c2] = [Value.bool f] := e2
    simp only [List.cons.injEq, and_true] at e0 e1 e2
    exact ⟨⟨s, k, f⟩, by rw [e0, e1, e2]; rfl, hs⟩
set_option maxRecDepth 100000 in
theorem leaf_bnd {w : World} {B n : Nat} {cs : List Value} (h : Leaf Tryz.prog w B (n + 2) 35 cs) : ∃ e : Bnd, cs = e.cs ∧ e.x.size ≤ B ∧ e.q.size ≤ B ∧ e.p.size ≤ B := by
  obtain ⟨hl, hf⟩ := leaf_struct Tryz.underlying35 h
  rw [c_bnd] at hl
  match cs, hl with
  | [c0, c1, c2], _ =>
    obtain ⟨s, e0, hs⟩ := leaf_string Tryz.underlying9 (field1 (o := 0) hf 0 rfl rfl rfl c_str)
    obtain ⟨k, e1, hk⟩ := leaf_string Tryz.underlying9 (field1 (o := 1) hf 1 rfl rfl rfl c_str)
    obtain ⟨f, e2, hf'⟩ := leaf_string Tryz.underlying9 (field1 (o := 2) hf 2 rfl rfl rfl c_str)
    have e0 : [c0] = [Value.string s] := e0
    have e1 : [c1] = [Value.string k] := e1
    have e2 : [c2] = [Value.string f] := e2
    simp only [List.cons.injEq, and_true] at e0 e1 e2
    exact ⟨⟨s, k, f⟩, by rw [e0, e1, e2]; rfl, hs, hk, hf'⟩
set_option maxRecDepth 100000 in
theorem leaf_act {w : World} {n : Nat} {cs : List Value} (h : Leaf Tryz.prog w reachBytes (n + 3) 37 cs) : ∃ x : Ac, acL.cs x = cs ∧ AcOk x := by
  obtain ⟨hl, hf⟩ := leaf_struct Tryz.underlying37 h
  rw [c_act] at hl
  match cs, hl with
  | [c0, c1, c2, c3, c4, c5, c6], _ =>
    obtain ⟨k, e0, _⟩ := leaf_int Tryz.underlying3 (field1 (o := 0) hf 0 rfl rfl rfl c_int)
    obtain ⟨e, e1, h1⟩ := leaf_exc (field1 (o := 1) hf 1 rfl rfl rfl c_exc)
    obtain ⟨b, e2, h2, h3, h4⟩ := leaf_bnd (field1 (o := 4) hf 2 rfl rfl rfl c_bnd)
    have e0 : [c0] = [Value.int .i64 k] := e0
    have e1 : [c1, c2, c3] = e.cs := e1
    have e2 : [c4, c5, c6] = b.cs := e2
    simp only [List.cons.injEq, and_true, Exc.cs, Bnd.cs] at e0 e1 e2
    obtain ⟨q1, q2, q3⟩ := e1
    obtain ⟨q4, q5, q6⟩ := e2
    have hb : reachBytes ≤ 140737488355328 := by decide
    exact ⟨⟨k, e, b⟩, by rw [e0, q1, q2, q3, q4, q5, q6]; rfl, by show e.n.size ≤ _; omega, by show b.x.size ≤ _; omega, by show b.q.size ≤ _; omega, by show b.p.size ≤ _; omega⟩
set_option maxRecDepth 100000 in
theorem args_acs {H : Type} {enc : TypeId × Value → H} {w : World} {v : Value} {d : DataW H} {p : List MemPlace} {base : Nat} {r : Reach} {b0 : Nat} (hv : Value.okWide Tryz.prog w r b0 22 v) (h : DataW.Trod enc Tryz.prog w base (fun _ => true) true 22 v d p)
    (hz : ∀ n ∈ d.weights Tryz.prog 22, n ≤ reachBytes) : ∃ a l c xs, v = .slice a l c ∧ Acs w a l c xs := by
  obtain ⟨a, l, c, xs, h1, h2, h3, _⟩ := row_arg (L := acL) AcOk 3 Tryz.underlying22 c_act.symm hv h hz fun cs _ hl => leaf_act hl
  exact ⟨a, l, c, xs, h1, h2, h3⟩
end Go.Proofs.YtehhhkcemmfjpaaGreatDoor
