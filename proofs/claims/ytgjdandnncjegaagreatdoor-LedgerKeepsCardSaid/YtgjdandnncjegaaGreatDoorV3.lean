/- Parts of the proof of LedgerKeepsCard. -/
import Derived.Test.YtgjdandnncjegaaGreatDoorCore9
import Derived.Test.YtgjdandnncjegaaGreatDoorProg
import Derived.DataElems
import Derived.Lib.Strings
import Derived.Lib.Atoi
import Derived.Lib.ItoaNum
import Derived.Test.YtgjdandnncjegaaGreatDoorV2
/- The library's general sort, at one type: parting off what is equal, heap sort, scattering, sorting what is nearly sorted. -/
namespace Go.Proofs.YtgjdandnncjegaaGreatDoor.Sortstring
open Go Go.Proofs.YtgjdandnncjegaaGreatDoor Go.Proofs.YtgjdandnncjegaaGreatDoor.St

section
variable (e : TypeId) (d : Option Addr) (l c : Nat) (xs : List ByteArray) (w : World) (hd : Els Value.string e w d l c xs) (hl : l < 4611686018427387904)
include hd hl

theorem partEq_ok (a b p : Nat) (hap : a ≤ p) (hpb : p < b) (hb : b ≤ l) (hmin : ∀ k, a ≤ k → k < b → at0 xs p ≤ at0 xs k) (R : Value → World → Prop)
    (h : ∀ w' ys (m : Nat), Els Value.string e w' d l c ys → Seg a b xs ys → Eqd ys a m b → Mod (rowB d) w w' → R (.int .i64 m) w') :
    Ca Tryz.prog 143 #[.slice d l c, .int .i64 a, .int .i64 b, .int .i64 p] w R := by
  refine ca143 d l c a b p w R ?_
  have ea : IntKind.i64.wrap ((a : Int) + 1) = ((a + 1 : Nat) : Int) := (by first | (simp only [IntKind.wrap_i64]; omega) | omega)
  have eb : IntKind.i64.wrap ((b : Int) - 1) = ((b - 1 : Nat) : Int) := (by first | (simp only [IntKind.wrap_i64]; omega) | omega)
  rw [W143, ea, eb]
  clear ea eb
  intro w0 e0
  have m0 : Mod no w w0 := by subst e0; exact Mod.drew _
  clear e0
  refine (hd.no m0).swp a p rfl rfl (by omega) (by omega) fun w1 h1 m1 => ?_
  have m1 := m0.no_trans m1
  have s1 : Seg a b xs (swapL xs a p) := hd.seg (by omega) (by omega) (by omega) (by omega) hap hpb
  have p1 : AtE (swapL xs a p) a (at0 xs p) := by
    refine ⟨?_⟩
    rw [at0_swapL (hd.lt (by omega)) (hd.lt (by omega))]
    by_cases e : a = p
    · rw [if_pos e, e]
    · rw [if_neg e, if_pos rfl]
  refine ⟨fun x y w' => ∃ (i j : Nat) (ys : List ByteArray), x = i ∧ y = j ∧ Els Value.string e w' d l c ys ∧ Seg a b xs ys ∧ Pt ys a b i j ∧ AtE ys a (at0 xs p) ∧ Mod (rowB d) w w', fun x y _ => (y + 1 - x).toNat,
    ⟨a + 1, b - 1, _, rfl, rfl, h1, s1, ⟨Nat.le_refl _, by omega, by omega, fun k h1 h2 => by omega, fun k h1 h2 => by omega⟩, p1, m1⟩, ?_⟩
  rintro _ _ _ w2 ⟨i, j, ys, rfl, rfl, h2, s2, hpt, hp2, m2⟩
  refine ⟨fun x w' => ∃ i' : Nat, x = i' ∧ Els Value.string e w' d l c ys ∧ Pt ys a b i' j ∧ i ≤ i' ∧ (i' ≤ j → at0 ys a < at0 ys i') ∧ Mod (rowB d) w w', ⟨fun x w' => ∃ i' : Nat, x = i' ∧ Els Value.string e w' d l c ys ∧ Pt ys a b i' j ∧ i ≤ i' ∧ Mod (rowB d) w w',
    fun x _ => ((j : Int) + 1 - x).toNat, ⟨i, rfl, h2, hpt, Nat.le_refl _, m2⟩, ?_⟩, ?_⟩
  · rintro _ _ w3 ⟨i', rfl, h3, hp3, hi3, m3⟩ w4 e4
    have m4 : Mod no w3 w4 := by subst e4; exact Mod.drew _
    clear e4
    have hjb := hp3.jb
    have hai := hp3.ai
    have m4' := m3.trans_no m4
    refine ifK_dec (fun hle => ?_) (fun hgt => ⟨i', rfl, h3.no m4, hp3, hi3, fun h => by omega, m4'⟩)
    refine nls (h3.no m4) a i' rfl rfl (by omega) (by omega) (fun hge => ?_) (fun hlt => ⟨i', rfl, h3.no m4, hp3, hi3, fun _ => hlt, m4'⟩)
    exact ⟨⟨i' + 1, (by first | (simp only [IntKind.wrap_i64]; omega) | omega), h3.no m4, hp3.up (by omega) (Lin.nlt hge), by omega, m4'⟩, (by first | (simp only [IntKind.wrap_i64]; omega) | omega)⟩
  rintro _ _ w5 ⟨i5, rfl, h5, hp5, hi5, hx5, m5⟩
  refine ⟨fun x w' => ∃ j' : Nat, x = j' ∧ Els Value.string e w' d l c ys ∧ Pt ys a b i5 j' ∧ j' ≤ j ∧ (i5 ≤ j' → at0 ys j' ≤ at0 ys a) ∧ Mod (rowB d) w w', ⟨fun x w' => ∃ j' : Nat, x = j' ∧ Els Value.string e w' d l c ys ∧ Pt ys a b i5 j' ∧ j' ≤ j ∧ Mod (rowB d) w w',
    fun x _ => (x + 1 - (i5 : Int)).toNat, ⟨j, rfl, h5, hp5, Nat.le_refl _, m5⟩, ?_⟩, ?_⟩
  · rintro _ _ w3 ⟨j', rfl, h3, hp3, hi3, m3⟩ w4 e4
    have m4 : Mod no w3 w4 := by subst e4; exact Mod.drew _
    clear e4
    have hjb := hp3.jb
    have hai := hp3.ai
    have m4' := m3.trans_no m4
    refine ifK_dec (fun hle => ?_) (fun hgt => ⟨j', rfl, h3.no m4, hp3, hi3, fun h => by omega, m4'⟩)
    refine lss (h3.no m4) a j' rfl rfl (by omega) (by omega) (fun hlt => ?_) (fun hge => ⟨j', rfl, h3.no m4, hp3, hi3, fun _ => Lin.nlt hge, m4'⟩)
    exact ⟨⟨j' - 1, (by first | (simp only [IntKind.wrap_i64]; omega) | omega), h3.no m4, hp3.down (by omega) (Lin.lle hlt), by omega, m4'⟩, (by first | (simp only [IntKind.wrap_i64]; omega) | omega)⟩
  rintro _ _ w6 ⟨j6, rfl, h6, hp6, hj6, hx6, m6⟩
  have hjb := hp6.jb
  have hai := hp6.ai
  have hil := hp6.ij
  refine ifK_dec (fun hgt => ?_) (fun hle => ?_)
  · refine h w6 ys i5 h6 s2 (hp6.eqd (by omega) fun k h7 h8 => ?_) m6
    rw [hp2.eq]
    exact s2.all (hd.le hb) (P := fun v => at0 xs p ≤ v) hmin k h7 h8
  · intro w7 e7
    have m7 : Mod no w6 w7 := by subst e7; exact Mod.drew _
    clear e7
    have hlt : i5 < j6 := by
      refine Nat.lt_of_le_of_ne (by omega) fun e => ?_
      subst e
      have h7 := hx5 (by omega)
      have h8 := hx6 (by omega)
      exact absurd h7 (Lin.nle h8)
    refine (h6.no m7).swp i5 j6 rfl rfl (by omega) (by omega) fun w8 h8 m8 => ?_
    refine ⟨⟨i5 + 1, j6 - 1, _, (by first | (simp only [IntKind.wrap_i64]; omega) | omega), (by first | (simp only [IntKind.wrap_i64]; omega) | omega), h8, s2.trans (h6.seg (by omega) (by omega) (by omega) (by omega) (by omega) (by omega)), hp6.swap (h6.le hb) hlt (hx6 (by omega)) (Lin.lle (hx5 (by omega))), ?_, (m6.trans_no m7).trans m8⟩, (by first | (simp only [IntKind.wrap_i64]; omega) | omega)⟩
    exact ⟨by rw [at0_swapL (h6.lt (by omega)) (h6.lt (by omega)), if_neg (by omega), if_neg (by omega), hp2.eq]⟩

/-! ### Heap sort -/
theorem siftDown_ok (lo hi f : Nat) (hlo : lo ≤ hi) (hf : f + hi ≤ l) (hh : Hp xs f (lo + 1) hi) (R : Value → World → Prop)
    (h : ∀ w' ys, Els Value.string e w' d l c ys → Seg (f + lo) (f + hi) xs ys → Hp ys f lo hi → Mod (rowB d) w w' → R (.tuple #[]) w') :
    Ca Tryz.prog 150 #[.slice d l c, .int .i64 lo, .int .i64 hi, .int .i64 f] w R := by
  refine ca150 d l c lo hi f w R ?_
  refine ⟨fun x w' => ∃ (r : Nat) (ys : List ByteArray), x = r ∧ lo ≤ r ∧ (r < hi ∨ r = lo) ∧ Els Value.string e w' d l c ys ∧ Seg (f + lo) (f + hi) xs ys ∧ Sift ys f lo hi r ∧ Mod (rowB d) w w', fun x _ => ((hi : Int) - x).toNat,
    ⟨lo, xs, rfl, Nat.le_refl _, .inr rfl, hd, Seg.refl _ _ _, Sift.start hh, Mod.refl _ _⟩, ?_⟩
  rintro _ _ w1 ⟨r, ys, rfl, hlr, hr, h1, s1, hs1, m1⟩
  refine ifK_of (fun hb => ?_) (fun hb => ?_)
  · have hb : hi ≤ 2 * r + 1 := by
      have := of_decide_eq_true hb
      clear hb
      simp only [IntKind.wrap_i64] at this
      omega
    exact h w1 ys h1 s1 (hs1.done fun k h2 h3 => by omega) m1
  have hb : 2 * r + 1 < hi := by
    have := of_decide_eq_false hb
    clear hb
    simp only [IntKind.wrap_i64] at this
    omega
  refine ⟨fun x w' => ∃ k : Nat, x = k ∧ (k = 2 * r + 1 ∨ k = 2 * r + 2) ∧ k < hi ∧ (∀ q, (q = 2 * r + 1 ∨ q = 2 * r + 2) → q < hi → at0 ys (f + q) ≤ at0 ys (f + k)) ∧ Els Value.string e w' d l c ys ∧ Mod (rowB d) w w', ?_, ?_⟩
  · intro w2 e2
    have m2 : Mod no w1 w2 := by subst e2; exact Mod.drew _
    clear e2
    refine ifK_of (fun hc => ?_) (fun hc => ?_)
    · have hc : 2 * r + 2 < hi := by
        have := of_decide_eq_true hc
        clear hc
        simp only [IntKind.wrap_i64] at this
        omega
      refine lss (h1.no m2) (f + (2 * r + 1)) (f + (2 * r + 2)) (by first | (simp only [IntKind.wrap_i64]; omega) | omega) (by first | (simp only [IntKind.wrap_i64]; omega) | omega) (by omega) (by omega) (fun hlt => ?_) (fun hge => ?_)
      · refine ⟨2 * r + 2, (by first | (simp only [IntKind.wrap_i64]; omega) | omega), .inr rfl, hc, fun q hq hqh => ?_, h1.no m2, m1.trans_no m2⟩
        rcases hq with rfl | rfl
        · exact Lin.lle hlt
        · exact Lin.refl _
      · refine ⟨2 * r + 1, (by first | (simp only [IntKind.wrap_i64]; omega) | omega), .inl rfl, hb, fun q hq hqh => ?_, h1.no m2, m1.trans_no m2⟩
        rcases hq with rfl | rfl
        · exact Lin.refl _
        · exact Lin.nlt hge
    · have hc : hi ≤ 2 * r + 2 := by
        have := of_decide_eq_false hc
        clear hc
        simp only [IntKind.wrap_i64] at this
        omega
      refine ⟨2 * r + 1, (by first | (simp only [IntKind.wrap_i64]; omega) | omega), .inl rfl, hb, fun q hq hqh => ?_, h1.no m2, m1.trans_no m2⟩
      rcases hq with rfl | rfl
      · exact Lin.refl _
      · omega
  rintro _ _ w3 ⟨k, rfl, hk, hkh, hmax, h3, m3⟩ w4 e4
  have m4 : Mod no w3 w4 := by subst e4; exact Mod.drew _
  clear e4
  refine nls (h3.no m4) (f + r) (f + k) (by first | (simp only [IntKind.wrap_i64]; omega) | omega) (by first | (simp only [IntKind.wrap_i64]; omega) | omega) (by omega) (by omega) (fun hge => ?_) (fun hlt => ?_)
  · exact h w4 ys (h3.no m4) s1 (hs1.done fun q hq hqh => Lin.tr (hmax q hq hqh) (Lin.nlt hge)) (m3.trans_no m4)
  · intro w5 e5
    have m5 : Mod no w4 w5 := by subst e5; exact Mod.drew _
    clear e5
    refine ((h3.no m4).no m5).swp (f + r) (f + k) (by first | (simp only [IntKind.wrap_i64]; omega) | omega) (by first | (simp only [IntKind.wrap_i64]; omega) | omega) (by omega) (by omega) fun w6 h6 m6 => ?_
    refine ⟨⟨k, _, rfl, by omega, .inl hkh, h6, s1.trans (h1.seg (by omega) (by omega) (by omega) (by omega) (by omega) (by omega)), hs1.step hlr (h1.le hf) hk hkh hmax hlt, ((m3.trans_no m4).trans_no m5).trans m6⟩, by simp only; omega⟩

theorem heapSort_ok (a b : Nat) (hab : a < b) (hb : b ≤ l) (R : Value → World → Prop)
    (h : ∀ w' ys, Els Value.string e w' d l c ys → Seg a b xs ys → Srt ys a b → Mod (rowB d) w w' → R (.tuple #[]) w') :
    Ca Tryz.prog 137 #[.slice d l c, .int .i64 a, .int .i64 b] w R := by
  refine ca137 d l c a b w R ?_
  obtain ⟨n, rfl⟩ : ∃ n, b = a + (n + 1) := ⟨b - a - 1, by omega⟩
  have e1 : IntKind.i64.wrap (((a + (n + 1) : Nat) : Int) - a) = ((n + 1 : Nat) : Int) := (by first | (simp only [IntKind.wrap_i64]; omega) | omega)
  have e2 : IntKind.i64.wrap (((n + 1 : Nat) : Int) - 1) = (n : Int) := (by first | (simp only [IntKind.wrap_i64]; omega) | omega)
  have e3 : Int.tdiv (n : Int) 2 = ((n / 2 : Nat) : Int) := by rw [show (2 : Int) = ((2 : Nat) : Int) from rfl, ← Int.ofNat_tdiv]
  have e4 : IntKind.i64.wrap ((n / 2 : Nat) : Int) = ((n / 2 : Nat) : Int) := (by first | (simp only [IntKind.wrap_i64]; omega) | omega)
  rw [W137, e1, e2, e3, e4]
  clear e1 e2 e3 e4
  refine ⟨by decide, ?_⟩
  refine ⟨fun x w' => ∃ (i : Nat) (ys : List ByteArray), x = (i : Int) - 1 ∧ i ≤ n + 1 ∧ Els Value.string e w' d l c ys ∧ Seg a (a + (n + 1)) xs ys ∧ Hp ys a i (n + 1) ∧ Mod (rowB d) w w', fun x _ => (x + 1).toNat,
    ⟨n / 2 + 1, xs, by omega, by omega, hd, Seg.refl _ _ _, fun p k h1 h2 h3 => by omega, Mod.refl _ _⟩, ?_⟩
  rintro _ _ w1 ⟨i, ys, rfl, hi, h1, s1, hp1, m1⟩
  refine ifK_dec (fun hge => ?_) (fun hlt => ?_)
  · obtain ⟨k, rfl⟩ : ∃ k, i = k + 1 := ⟨i - 1, by omega⟩
    rw [show ((k + 1 : Nat) : Int) - 1 = (k : Int) by omega]
    refine siftDown_ok e d l c ys w1 h1 hl k (n + 1) a (by omega) (by omega) hp1 _ fun w2 zs h2 s2 hp2 m2 => ⟨rfl, ⟨k, zs, (by first | (simp only [IntKind.wrap_i64]; omega) | omega), by omega, h2, s1.trans (s2.mono (by omega) (by omega)), hp2, m1.trans m2⟩, (by first | (simp only [IntKind.wrap_i64]; omega) | omega)⟩
  · have : i = 0 := by omega
    subst this
    refine ⟨fun x w' => ∃ (i : Nat) (ys : List ByteArray), x = (i : Int) - 1 ∧ i ≤ n + 1 ∧ Els Value.string e w' d l c ys ∧ Seg a (a + (n + 1)) xs ys ∧ Pop ys a i (n + 1) ∧ Mod (rowB d) w w', fun x _ => (x + 1).toNat,
      ⟨n + 1, ys, by omega, by omega, h1, s1, Pop.start hp1, m1⟩, ?_⟩
    rintro _ _ w2 ⟨i, ys, rfl, hi, h2, s2, hp2, m2⟩
    refine ifK_dec (fun hge => ?_) (fun hlt => ?_)
    · obtain ⟨k, rfl⟩ : ∃ k, i = k + 1 := ⟨i - 1, by omega⟩
      rw [show ((k + 1 : Nat) : Int) - 1 = (k : Int) by omega]
      intro w3 e3
      have m3 : Mod no w2 w3 := by subst e3; exact Mod.drew _
      clear e3
      refine (h2.no m3).swp a (a + k) rfl (by first | (simp only [IntKind.wrap_i64]; omega) | omega) (by omega) (by omega) fun w4 h4 m4 => ?_
      refine siftDown_ok e d l c _ w4 h4 hl 0 k a (by omega) (by omega) (hp2.swap (by omega) (h2.le (by omega))) _ fun w5 zs h5 s5 hp5 m5 => ⟨rfl, ⟨k, zs, (by first | (simp only [IntKind.wrap_i64]; omega) | omega), by omega, h5, ?_, hp2.step (by omega) (h2.le (by omega)) s5 hp5, ((m2.trans_no m3).trans m4).trans m5⟩, (by first | (simp only [IntKind.wrap_i64]; omega) | omega)⟩
      exact (s2.trans (h2.seg (by omega) (by omega) (by omega) (by omega) (by omega) (by omega))).trans (s5.mono (by omega) (by omega))
    · have : i = 0 := by omega
      subst this
      exact h w2 ys h2 s2 hp2.done m2
end

/-! ### Scattering -/
theorem wrapU (x : Int) : IntKind.wrap .u64 x = x % 18446744073709551616 := by simp [IntKind.wrap, IntKind.bits, IntKind.signed]
theorem nextPow_ok (n : Nat) (hn : 0 < n) (hl : n < 4611686018427387904) (w : World) (R : Value → World → Prop) (h : ∀ k : Nat, k ≤ 2 * n → 0 < k → R (.int .u64 k) w) : Ca Tryz.prog 127 #[.int .i64 n] w R := by
  refine ca127 n w R ?_
  have e1 : IntKind.wrap .u64 (n : Int) = n := by rw [wrapU]; omega
  rw [W127, e1]
  clear e1
  refine bitsLen_ok n w _ fun k hk => ⟨_, rfl, by omega, ?_⟩
  obtain ⟨h1, h2⟩ := hk (by omega) (by omega)
  have h3 : ((2 ^ k : Nat) : Int) ≤ 2 * n := by simpa using h2
  have h4 : 0 < 2 ^ k := Nat.pow_pos (by decide)
  have e2 : IntKind.wrap .u64 (1 * 2 ^ min (Int.toNat (k : Int)) 64) = ((2 ^ k : Nat) : Int) := by
    have e3 : min (Int.toNat (k : Int)) 64 = k := by omega
    have e4 : (1 : Int) * 2 ^ k = ((2 ^ k : Nat) : Int) := by simp
    rw [e3, e4, wrapU]
    omega
  rw [e2]
  exact h _ (by omega) h4
theorem xorNext_ok (s : Nat) (t : TypeId) (n : Int) (w : World) (hs : w.heap[s]? = some (.cells #[.int .u64 n] t (0, 0))) (R : Value → World → Prop)
    (h : ∀ w' (n' : Int), w'.heap[s]? = some (.cells #[.int .u64 n'] t (0, 0)) → Mod (on s) w w' → R (.int .u64 n') w') : Ca Tryz.prog 128 #[.pointer (some ⟨s, 0, none⟩)] w R := by
  refine ca128 (some ⟨s, 0, none⟩) w R ?_
  have step : ∀ (w : World) (n m : Int) (K : World → Prop), w.heap[s]? = some (.cells #[.int .u64 n] t (0, 0)) → (∀ w', w'.heap[s]? = some (.cells #[.int .u64 m] t (0, 0)) → Mod (on s) w w' → K w') →
      (∃ v : Value, w.cell? (Addr.add ⟨s, 0, none⟩ 0) = some v) ∧ w.frozen? (Addr.add ⟨s, 0, none⟩ 0) = false ∧ atW (w.setCell (Addr.add ⟨s, 0, none⟩ 0) (.int .u64 m)) K := by
    intro w n m K hs hK
    refine ⟨⟨_, by rw [cl1 hs]; rfl⟩, fz1 hs _, fun w' e => ?_⟩
    subst e
    exact hK _ (set1 hs 0 _) (Mod.set1 _ _ _ _)
  intro w0 e0
  have m0 : Mod no w w0 := by subst e0; exact Mod.drew _
  clear e0
  have hs0 := m0.at' hs
  refine ⟨n, by rw [cl hs0]; rfl, n, by rw [cl hs0]; rfl, by decide, step w0 n _ _ hs0 fun w1 hs1 m1 => ?_⟩
  intro w2 e2
  have m2 : Mod no w1 w2 := by subst e2; exact Mod.drew _
  clear e2
  have hs2 := m2.at' hs1
  refine ⟨_, by rw [cl hs2]; rfl, _, by rw [cl hs2]; rfl, by decide, step w2 _ _ _ hs2 fun w3 hs3 m3 => ?_⟩
  intro w4 e4
  have m4 : Mod no w3 w4 := by subst e4; exact Mod.drew _
  clear e4
  have hs4 := m4.at' hs3
  refine ⟨_, by rw [cl hs4]; rfl, _, by rw [cl hs4]; rfl, by decide, step w4 _ _ _ hs4 fun w5 hs5 m5 => ?_⟩
  exact ⟨_, by rw [cl hs5]; rfl, h w5 _ hs5 (((((m0.no_trans m1).trans_no m2).trans m3).trans_no m4).trans m5)⟩

theorem and_le (x y : Int) (k : Nat) (hy : y = k) (hk : k < 18446744073709551616) : ((BitVec.ofInt 64 x &&& BitVec.ofInt 64 y).toNat) ≤ k := by
  rw [BitVec.toNat_and]
  refine Nat.le_trans Nat.and_le_right ?_
  rw [hy, BitVec.toNat_ofInt]
  omega
theorem breakP_ok (e : TypeId) (d : Option Addr) (l c : Nat) (xs : List ByteArray) (w : World) (hd : Els Value.string e w d l c xs) (hl : l < 4611686018427387904) (a b : Nat) (hab : a + 8 ≤ b) (hb : b ≤ l) (R : Value → World → Prop)
    (h : ∀ w' ys, Els Value.string e w' d l c ys → Seg a b xs ys → Mod (rowB d) w w' → R (.tuple #[]) w') :
    Ca Tryz.prog 138 #[.slice d l c, .int .i64 a, .int .i64 b] w R := by
  refine ca138 d l c a b w R ?_
  obtain ⟨elen, e4, ei, ej, ek⟩ := piv_eqs a b l (by omega) hb hl
  rw [W138]
  simp only [elen, e4, ej]
  clear elen e4 ei ej ek
  have hq : a + (b - a) / 4 * 2 + 1 < b ∧ a + 1 ≤ a + (b - a) / 4 * 2 := by omega
  generalize a + (b - a) / 4 * 2 = mid at hq
  have em : IntKind.i64.wrap ((mid : Int) - 1) = ((mid - 1 : Nat) : Int) := (by first | (simp only [IntKind.wrap_i64]; omega) | omega)
  have ep : IntKind.i64.wrap ((mid : Int) + 1) = ((mid + 1 : Nat) : Int) := (by first | (simp only [IntKind.wrap_i64]; omega) | omega)
  rw [em, ep]
  clear em ep
  refine ifK_of (fun _ => ?_) (fun hn => absurd (of_decide_eq_false hn) (by omega))
  intro w0 e0
  have m0 : Mod no w w0 := by subst e0; exact Mod.alloc _ _
  have hs0 : ∃ t, w0.heap[w.heap.size]? = some (.cells #[.int .u64 0] t (0, 0)) := by subst e0; exact ⟨_, new_at _ _⟩
  clear e0
  obtain ⟨t, hs0⟩ := hs0
  have hne : ¬ rowB d w.heap.size := by
    intro hk
    obtain ⟨g, rfl, hc⟩ := hd.get (i := 0) (by have := hd.len; omega)
    have : g = w.heap.size := by simpa [rowB] using hk
    subst this
    rw [World.cell?, Array.getElem?_eq_none (by simp [Addr.add])] at hc
    cases hc
  refine ⟨⟨_, by rw [cl1 hs0]; rfl⟩, fz1 hs0 _, ?_⟩
  intro w2 e2
  have m2 : Mod (on w.heap.size) w0 w2 := by subst e2; exact Mod.set1 _ _ _ _
  have hs2 : ∃ n : Int, w2.heap[w.heap.size]? = some (.cells #[.int .u64 n] t (0, 0)) := by subst e2; exact ⟨_, set1 hs0 0 _⟩
  clear e2
  have m02 : Mod no w w2 := m0.new m2 fun k hk => by cases hk; exact Nat.le_refl _
  refine nextPow_ok (b - a) (by omega) (by omega) w2 _ fun k hk hk0 => ⟨_, rfl, by decide, ?_⟩
  refine ⟨fun x w' => ∃ (i : Nat) (n : Int) (ys : List ByteArray), x = i ∧ mid - 1 ≤ i ∧ i ≤ mid + 2 ∧ w'.heap[w.heap.size]? = some (.cells #[.int .u64 n] t (0, 0)) ∧ Els Value.string e w' d l c ys ∧ Seg a b xs ys ∧ Mod (fun k => rowB d k ∨ k = w.heap.size) w w', fun x _ => ((mid : Int) + 2 - x).toNat, ?_, ?_⟩
  · obtain ⟨n, hs2⟩ := hs2
    exact ⟨mid - 1, n, xs, rfl, Nat.le_refl _, by omega, hs2, hd.no m02, Seg.refl _ _ _, m02.of_no⟩
  rintro _ _ w3 ⟨i, n, ys, rfl, hi1, hi2, hs3, h3, s3, m3⟩
  have m3' : Mod (rowB d) w w3 := m3.mono fun k hk h => by
    rcases h with h | h
    · exact h
    · omega
  refine ⟨by decide, ifK_dec (fun hle => ?_) (fun hgt => h w3 ys h3 s3 m3')⟩
  refine xorNext_ok _ t n w3 hs3 _ fun w4 n4 hs4 m4 => ⟨_, rfl, ?_⟩
  have h4 : Els Value.string e w4 d l c ys := h3.mod m4 fun k hk he => hne (by cases he; exact hk)
  have hand : IntKind.wrap .u64 ((k : Int) - 1) = ((k - 1 : Nat) : Int) := by rw [wrapU]; omega
  rw [hand]
  have hale := and_le n4 ((k - 1 : Nat) : Int) (k - 1) rfl (by omega)
  generalize ((BitVec.ofInt 64 n4 &&& BitVec.ofInt 64 ((k - 1 : Nat) : Int)).toNat) = o at hale
  have e5 : IntKind.wrap .i64 (IntKind.wrap .u64 (o : Int)) = o := by rw [wrapU, IntKind.wrap_i64]; omega
  rw [e5]
  clear e5
  refine ⟨fun x w' => ∃ q : Nat, x = q ∧ q < b - a ∧ w' = w4, ifK_dec (fun hge => ⟨o - (b - a), (by first | (simp only [IntKind.wrap_i64]; omega) | omega), by omega, rfl⟩) (fun hlt => ⟨o, rfl, by omega, rfl⟩), ?_⟩
  rintro _ _ _ ⟨q, rfl, hq1, rfl⟩ w5 e5
  rename_i w4
  have m5 : Mod no w4 w5 := by subst e5; exact Mod.drew _
  clear e5
  refine (h4.no m5).swp i (a + q) rfl (by first | (simp only [IntKind.wrap_i64]; omega) | omega) (by omega) (by omega) fun w6 h6 m6 => ?_
  have hs6 : w6.heap[w.heap.size]? = some (.cells #[.int .u64 n4] t (0, 0)) := m6.at (m5.at' hs4) hne
  clear hale hk hk0 hand
  have e8 : IntKind.i64.wrap ((i : Int) + 1) = ((i + 1 : Nat) : Int) := (by first | (simp only [IntKind.wrap_i64]; omega) | omega)
  rw [e8]
  clear e8
  exact ⟨⟨i + 1, n4, _, rfl, by omega, by omega, hs6, h6, s3.trans (h4.seg (by omega) (by omega) (by omega) (by omega) (by omega) (by omega)),
    ((m3.trans (m4.mono fun k _ h => .inr h)).trans_no m5).trans (m6.mono fun k _ h => .inl h)⟩, by simp only; omega⟩
end Go.Proofs.YtgjdandnncjegaaGreatDoor.Sortstring

/- The formulas of functions, printed by a program of mine (gen.py) out of the translation. -/
namespace Go.Proofs.YtgjdandnncjegaaGreatDoor
open Go Go.Proofs.YtgjdandnncjegaaGreatDoor.St
open _root_.Go.Value (string int bool slice pointer agg tuple map func nilFunc iface)
open _root_.Go.World (cell? frozen? setCell alloc drew)
open _root_.Go.Addr (add)
open _root_.Go.Obj (cells)
open _root_.Go.IntKind (wrap i64 u64 i32 u32 u8)
set_option maxRecDepth 100000

/-- slices.pdqsortOrdered[string] -/
noncomputable def C122 : Code := (Tryz.f122.body).getD .skip
def pl122 : Nat → Plan
  | 17 => (.quiet 0 (.quiet 1 (.quiet 2 (.quiet 3 (.quiet 4 (.quiet 5 (.quiet 6 (.quiet 7 (.quiet 8 (.quiet 9 (.quiet 10 (.quiet 11 (.eff 12 [] (.quiet 13 (.quiet 14 .done)))))))))))))))
  | _ => .done
def ls122 : Nat → List (Nat × LT)
  | 2 => [(1, (.one (.int .i64))), (2, (.one (.int .i64))), (3, (.one (.int .i64))), (8, (.one .bool)), (9, (.one .bool))]
  | 10 => [(0, .agg []), (3, (.one (.int .i64)))]
  | 14 => [(0, .agg []), (11, (.one (.int .i64))), (12, (.one (.int .i64)))]
  | 18 => [(0, .agg [])]
  | 21 => [(0, .agg []), (1, (.one (.int .i64)))]
  | _ => []
def W122 (dataa : Option Addr) (datal : Nat) (datac : Nat) (a_ : Int) (b : Int) (limit : Int) (w : World) (R : Value → World → Prop) : Prop :=
  (∃ z0 : Int → Int → Int → Bool → Bool → World → Prop, (∃ z1 : Int → Int → Int → Bool → Bool → World → Nat, ((z0 (a_) (b) (limit) (true) (true) (w)) ∧ (∀ (_ : Nat → Value), (∀ (x3 : Int), (∀ (x4 : Int), (∀ (x5 : Int), (∀ (b6 : Bool), (∀ (b7 : Bool), (∀ (w8 : World), ((z0 (x3) (x4) (x5) (b6) (b7) (w8)) → (ifK (decide (wrap i64 (x4 - x3) ≤ 12))
(Ca Tryz.prog (136) (Array.mk [slice dataa datal datac, int i64 x3, int i64 x4]) (w8) (fun v9 => (fun w10 =>
((v9 = tuple (Array.mk (List.reverse []))) ∧ (R (tuple (Array.mk (List.reverse []))) (w10))))))
(ifK (x5 == 0)
(Ca Tryz.prog (137) (Array.mk [slice dataa datal datac, int i64 x3, int i64 x4]) (w8) (fun v11 => (fun w12 =>
((v11 = tuple (Array.mk (List.reverse []))) ∧ (R (tuple (Array.mk (List.reverse []))) (w12))))))
(∃ z13 : Int → World → Prop, ((ifK (!b6)
(Ca Tryz.prog (138) (Array.mk [slice dataa datal datac, int i64 x3, int i64 x4]) (w8) (fun v14 => (fun w15 =>
((v14 = tuple (Array.mk (List.reverse []))) ∧ (z13 (wrap i64 (x5 - 1)) (w15))))))
(z13 (x5) (w8))) ∧ (∀ (_ : Nat → Value), (∀ (x17 : Int), (∀ (w18 : World), ((z13 (x17) (w18)) → (Ca Tryz.prog (139) (Array.mk [slice dataa datal datac, int i64 x3, int i64 x4]) (w18) (fun v19 => (fun w20 =>
(∃ x21 : Int, (∃ x22 : Int, ((v19 = tuple (Array.mk (List.reverse [int i64 x22, int i64 x21]))) ∧ (∃ z23 : Int → Int → World → Prop, ((ifK (x22 == 2)
(Ca Tryz.prog (140) (Array.mk [slice dataa datal datac, int i64 x3, int i64 x4]) (w20) (fun v24 => (fun w25 =>
((v24 = tuple (Array.mk (List.reverse []))) ∧ (z23 (wrap i64 (wrap i64 (x4 - 1) - wrap i64 (x21 - x3))) (1) (w25))))))
(z23 (x21) (x22) (w20))) ∧ (∀ (_ : Nat → Value), (∀ (x27 : Int), (∀ (x28 : Int), (∀ (w29 : World), ((z23 (x27) (x28) (w29)) → (∃ z30 : World → Prop, ((ifK (b6)
(ifK (b7)
(ifK (x28 == 1)
(Ca Tryz.prog (141) (Array.mk [slice dataa datal datac, int i64 x3, int i64 x4]) (w29) (fun v31 => (fun w32 =>
(∃ b33 : Bool, ((v31 = bool b33) ∧ (ifK (b33)
(R (tuple (Array.mk (List.reverse []))) (w32))
(z30 (w32))))))))
(z30 (w29)))
(z30 (w29)))
(z30 (w29))) ∧ (∀ (_ : Nat → Value), (∀ (w35 : World), ((z30 (w35)) → (∃ z36 : Int → World → Prop, ((atW (drew w35) (fun w37 =>
(ifK (decide (x3 > 0))
(∃ a38 : Addr, ((dataa = some a38) ∧ (((0 : Int) ≤ wrap i64 (x3 - 1)) ∧ (((wrap i64 (x3 - 1) : Int) < (↑datal : Int)) ∧ (∃ s39 : ByteArray, ((cell? w37 (add a38 (Int.toNat (wrap i64 (x3 - 1)) * 1)) = some (string s39)) ∧ (∃ a40 : Addr, ((dataa = some a40) ∧ (((0 : Int) ≤ x27) ∧ (((x27 : Int) < (↑datal : Int)) ∧ (∃ s41 : ByteArray, ((cell? w37 (add a40 (Int.toNat x27 * 1)) = some (string s41)) ∧ (Ca Tryz.prog (142) (Array.mk [string s39, string s41]) (w37) (fun v42 => (fun w43 =>
(∃ b44 : Bool, ((v42 = bool b44) ∧ (ifK (!b44)
(Ca Tryz.prog (143) (Array.mk [slice dataa datal datac, int i64 x3, int i64 x4, int i64 x27]) (w43) (fun v45 => (fun w46 =>
(∃ x47 : Int, ((v45 = int i64 x47) ∧ ((z0 (x47) (x4) (x17) (b6) (b7) (w46)) ∧ (z1 x47 x4 x17 b6 b7 w46 < z1 x3 x4 x5 b6 b7 w8)))))))
(z36 (x3) (w43))))))))))))))))))))
(z36 (x3) (w37))))) ∧ (∀ (_ : Nat → Value), (∀ (x49 : Int), (∀ (w50 : World), ((z36 (x49) (w50)) → (Ca Tryz.prog (144) (Array.mk [slice dataa datal datac, int i64 x49, int i64 x4, int i64 x27]) (w50) (fun v51 => (fun w52 =>
(∃ x53 : Int, (∃ b54 : Bool, ((v51 = tuple (Array.mk (List.reverse [bool b54, int i64 x53]))) ∧ (((8 : Int) ≠ 0) ∧ (ifK (decide (wrap i64 (x53 - x49) < wrap i64 (x4 - x53)))
(Ca Tryz.prog (122) (Array.mk [slice dataa datal datac, int i64 x49, int i64 x53, int i64 x17]) (w52) (fun v55 => (fun w56 =>
((v55 = tuple (Array.mk (List.reverse []))) ∧ ((z0 (wrap i64 (x53 + 1)) (x4) (x17) (decide (wrap i64 (x53 - x49) ≥ wrap i64 (Int.tdiv (wrap i64 (x4 - x3)) 8))) (b54) (w56)) ∧ (z1 (wrap i64 (x53 + 1)) x4 x17 (decide (wrap i64 (x53 - x49) ≥ wrap i64 (Int.tdiv (wrap i64 (x4 - x3)) 8))) b54 w56 < z1 x3 x4 x5 b6 b7 w8))))))
(Ca Tryz.prog (122) (Array.mk [slice dataa datal datac, int i64 (wrap i64 (x53 + 1)), int i64 x4, int i64 x17]) (w52) (fun v57 => (fun w58 =>
((v57 = tuple (Array.mk (List.reverse []))) ∧ ((z0 (x49) (x53) (x17) (decide (wrap i64 (x4 - x53) ≥ wrap i64 (Int.tdiv (wrap i64 (x4 - x3)) 8))) (b54) (w58)) ∧ (z1 x49 x53 x17 (decide (wrap i64 (x4 - x53) ≥ wrap i64 (Int.tdiv (wrap i64 (x4 - x3)) 8))) b54 w58 < z1 x3 x4 x5 b6 b7 w8)))))))))))))))))))))))))))))))))))))))))))))))))))))))))
theorem ca122 (dataa : Option Addr) (datal : Nat) (datac : Nat) (a_ : Int) (b : Int) (limit : Int) (w : World) (R : Value → World → Prop) (h : W122 dataa datal datac a_ b limit w R) : Ca Tryz.prog 122 ⟨[(.slice dataa datal datac), (.int .i64 a_), (.int .i64 b), (.int .i64 limit)]⟩ w R :=
  caB (fn := Tryz.f122) (pl := pl122) (ls := ls122) Tryz.func122 (by kernel_rfl) (by kernel_rfl) h

/-- slices.Sort[[]string,string] -/
noncomputable def C98 : Code := (Tryz.f98.body).getD .skip
def pl98 : Nat → Plan := fun _ => .done
def ls98 : Nat → List (Nat × LT) := fun _ => []
def W98 (xa : Option Addr) (xl : Nat) (xc : Nat) (w : World) (R : Value → World → Prop) : Prop :=
  (Ca Tryz.prog (93) (Array.mk [int u64 (wrap u64 (↑xl : Int))]) (w) (fun v0 => (fun w1 =>
(∃ x2 : Int, ((v0 = int i64 x2) ∧ (Ca Tryz.prog (122) (Array.mk [slice xa xl xc, int i64 0, int i64 (↑xl : Int), int i64 x2]) (w1) (fun v3 => (fun w4 =>
((v3 = tuple (Array.mk (List.reverse []))) ∧ (R (tuple (Array.mk (List.reverse []))) (w4)))))))))))
theorem ca98 (xa : Option Addr) (xl : Nat) (xc : Nat) (w : World) (R : Value → World → Prop) (h : W98 xa xl xc w R) : Ca Tryz.prog 98 ⟨[(.slice xa xl xc)]⟩ w R :=
  caB (fn := Tryz.f98) (pl := pl98) (ls := ls98) Tryz.func98 (by kernel_rfl) (by kernel_rfl) h
end Go.Proofs.YtgjdandnncjegaaGreatDoor

/- The library's general sort, at one type: sorting what is nearly sorted; the sort itself. -/
namespace Go.Proofs.YtgjdandnncjegaaGreatDoor.Sortstring
open Go Go.Proofs.YtgjdandnncjegaaGreatDoor Go.Proofs.YtgjdandnncjegaaGreatDoor.St

theorem wS {i : Nat} (h : i < 4611686018427387904) : IntKind.i64.wrap ((i : Int) + 1) = ((i + 1 : Nat) : Int) := by rw [wrap64 (by omega) (by omega)]; rfl
theorem wP {i : Nat} (h : i < 4611686018427387904) (h0 : 0 < i) : IntKind.i64.wrap ((i : Int) - 1) = ((i - 1 : Nat) : Int) := by rw [wrap64 (by omega) (by omega)]; omega
theorem wD {i j : Nat} (h : i < 4611686018427387904) (h0 : j ≤ i) : IntKind.i64.wrap ((i : Int) - (j : Int)) = ((i - j : Nat) : Int) := by rw [wrap64 (by omega) (by omega)]; omega

section
variable (e : TypeId) (d : Option Addr) (l c : Nat) (xs : List ByteArray) (w : World) (hd : Els Value.string e w d l c xs) (hl : l < 4611686018427387904)
include hd hl

theorem partial_ok (a b : Nat) (hab : a < b) (hb : b ≤ l) (hbel : Bel xs a b) (R : Value → World → Prop)
    (h : ∀ w' ys (q : Bool), Els Value.string e w' d l c ys → Seg a b xs ys → (q = true → Srt ys a b) → Mod (rowB d) w w' → R (.bool q) w') :
    Ca Tryz.prog 141 #[.slice d l c, .int .i64 a, .int .i64 b] w R := by
  refine ca141 d l c a b w R ?_
  rw [W141, wS (by omega)]
  refine ⟨fun x y w' => ∃ (i j : Nat) (ys : List ByteArray), x = i ∧ y = j ∧ a < i ∧ i ≤ b ∧ j ≤ 5 ∧ Els Value.string e w' d l c ys ∧ Seg a b xs ys ∧ Srt ys a i ∧ Mod (rowB d) w w', fun _ y _ => (5 - y).toNat,
    ⟨a + 1, 0, xs, rfl, rfl, by omega, by omega, by omega, hd, Seg.refl _ _ _, Srt.nil _ _ _ (Nat.le_refl _), Mod.refl _ _⟩, ?_⟩
  rintro _ _ _ w1 ⟨i0, j0, ys, rfl, rfl, hi1, hi2, hj5, h1, s1, srt1, m1⟩
  refine ifK_dec (fun hlt => ?_) (fun _ => h w1 ys false h1 s1 (fun h => by cases h) m1)
  have hj : (j0 : Int) < 5 := hlt
  clear hlt
  -- as long as it rises
  refine ⟨fun x w' => ∃ i : Nat, x = i ∧ a < i ∧ i ≤ b ∧ Els Value.string e w' d l c ys ∧ Srt ys a i ∧ (i < b → at0 ys i < at0 ys (i - 1)) ∧ Mod (rowB d) w w', ⟨fun x w' => ∃ i : Nat, x = i ∧ a < i ∧ i ≤ b ∧ Els Value.string e w' d l c ys ∧ Srt ys a i ∧ Mod (rowB d) w w',
    fun x _ => ((b : Int) - x).toNat, ⟨i0, rfl, hi1, hi2, h1, srt1, m1⟩, ?_⟩, ?_⟩
  · rintro _ _ w2 ⟨i, rfl, h3, h4, h2, srt2, m2⟩ w3 e3
    have m3 : Mod no w2 w3 := by subst e3; exact Mod.drew _
    clear e3
    refine ifK_dec (fun hib => ?_) (fun hib => ⟨i, rfl, h3, h4, h2.no m3, srt2, fun h => by omega, m2.trans_no m3⟩)
    have hib : i < b := by omega
    rw [wS (i := i) (by omega), wP (i := i) (by omega) (by omega)]
    refine nls (h2.no m3) i (i - 1) rfl rfl (by omega) (by omega) (fun hge => ⟨⟨i + 1, rfl, by omega, by omega, h2.no m3, (Ins.start srt2).done (.inr (Lin.nlt hge)), m2.trans_no m3⟩, by simp only; omega⟩)
      (fun hls => ⟨i, rfl, h3, h4, h2.no m3, srt2, fun _ => hls, m2.trans_no m3⟩)
  rintro _ _ w4 ⟨i, rfl, h3, h4, h2, srt2, hls, m2⟩
  refine ifK_eq (fun hib => ?_) (fun hib => ?_)
  · have hib : i = b := by omega
    subst hib
    exact h w4 ys true h2 s1 (fun _ => srt2) m2
  have hib : i < b := by omega
  have hls := hls hib
  rw [wD (i := b) (j := a) (by omega) (by omega), wD (i := i) (j := a) (by omega) (by omega), wD (i := b) (j := i) (by omega) (by omega), wS (i := i) (by omega), wS (i := j0) (by omega), wP (i := i) (by omega) (by omega)]
  refine ifK_of (fun _ => h w4 ys false h2 s1 (fun h => by cases h) m2) (fun _ => ?_)
  intro w5 e5
  have m5 : Mod no w4 w5 := by subst e5; exact Mod.drew _
  clear e5
  refine (h2.no m5).swp i (i - 1) rfl rfl (by omega) (by omega) fun w6 h6 m6 => ?_
  have s6 : Seg a b xs (swapL ys i (i - 1)) := s1.trans (h2.seg (by omega) (by omega) (by omega) (by omega) (by omega) (by omega))
  have m6 := (m2.trans_no m5).trans m6
  have srt6 : Srt (swapL ys i (i - 1)) a (i - 1) := by
    intro p q h7 h8 h9
    rw [at0_swapL (h2.lt (by omega)) (h2.lt (by omega)), at0_swapL (h2.lt (by omega)) (h2.lt (by omega)), if_neg (by omega), if_neg (by omega), if_neg (by omega), if_neg (by omega)]
    exact srt2 p q h7 h8 (by omega)
  -- the smaller one to the left
  refine ⟨fun w' => ∃ zs, Els Value.string e w' d l c zs ∧ Seg a b xs zs ∧ Srt zs a i ∧ Mod (rowB d) w w', ?_, ?_⟩
  · refine ifK_dec (fun hge => ?_) (fun hlt => ⟨_, h6, s6, Srt.nil _ _ _ (by omega), m6⟩)
    refine ⟨fun x w' => ∃ (j : Nat) (zs : List ByteArray), x = j ∧ a ≤ j ∧ j + 1 ≤ i ∧ Els Value.string e w' d l c zs ∧ Seg a b xs zs ∧ Ins zs a (i - 1) j ∧ Mod (rowB d) w w', fun x _ => x.toNat,
      ⟨i - 1, _, rfl, by omega, by omega, h6, s6, Ins.start srt6, m6⟩, ?_⟩
    rintro _ _ w7 ⟨j, zs, rfl, hj1, hj2, h7, s7, ins7, m7⟩
    have fin : (j ≤ a ∨ at0 zs (j - 1) ≤ at0 zs j) → Srt zs a i := fun hh => by
      have := ins7.done hh
      rwa [Nat.sub_add_cancel (by omega)] at this
    refine ifK_dec (fun hj0 => ?_) (fun hj0 => ⟨zs, h7, s7, fin (.inl (by omega)), m7⟩)
    have hj0 : 0 < j := by omega
    intro w8 e8
    have m8 : Mod no w7 w8 := by subst e8; exact Mod.drew _
    clear e8
    rw [wP (i := j) (by omega) hj0]
    refine nls (h7.no m8) j (j - 1) rfl rfl (by omega) (by omega) (fun hge => ⟨zs, h7.no m8, s7, fin (.inr (Lin.nlt hge)), m7.trans_no m8⟩) (fun hlt => ?_)
    have haj : a < j := by
      refine Nat.lt_of_le_of_ne hj1 fun e => ?_
      subst e
      exact absurd hlt (Lin.nle ((hbel.seg s7 (hd.le hb)) hj0 a (Nat.le_refl _) hab))
    intro w9 e9
    have m9 : Mod no w8 w9 := by subst e9; exact Mod.drew _
    clear e9
    refine ((h7.no m8).no m9).swp j (j - 1) rfl rfl (by omega) (by omega) fun w10 h10 m10 => ?_
    exact ⟨⟨j - 1, _, rfl, by omega, by omega, h10, s7.trans (h7.seg (by omega) (by omega) (by omega) (by omega) (by omega) (by omega)), ins7.step (h7.lt (by omega)) haj (by omega) hlt, ((m7.trans_no m8).trans_no m9).trans m10⟩, by simp only; omega⟩
  -- the greater one to the right
  rintro _ w11 ⟨zs, h11, s11, srt11, m11⟩
  have next : ∀ (w' : World) (us : List ByteArray), Els Value.string e w' d l c us → Seg a b xs us → Srt us a i → Mod (rowB d) w w' →
      (∃ (i' j' : Nat) (ys : List ByteArray), (i : Int) = i' ∧ ((j0 + 1 : Nat) : Int) = j' ∧ a < i' ∧ i' ≤ b ∧ j' ≤ 5 ∧ Els Value.string e w' d l c ys ∧ Seg a b xs ys ∧ Srt ys a i' ∧ Mod (rowB d) w w') ∧ (5 - ((j0 + 1 : Nat) : Int)).toNat < (5 - (j0 : Int)).toNat := by
    intro w' us hu su srtu mu
    exact ⟨⟨i, j0 + 1, us, rfl, rfl, h3, h4, by omega, hu, su, srtu, mu⟩, by omega⟩
  refine ifK_of (fun hge => ?_) (fun _ => next w11 zs h11 s11 srt11 m11)
  refine ⟨fun x w' => ∃ (j : Nat) (us : List ByteArray), x = j ∧ i < j ∧ j ≤ b ∧ Els Value.string e w' d l c us ∧ Seg a b xs us ∧ Srt us a i ∧ Mod (rowB d) w w', fun x _ => ((b : Int) - x).toNat,
    ⟨i + 1, zs, rfl, by omega, by omega, h11, s11, srt11, m11⟩, ?_⟩
  rintro _ _ w12 ⟨j, us, rfl, hj1, hj2, h12, s12, srt12, m12⟩
  refine ifK_dec (fun hjb => ?_) (fun _ => next w12 us h12 s12 srt12 m12)
  have hjb : j < b := by omega
  intro w13 e13
  have m13 : Mod no w12 w13 := by subst e13; exact Mod.drew _
  clear e13
  rw [wP (i := j) (by omega) (by omega), wS (i := j) (by omega)]
  refine nls (h12.no m13) j (j - 1) rfl rfl (by omega) (by omega) (fun _ => next w13 us (h12.no m13) s12 srt12 (m12.trans_no m13)) (fun hlt => ?_)
  intro w14 e14
  have m14 : Mod no w13 w14 := by subst e14; exact Mod.drew _
  clear e14
  refine ((h12.no m13).no m14).swp j (j - 1) rfl rfl (by omega) (by omega) fun w15 h15 m15 => ?_
  have s15 : Seg i b us (swapL us j (j - 1)) := h12.seg (by omega) (by omega) (by omega) (by omega) (by omega) (by omega)
  exact ⟨⟨j + 1, _, rfl, by omega, by omega, h15, s12.trans (s15.mono (by omega) (Nat.le_refl _)), srt12.of_out s15 (.inl (Nat.le_refl _)), ((m12.trans_no m13).trans_no m14).trans m15⟩, by simp only; omega⟩
end

/-- The general sort. -/
theorem pdq_ok (e : TypeId) (d : Option Addr) (l c : Nat) (hl : l < 4611686018427387904) : ∀ (n a b : Nat) (lim : Int) (xs : List ByteArray) (w : World), b - a ≤ n → Els Value.string e w d l c xs → a ≤ b → b ≤ l → Bel xs a b → ∀ R : Value → World → Prop,
    (∀ w' ys, Els Value.string e w' d l c ys → Seg a b xs ys → Srt ys a b → Mod (rowB d) w w' → R (.tuple #[]) w') →
    Ca Tryz.prog 122 #[.slice d l c, .int .i64 a, .int .i64 b, .int .i64 lim] w R := by
  intro n
  induction n using Nat.strongRecOn with
  | _ n ih =>
  intro a b lim xs w hn hd hab hb hbel R h
  refine ca122 d l c a b lim w R ?_
  refine ⟨fun x y _ _ _ w' => ∃ (a' b' : Nat) (ys : List ByteArray), x = a' ∧ y = b' ∧ a ≤ a' ∧ a' ≤ b' ∧ b' ≤ b ∧ Els Value.string e w' d l c ys ∧ Seg a b xs ys ∧ Alm ys a b a' b' ∧ Bel ys a' b' ∧ Mod (rowB d) w w', fun x y _ _ _ _ => (y - x).toNat,
    ⟨a, b, xs, rfl, rfl, Nat.le_refl _, hab, Nat.le_refl _, hd, Seg.refl _ _ _, Alm.start _ _ _, hbel, Mod.refl _ _⟩, ?_⟩
  rintro _ _ _ lim' b6 b7 w1 ⟨a', b', ys, rfl, rfl, ha, hab', hb', h1, s1, alm1, bel1, m1⟩
  have sorted : ∀ w' zs, Els Value.string e w' d l c zs → Seg a' b' ys zs → Srt zs a' b' → Mod (rowB d) w1 w' → R (.tuple #[]) w' := fun w' zs hz sz srt mz =>
    h w' zs hz (s1.trans (sz.mono ha hb')) ((alm1.seg sz ha hb' (h1.le hb)).full srt) (m1.trans mz)
  rw [wD (i := b') (j := a') (by omega) hab']
  refine ifK_dec (fun _ => ?_) (fun hlen => ?_)
  · exact insertion_ok e d l c a' b' ys w1 h1 hab' (by omega) hl _ fun w2 zs h2 s2 srt2 m2 => ⟨rfl, sorted w2 zs h2 s2 srt2 m2⟩
  have hlen : a' + 12 < b' := by omega
  refine ifK_of (fun _ => ?_) (fun _ => ?_)
  · exact heapSort_ok e d l c ys w1 h1 hl a' b' (by omega) (by omega) _ fun w2 zs h2 s2 srt2 m2 => ⟨rfl, sorted w2 zs h2 s2 srt2 m2⟩
  -- a part of another order is as good
  refine ⟨fun _ w' => ∃ zs, Els Value.string e w' d l c zs ∧ Seg a' b' ys zs ∧ Mod (rowB d) w1 w', ?_, ?_⟩
  · refine ifK_of (fun _ => ?_) (fun _ => ⟨ys, h1, Seg.refl _ _ _, Mod.refl _ _⟩)
    exact breakP_ok e d l c ys w1 h1 hl a' b' (by omega) (by omega) _ fun w2 zs h2 s2 m2 => ⟨rfl, zs, h2, s2, m2⟩
  rintro _ lim2 w2 ⟨zs, h2, s2, m2⟩
  refine choosePivot_ok e d l c zs w2 h2 hl a' b' (by omega) (by omega) _ fun w3 p hint hp1 hp2 m3 => ⟨_, _, rfl, ?_⟩
  refine ⟨fun x _ w' => ∃ (p : Nat) (us : List ByteArray), x = p ∧ a' ≤ p ∧ p < b' ∧ Els Value.string e w' d l c us ∧ Seg a' b' ys us ∧ Mod (rowB d) w1 w', ?_, ?_⟩
  · refine ifK_of (fun _ => ?_) (fun _ => ⟨p, zs, rfl, hp1, hp2, h2.no m3, s2, m2.trans_no m3⟩)
    refine reverse_ok e d l c zs w3 (h2.no m3) hl a' b' (by omega) (by omega) _ fun w4 us h4 s4 m4 => ⟨rfl, b' - 1 - (p - a'), us, ?_, by omega, by omega, h4, s2.trans s4, (m2.trans_no m3).trans m4⟩
    rw [wP (i := b') (by omega) (by omega), wD (i := p) (j := a') (by omega) hp1, wD (by omega) (by omega)]
  rintro _ _ hint2 w5 ⟨p, us, rfl, hp1, hp2, h5, s5, m5⟩
  refine ⟨fun w' => ∃ vs, Els Value.string e w' d l c vs ∧ Seg a' b' ys vs ∧ Mod (rowB d) w1 w', ?_, ?_⟩
  · refine ifK_of (fun _ => ifK_of (fun _ => ifK_of (fun _ => ?_) (fun _ => ⟨us, h5, s5, m5⟩)) (fun _ => ⟨us, h5, s5, m5⟩)) (fun _ => ⟨us, h5, s5, m5⟩)
    refine partial_ok e d l c us w5 h5 hl a' b' (by omega) (by omega) (bel1.seg s5 (h1.le (by omega))) _ fun w6 vs q h6 s6 srt6 m6 => ⟨q, rfl, ?_⟩
    exact ifK_of (fun hq => sorted w6 vs h6 (s5.trans s6) (srt6 hq) (m5.trans m6)) (fun _ => ⟨vs, h6, s5.trans s6, m5.trans m6⟩)
  rintro _ w7 ⟨vs, h7, s7, m7⟩
  have s7' : Seg a b xs vs := s1.trans (s7.mono ha hb')
  have m7' := m1.trans m7
  have alm7 := alm1.seg s7 ha hb' (h1.le hb)
  have bel7 := bel1.seg s7 (h1.le (by omega))
  -- parted into less and more
  refine ⟨fun x w' => x = (a' : Int) ∧ Els Value.string e w' d l c vs ∧ Mod (rowB d) w w', ?_, ?_⟩
  · intro w8 e8
    have m8 : Mod no w7 w8 := by subst e8; exact Mod.drew _
    clear e8
    refine ifK_dec (fun ha0 => ?_) (fun _ => ⟨rfl, h7.no m8, m7'.trans_no m8⟩)
    have ha0 : 0 < a' := by omega
    rw [wP (i := a') (by omega) ha0]
    refine nls (h7.no m8) (a' - 1) p rfl rfl (by omega) (by omega) (fun hge => ?_) (fun _ => ⟨rfl, h7.no m8, m7'.trans_no m8⟩)
    have hmin : ∀ k, a' ≤ k → k < b' → at0 vs p ≤ at0 vs k := fun k h8 h9 => Lin.tr (Lin.nlt hge) (bel7 ha0 k h8 h9)
    refine partEq_ok e d l c vs w8 (h7.no m8) hl a' b' p hp1 hp2 (by omega) hmin _ fun w9 ts m h9 s9 eq9 m9 => ⟨_, rfl, ?_⟩
    have hm1 := eq9.am
    have hm2 := eq9.mb
    exact ⟨⟨m, b', ts, rfl, rfl, by omega, hm2, hb', h9, s7'.trans (s9.mono ha hb'), (alm7.seg s9 ha hb' (h7.le hb)).eqd eq9, eq9.bel, (m7'.trans_no m8).trans m9⟩, by simp only; omega⟩
  rintro _ _ w10 ⟨rfl, h10, m10⟩
  refine partition_ok e d l c vs w10 h10 hl a' b' p hp1 hp2 (by omega) _ fun w11 ts m q h11 s11 pt11 m11 => ⟨_, _, rfl, by decide, ?_⟩
  have hm1 := pt11.am
  have hm2 := pt11.mb
  have s11' : Seg a b xs ts := s7'.trans (s11.mono ha hb')
  have alm11 := alm7.seg s11 ha hb' (h7.le hb)
  have bel11 := bel7.seg s11 (h7.le (by omega))
  have m11' := m10.trans m11
  rw [wS (i := m) (by omega)]
  refine ifK_of (fun _ => ?_) (fun _ => ?_)
  · refine ih (m - a') (by omega) a' m lim2 ts w11 (Nat.le_refl _) h11 hm1 (by omega) (bel11.mono (by omega)) _ fun w12 rs h12 s12 srt12 m12 => ⟨rfl, ?_⟩
    have pt12 := pt11.left (h11.le (by omega)) s12
    exact ⟨⟨m + 1, b', rs, rfl, rfl, by omega, by omega, hb', h12, s11'.trans (s12.mono (by omega) (by omega)), (alm11.seg (s12.mono (Nat.le_refl _) (by omega)) ha hb' (h11.le hb)).left pt12 srt12, pt12.bel, m11'.trans m12⟩, by simp only; omega⟩
  · refine ih (b' - (m + 1)) (by omega) (m + 1) b' lim2 ts w11 (Nat.le_refl _) h11 (by omega) (by omega) pt11.bel _ fun w12 rs h12 s12 srt12 m12 => ⟨rfl, ?_⟩
    have pt12 := pt11.right (h11.le (by omega)) s12
    exact ⟨⟨a', m, rs, rfl, rfl, ha, hm1, by omega, h12, s11'.trans (s12.mono (by omega) (by omega)), (alm11.seg (s12.mono (by omega) (Nat.le_refl _)) ha hb' (h11.le hb)).right pt12 srt12,
      (bel11.seg (s12.mono (by omega) (Nat.le_refl _)) (h11.le (by omega))).mono (by omega), m11'.trans m12⟩, by simp only; omega⟩

theorem sort_ok (e : TypeId) (d : Option Addr) (l c : Nat) (xs : List ByteArray) (w : World) (hd : Els Value.string e w d l c xs) (hl : l < 4611686018427387904) (R : Value → World → Prop)
    (h : ∀ w' ys, Els Value.string e w' d l c ys → ys.Perm xs → Srt ys 0 l → Mod (rowB d) w w' → R (.tuple #[]) w') :
    Ca Tryz.prog 98 #[.slice d l c] w R := by
  refine ca98 d l c w R ?_
  refine bitsLen_ok _ w _ fun n _ => ⟨n, rfl, ?_⟩
  exact pdq_ok e d l c hl l 0 l n xs w (Nat.le_refl _) hd (Nat.zero_le _) (Nat.le_refl _) (fun h => absurd h (by omega)) _ fun w' ys h1 h2 h3 h4 => ⟨rfl, h w' ys h1 h2.perm h3 h4⟩
end Go.Proofs.YtgjdandnncjegaaGreatDoor.Sortstring

/- The library's Keys of a directory, Collect, Sorted. -/
namespace Go.Proofs.YtgjdandnncjegaaGreatDoor
open Go Go.Proofs.YtgjdandnncjegaaGreatDoor Go.Proofs.YtgjdandnncjegaaGreatDoor.St

abbrev Strs (w : World) (a : Option Addr) (l c : Nat) (xs : List ByteArray) : Prop := Els Value.string 9 w a l c xs

theorem keys_seq (B : Nat) (w0 : World) (bx m : Nat) (t : TypeId) (D : List (ByteArray × Nat)) (hbx : w0.heap[bx]? = some (.cells #[.map (some m)] t (0, 0))) (hB : bx < B) (hm : MapAt w0 m (kvL Value.string (dirL D))) (hmB : m < B) (N : Nat) (hN : D.length ≤ N) :
    SeqOf Tryz.prog (.func (.func 99) #[] #[.pointer (some ⟨bx, 0, none⟩)]) B w0 N (fun v => ∃ k, v = .string k) (fun xs => xs.Perm (D.map fun p => .string p.1)) := by
  refine ⟨⟨_, _, _, rfl⟩, ?_⟩
  intro J y w R hk hst hJ hy hend
  refine (ca99 y (some ⟨bx, 0, none⟩) w R ?_ : Ca _ _ _ _ _)
  obtain ⟨es, clock, hes, hkv, hn, hc⟩ := hm
  have hes' := hk.old m _ hes (.inl hmB)
  refine ⟨some m, by rw [cl (hk.old bx _ hbx (.inl hB))]; rfl, es, clock, hes', ?_⟩
  intro w3 e3
  have m3 : Mod no w w3 := by subst e3; exact Mod.alloc _ _
  have b3 : w3.heap[w.heap.size]? = some (.mapIter (some m) clock #[] clock) := by subst e3; exact new_at _ _
  clear e3
  have hlen : D.length = es.toList.length := by
    have := congrArg List.length hkv
    simpa [kvL, dirL] using this.symm
  have hkeys : es.toList.map (·.key) = D.map fun p => .string p.1 := by
    have := congrArg (List.map Prod.fst) hkv
    simpa [kvL, dirL, Function.comp_def] using this
  have hkey : ∀ e ∈ es.toList, ∃ k, e.key = .string k := by
    intro e he
    have : e.key ∈ D.map fun p => Value.string p.1 := by rw [← hkeys]; exact List.mem_map_of_mem he
    obtain ⟨p, _, hp⟩ := List.mem_map.1 this
    exact ⟨p.1, hp.symm⟩
  refine ⟨fun w' => ∃ (seen : Array Nat) (c0 : Nat) (got : List MapEntry), w'.heap[w.heap.size]? = some (.mapIter (some m) clock seen c0) ∧ clock ≤ c0 ∧ (got ++ (leftOf es seen).toList).Perm es.toList ∧ J (got.map (·.key)) w' ∧ Kp B w0 w',
    fun w' => match w'.heap[w.heap.size]? with | some (.mapIter _ _ seen _) => (leftOf es seen).size | _ => 0, ⟨#[], clock, [], b3, Nat.le_refl _, by simp only [leftOf, Array.toList_filter, List.nil_append]; exact .of_eq (List.filter_eq_self.2 (by simp)), hst.1 _ _ _ hJ m3, hk.trans (Kp.of_no m3)⟩, ?_⟩
  rintro _ w7 ⟨seen, c0, got, hit, hcc, hperm, hJ7, hk7⟩
  have hm7 := hk7.old m _ hes (.inl hmB)
  rcases next_at (P := Tryz.prog) (ty := 0) hit hm7 hc hcc with ⟨h0, hrun⟩ | ⟨e, he, w8, hrun, m8, hit8⟩
  · refine ⟨_, w7, hrun, .inl ⟨rfl, hend w7 _ ?_ hJ7 hk7⟩⟩
    have : (leftOf es seen).toList = [] := List.eq_nil_of_length_eq_zero (by simpa using h0)
    rw [this, List.append_nil] at hperm
    rw [← hkeys]
    exact hperm.map _
  · refine ⟨_, w8, hrun, .inr ⟨_, _, rfl, ?_⟩⟩
    have hmem := (mem_left he).1
    have hk8 : Kp B w0 w8 := by
      refine ⟨m8.os.trans hk7.os, m8.tape.trans hk7.tape, m8.output.trans hk7.output, Nat.le_trans hk7.size m8.size, fun k o ho hko => m8.at (hk7.old k o ho hko) fun hS => ?_⟩
      cases hS
      have := lt_of_heap ho
      have := hk.size
      omega
    have hm8 := hk8.old m _ hes (.inl hmB)
    refine ⟨e.key, e.val, entry_at hit8 hm8 hmem hn, ?_⟩
    obtain ⟨k, hkk⟩ := hkey e hmem
    rw [hkk]
    have hJ8 := hst.2 _ _ _ _ _ hJ7 hit rfl m8
    have hll : got.length < D.length := by
      have h1 := hperm.length_eq
      have h2 : 0 < (leftOf es seen).toList.length := List.length_pos_of_mem he
      rw [List.length_append] at h1
      omega
    refine hy _ (.string k) w8 hk8 hJ8 (by simpa using (by omega : got.length < N)) ⟨k, rfl⟩ _ fun w15 hk15 hJ15 => ⟨true, rfl, ?_⟩
    have hit15 := hk15.old _ _ hit8 (.inr rfl)
    refine ⟨⟨seen.push e.born, clock, got ++ [e], hit15, Nat.le_refl _, ?_, by rw [List.map_append]; simpa [hkk] using hJ15, hk8.trans hk15⟩, ?_⟩
    · rw [List.append_assoc]
      exact ((List.Perm.append_left got (left_perm hn he)).symm).trans hperm
    · simp only [hit15, hit]
      exact left_shrinks es seen e he

/-- Sorted(Keys(m)): a new row of the directory's names, rising. -/
theorem sortedKeys_ok (m : Nat) (D : List (ByteArray × Nat)) (w : World) (hm : MapAt w m (kvL Value.string (dirL D))) (hs : D.length < 1099511627776) :
    Ca Tryz.prog 88 #[.map (some m)] w (fun sv w1 => Mod no w w1 ∧ ∀ R : Value → World → Prop,
      (∀ w' a l c ys, Strs w' a l c ys → ys.Perm (D.map (·.1)) → Srt ys 0 l → Mod no w1 w' → (∀ k, rowB a k → w1.heap.size ≤ k) → R (.slice a l c) w') → Ca Tryz.prog 87 #[sv] w1 R) := by
  refine ca88 (some m) w _ ?_
  intro w1 e1
  have m1 : Mod no w w1 := by subst e1; exact Mod.alloc _ _
  have b1 : w1.heap[w.heap.size]? = some (.cells #[.map (some m)] 62 (0, 0)) := by subst e1; exact new_at _ _
  have s1 : w1.heap.size = w.heap.size + 1 := by subst e1; simp
  clear e1
  have hm1 := hm.mod m1 id
  have hmlt := hm.lt
  refine ⟨m1, fun R h => ?_⟩
  refine ca87 _ w1 R ?_
  refine ca97 _ w1 _ ?_
  refine Seqstring.appendSeq_ok _ D.length _ w1 (by omega) (keys_seq w1.heap.size w1 w.heap.size m 62 D b1 (by omega) hm1 (by omega) D.length (Nat.le_refl _)) _ ?_
  intro w2 a l c xs hperm ho m2 hnew
  refine ⟨a, l, c, rfl, a, l, c, rfl, ?_⟩
  obtain ⟨ys, hys, hyp⟩ : ∃ ys : List ByteArray, xs = ys.map .string ∧ ys.Perm (D.map (·.1)) := by
    have : ∀ (xs : List Value) (ts : List ByteArray), xs.Perm (ts.map Value.string) → ∃ ys : List ByteArray, xs = ys.map .string ∧ ys.Perm ts := by
      intro xs ts hp
      have hall : ∀ v ∈ xs, ∃ k, v = .string k := fun v hv => by
        obtain ⟨k, _, e⟩ := List.mem_map.1 (hp.mem_iff.1 hv)
        exact ⟨k, e.symm⟩
      let g : Value → ByteArray := fun v => match v with | .string n => n | _ => ByteArray.mk #[]
      refine ⟨xs.map g, ?_, ?_⟩
      · rw [List.map_map]
        conv => lhs; rw [← List.map_id xs]
        apply List.map_congr_left
        intro v hv
        obtain ⟨k, rfl⟩ := hall v hv
        rfl
      · have := hp.map g
        rw [List.map_map] at this
        simpa [g, Function.comp_def] using this
    refine this xs (D.map (·.1)) ?_
    rw [List.map_map]
    exact hperm
  subst hys
  have hl : l = D.length := by
    have h1 := (row_len ho).2.1
    have h2 := hyp.length_eq
    rw [List.length_map] at h1 h2
    omega
  refine Sortstring.sort_ok 9 a l c ys w2 ho (by omega) _ fun w3 zs hz hzp hsrt m3 => ⟨rfl, ?_⟩
  refine h w3 a l c zs hz (hzp.trans hyp) hsrt ?_ fun k hk => by have := hnew k hk; omega
  exact m2.new m3 fun k hk => by have := hnew k hk; omega

/-- The names that rise are these ones. -/
theorem sorted_unique {ys : List ByteArray} {D : List (ByteArray × Nat)} (hp : ys.Perm (D.map (·.1))) (hs : Srt ys 0 ys.length) (hr : Rises D) : ys = D.map (·.1) := by
  have hle : ∀ {xs : List ByteArray}, Srt xs 0 xs.length → xs.Pairwise (· ≤ ·) := by
    intro xs h
    rw [List.pairwise_iff_getElem]
    intro i j hi hj hij
    have := h i j (Nat.zero_le _) hij hj
    simpa [at0, hi, hj] using this
  have h1 := hle hs
  have h2 : (D.map (·.1)).Pairwise (· ≤ ·) := List.Pairwise.imp (fun h => Lin.lle h) hr
  refine List.Perm.eq_of_pairwise (le := fun a b => a ≤ b) ?_ h1 h2 hp
  intro a b _ _ hab hba
  exact str_tri hba hab
end Go.Proofs.YtgjdandnncjegaaGreatDoor

/- Contracts of the store's calls. -/
namespace Go.Proofs.YtgjdandnncjegaaGreatDoor
open Go Go.Proofs.YtgjdandnncjegaaGreatDoor.St

theorem ifNe {x y : Int} {A B : Prop} (h1 : x ≠ y → A) (h2 : x = y → B) : ifK (x != y) A B := ifK_of (fun h => h1 (by simpa using h)) (fun h => h2 (by simpa using h))

section
variable {w : World} {s : Nat} {F : Nat → Prop} {a : AS}

theorem new_ok (room : Int) (w : World) (R : Value → World → Prop) (h1 : (room < 0 ∨ 1073741824 < room) → R (.pointer none) w)
    (h2 : 0 ≤ room → room ≤ 1073741824 → ∀ w' s, Stt w' s (fun k => w.heap.size ≤ k) (AS.new room) → Mod no w w' → R (.pointer (some ⟨s, 0, none⟩)) w') : Ca Tryz.prog 8 #[.int .i64 room] w R := by
  refine ca8 room w R ?_
  refine ifK_dec (fun h => h1 (.inl h)) (fun hl => ifK_dec (fun h => h1 (.inr h)) (fun hr => ?_))
  intro w0 e0
  have m0 : Mod no w w0 := by subst e0; exact Mod.alloc _ _
  have n0 : MapAt w0 w.heap.size [] := by subst e0; exact MapAt.new w
  clear e0
  intro w1 e1
  have m1 : Mod no w0 w1 := by subst e1; exact Mod.alloc _ _
  have n1 : MapAt w1 w0.heap.size [] := by subst e1; exact MapAt.new w0
  clear e1
  intro w2 e2
  have m2 : Mod no w1 w2 := by subst e2; exact Mod.alloc _ _
  have c2 : w2.heap[w1.heap.size]? = some (.cells #[.int .i64 room, .map (some w.heap.size), .map (some w0.heap.size), .bool false, .int .i64 0, .int .i64 0, .int .i64 0] 64 (0, 0)) := by subst e2; exact new_at _ _
  clear e2
  have l0 := n0.lt
  have l1 := n1.lt
  have z0 := m0.size
  have z1 := m1.size
  have hnl : ∀ i, ¬ (AS.new room).Live i := by
    rintro i (⟨n, hn⟩ | ⟨n, hn⟩) <;> simp [AS.new] at hn
  exact h2 (by omega) (by omega) w2 _ ⟨w.heap.size, w0.heap.size, [], [], fun i => i, ⟨c2, (n0.mod m1 id).mod m2 id, n1.mod m2 id⟩, .refl _, .refl _, fun i hi => absurd hi (hnl i), fun i j hi => absurd hi (hnl i), by omega, AS.Ok.new (by omega) (by omega), (by omega : w.heap.size ≤ w1.heap.size), Nat.le_refl _, z0, fun i hi => absurd hi (hnl i)⟩ ((m0.trans m1).trans m2)

theorem power2_ok (h : Stt w s F a) (R : Value → World → Prop) (hR : R (.int .i64 (if a.dark then 9 else 0)) w) : Ca Tryz.prog 62 #[.pointer (some ⟨s, 0, none⟩)] w R :=
  let ⟨_, _, _, _, _, h⟩ := h
  power_ok s _ w h.st R hR
theorem on2_ok (h : Stt w s F a) (R : Value → World → Prop) (hR : R (.bool (!a.dark)) w) : Ca Tryz.prog 25 #[.pointer (some ⟨s, 0, none⟩)] w R :=
  let ⟨_, _, _, _, _, h⟩ := h
  on_ok s _ w h.st R hR
theorem fail2_ok (h : Stt w s F a) (keep : Int) (R : Value → World → Prop) (hR : ∀ w', StP s F w (a.fail keep) w' → R (.tuple #[]) w') : Ca Tryz.prog 26 #[.pointer (some ⟨s, 0, none⟩), .int .i64 keep] w R :=
  let ⟨_, _, _, _, _, h⟩ := h
  fail_ok h keep R hR

theorem power3_ok (h : Stt w s F a) (R : Value → World → Prop) (hR : ∀ w', StP s F w a.power w' → R (.tuple #[]) w') : Ca Tryz.prog 27 #[.pointer (some ⟨s, 0, none⟩)] w R := by
  obtain ⟨nb, sb, N, S, φ, h⟩ := h
  have hc := h.st.cell
  refine ca27 _ w R ?_
  refine (ifK_of (fun _ => ?_) (fun h => by cases h) : ifK true _ _)
  obtain ⟨q1, q2, q3, q4⟩ := setFile hc 3 (by simp) (.bool false)
  refine ⟨some nb, by rw [cl1 hc]; rfl, (ifK_of (fun _ => ?_) (fun h => by cases h) : ifK true _ _)⟩
  refine ⟨q1, q2, fun w4 e4 => ?_⟩
  rw [← e4] at q3 q4
  clear e4
  obtain ⟨r1, r2, r3, r4⟩ := setFile q4 5 (by simp) (.int .i64 0)
  refine ⟨r1, r2, fun w7 e7 => hR w7 ?_⟩
  rw [← e7] at r3 r4
  have m := q3.trans r3
  exact ⟨F, ⟨_, _, _, _, _, h.scal m a.power rfl rfl rfl rfl r4⟩, fun _ hk => .inl hk, m.mono fun k _ hk => by cases hk; exact h.fs⟩
theorem plan_ok (h : Stt w s F a) (n keep : Int) (R : Value → World → Prop) (hR : ∀ w', StP s F w (a.plan n keep).1 w' → R (.int .i64 (a.plan n keep).2) w') : Ca Tryz.prog 24 #[.pointer (some ⟨s, 0, none⟩), .int .i64 n, .int .i64 keep] w R := by
  have h0 := h
  obtain ⟨nb, sb, N, S, φ, h⟩ := h
  refine ca24 _ n keep w R ?_
  refine power2_ok h0 _ ⟨_, rfl, ?_⟩
  cases hd : a.dark with
  | true =>
    have hp : a.plan n keep = (a, 9) := by rw [AS.plan, if_pos hd]
    rw [hp] at hR
    exact (ifK_of (fun _ => hR w (StP.refl h0)) (fun h => by cases h) : ifK true _ _)
  | false =>
    refine (ifK_of (fun h => by cases h) (fun _ => ?_) : ifK false _ _)
    refine ifK_dec (fun hn => ?_) (fun hn => ?_)
    · have hp : a.plan n keep = (a, 2) := by rw [AS.plan, if_neg (by rw [hd]; simp), if_pos hn]
      rw [hp] at hR
      exact hR w (StP.refl h0)
    · have hp : a.plan n keep = ({ a with left := n, keep := keep }, 0) := by rw [AS.plan, if_neg (by rw [hd]; simp), if_neg hn]
      rw [hp] at hR
      have hc := h.st.cell
      obtain ⟨q1, q2, q3, q4⟩ := setFile hc 5 (by simp) (.int .i64 n)
      refine ⟨q1, q2, fun w4 e4 => ?_⟩
      rw [← e4] at q3 q4
      clear e4
      obtain ⟨r1, r2, r3, r4⟩ := setFile q4 6 (by simp) (.int .i64 keep)
      refine ⟨r1, r2, fun w7 e7 => hR w7 ?_⟩
      rw [← e7] at r3 r4
      have m := q3.trans r3
      exact ⟨F, ⟨_, _, _, _, _, h.scal m { a with left := n, keep := keep } rfl rfl rfl rfl r4⟩, fun _ hk => .inl hk, m.mono fun k _ hk => by cases hk; exact h.fs⟩

theorem names_ok (h : Stt w s F a) (R : Value → World → Prop) (hR : ∀ w' p l c, Strs w' p l c a.names → Mod no w w' → (∀ k, rowB p k → w.heap.size ≤ k) → R (.slice p l c) w') : Ca Tryz.prog 68 #[.pointer (some ⟨s, 0, none⟩)] w R := by
  have h0 := h
  obtain ⟨nb, sb, N, S, φ, h⟩ := h
  refine ca68 _ w R ?_
  refine on2_ok h0 _ ⟨_, rfl, ?_⟩
  cases hd : a.dark with
  | true =>
    have hp : a.names = [] := by rw [AS.names, if_pos hd]
    rw [hp] at hR
    exact (ifK_of (fun _ => hR w none 0 0 (Els.nil _ _) (Mod.refl _ _) (fun k hk => by simp [rowB] at hk)) (fun h => by cases h) : ifK true _ _)
  | false =>
    have hp : a.names = a.dir.map (·.1) := by rw [AS.names, if_neg (by rw [hd]; simp)]
    rw [hp] at hR
    refine (ifK_of (fun h => by cases h) (fun _ => ?_) : ifK false _ _)
    refine ⟨some nb, by rw [cl1 h.st.cell]; rfl, ?_⟩
    have hlen := h.len
    have hN := h.ok.dirN
    refine (sortedKeys_ok nb N w h.st.now (by omega)).mono fun v w1 ⟨m1, hk⟩ => ⟨_, rfl, ?_⟩
    refine hk _ fun w2 p l c ys hy hperm hsrt m2 hnew => ⟨p, l, c, rfl, ?_⟩
    have hnm : (N.map (·.1)).Perm (a.dir.map (·.1)) := by
      have := h.now.map (·.1)
      rwa [List.map_map] at this
    have hl := hy.len.1
    have he : ys = a.dir.map (·.1) := sorted_unique (hperm.trans hnm) (by rw [hl]; exact hsrt) h.ok.dirS
    subst he
    exact hR w2 p l c hy (m1.trans m2) fun k hk => Nat.le_trans m1.size (hnew k hk)

theorem read_ok (h : Stt w s F a) (name : ByteArray) (hn : name.size < 4611686018427387904) (R : Value → World → Prop)
    (hR : ∀ w' p l c, Els u8v 5 w' p l c (a.read name).1 → Mod no w w' → (∀ k, rowB p k → w.heap.size ≤ k) → R (.tuple #[.slice p l c, .int .i64 (a.read name).2]) w') : Ca Tryz.prog 15 #[.pointer (some ⟨s, 0, none⟩), .string name] w R := by
  obtain ⟨nb, sb, N, S, φ, h⟩ := h
  refine ca15 _ name w R ?_
  refine known2_ok h name hn _ (fun f hd hg hf w1 m1 => ?_) (fun hk w1 m1 => ?_)
  · refine ⟨_, _, rfl, (ifK_of (fun h => by cases h) (fun _ => ?_) : ifK false _ _)⟩
    obtain ⟨hk, hi⟩ := AS.known_of hd hg hf
    have hr : a.read name = ((a.file f).1, 0) := by rw [AS.read, if_pos hk, hi]
    rw [hr] at hR
    have h1 := h.no m1
    obtain ⟨pa, ca, pb, cb, hfc, ha, _⟩ := h1.file f (.inl ⟨name, dget_some hf⟩)
    have hfl := h.ok.flen f
    refine ⟨pa, _, ca, by rw [cl1 hfc]; rfl, ?_⟩
    exact clone8_ok (Rd.of_els ha) (by omega) _ fun w2 p c r2 m2 n2 => ⟨p, _, c, rfl, hR w2 p _ c r2 (m1.trans m2) fun k hk => Nat.le_trans m1.size (n2 k hk)⟩
  · refine ⟨_, _, rfl, ifNe (fun _ => ?_) (fun h => absurd h hk)⟩
    have hr : a.read name = ([], a.known name) := by rw [AS.read, if_neg hk]
    rw [hr] at hR
    exact hR w1 none 0 0 (Els.nil _ _) m1 fun k hk => by simp [rowB] at hk

theorem make_ok (h : Stt w s F a) (name : ByteArray) (hn : name.size < 4611686018427387904) (R : Value → World → Prop) (hR : ∀ w', StP s F w (a.make name).1 w' → R (.int .i64 (a.make name).2) w') :
    Ca Tryz.prog 36 #[.pointer (some ⟨s, 0, none⟩), .string name] w R := by
  have h0 := h
  obtain ⟨nb, sb, N, S, φ, h⟩ := h
  refine ca36 _ name w R ?_
  intro w0 e0
  have m0 : Mod no w w0 := by subst e0; exact Mod.alloc _ _
  have c0 : w0.heap[w.heap.size]? = some (.cells #[.pointer (some ⟨s, 0, none⟩)] 24 (0, 0)) := by subst e0; exact new_at _ _
  clear e0
  intro w1 e1
  have m1 : Mod no w0 w1 := by subst e1; exact Mod.alloc _ _
  have c1 : w1.heap[w0.heap.size]? = some (.cells #[.string name] 9 (0, 0)) := by subst e1; exact new_at _ _
  clear e1
  have c01 := m1.at' c0
  have m01 := m0.trans m1
  refine ⟨_, by rw [cl c01]; rfl, name, by rw [cl c1]; rfl, ?_⟩
  refine known2_ok (h.no m01) name hn _ (fun f hd hg hf w2 m2 => ?_) (fun hk w2 m2 => ?_)
  · refine ⟨_, _, rfl, (ifK_of (fun _ => ?_) (fun h => by cases h) : ifK true _ _)⟩
    obtain ⟨hk, hi⟩ := AS.known_of hd hg hf
    have hr : a.make name = (a, 4) := by rw [AS.make, if_pos hk]
    rw [hr] at hR
    exact hR w2 (StP.of_no h0 (m01.trans m2))
  · refine ⟨_, _, rfl, ifK_eq (fun h => absurd h hk) (fun _ => ?_)⟩
    refine ifNe (fun hne => ?_) (fun he => ?_)
    · have hr : a.make name = (a, a.known name) := by rw [AS.make, if_neg hk, if_neg hne]
      rw [hr] at hR
      exact hR w2 (StP.of_no h0 (m01.trans m2))
    · refine ⟨_, by rw [cl (m2.at' c01)]; rfl, ?_⟩
      have hgood : a.dark = false ∧ goodB name = true := by
        unfold AS.known at he
        split at he
        · cases he
        · split at he
          · cases he
          · rename_i h1 h2
            exact ⟨by simpa using h1, by simpa using h2⟩
      refine free2_ok ((h.no m01).no m2) _ fun w3 m3 => ⟨_, rfl, ifK_dec (fun hr => ?_) (fun hr => ?_)⟩
      · have hr' : a.make name = (a, 6) := by rw [AS.make, if_neg hk, if_pos he, if_pos hr]
        rw [hr'] at hR
        exact hR w3 (StP.of_no h0 ((m01.trans m2).trans m3))
      · have hr' : a.make name = a.counted fun a => { a with all := a.all ++ [([], [])], dir := dset name a.all.length a.dir } := by rw [AS.make, if_neg hk, if_pos he, if_neg hr]
        rw [hr'] at hR
        refine ⟨_, by rw [cl (m3.at' (m2.at' c01))]; rfl, ?_⟩
        have h3 := ((h.no m01).no m2).no m3
        refine counted_ok h3 _ _ (make1_does h3 (m3.at' (m2.at' c01)) (m3.at' (m2.at' c1)) hgood.2 hr) _ fun w4 hp => ⟨_, rfl, hR w4 (hp.pre ((m01.trans m2).trans m3))⟩

/-- A pointer that is put into a box of its own. -/
theorem boxF (p : Option Addr) (w2 : World) (K : World → Prop) (hK : ∀ w7, w7.heap[w2.heap.size]? = some (.cells #[.pointer p] 78 (0, 0)) → Mod no w2 w7 → K w7) :
    atW (w2.alloc (.cells #[.pointer none] 78)) fun w5 => (∃ v6 : Value, w5.cell? (Addr.add ⟨w2.heap.size, 0, none⟩ 0) = some v6) ∧ w5.frozen? (Addr.add ⟨w2.heap.size, 0, none⟩ 0) = false ∧ atW (w5.setCell (Addr.add ⟨w2.heap.size, 0, none⟩ 0) (.pointer p)) fun w7 => K w7 := by
  intro w5 e5
  have m5 : Mod no w2 w5 := by subst e5; exact Mod.alloc _ _
  have b5 : w5.heap[w2.heap.size]? = some (.cells #[.pointer none] 78 (0, 0)) := by subst e5; exact new_at _ _
  clear e5
  refine ⟨⟨_, by rw [cl1 b5]; rfl⟩, fz1 b5 _, fun w7 e7 => ?_⟩
  have m7 : Mod (on w2.heap.size) w5 w7 := by subst e7; exact Mod.set1 _ _ _ _
  have b7 : w7.heap[w2.heap.size]? = some (.cells #[.pointer p] 78 (0, 0)) := by subst e7; rw [set1 b5]; rfl
  exact hK w7 b7 (m5.new m7 fun k hk => by cases hk; exact Nat.le_refl _)

theorem write_ok (h : Stt w s F a) (name : ByteArray) (hn : name.size < 4611686018427387904) {ba : Option Addr} {bl bc : Nat} {bs : Bs} (hb : Rd w ba bl bc bs) (hbF : 0 < bl → ∀ k, rowB ba k → ¬ F k) (R : Value → World → Prop)
    (hR : ∀ w', StP s F w (a.write name bs).1 w' → R (.int .i64 (a.write name bs).2) w') : Ca Tryz.prog 44 #[.pointer (some ⟨s, 0, none⟩), .string name, .slice ba bl bc] w R := by
  have h0 := h
  obtain ⟨nb, sb, N, S, φ, h⟩ := h
  have hbl := hb.len
  refine ca44 _ name ba bl bc w R ?_
  intro w0 e0
  have m0 : Mod no w w0 := by subst e0; exact Mod.alloc _ _
  have c0 : w0.heap[w.heap.size]? = some (.cells #[.slice ba bl bc] 27 (0, 0)) := by subst e0; exact new_at _ _
  clear e0
  refine known2_ok (h.no m0) name hn _ (fun f hd hg hf w2 m2 => ⟨_, _, rfl, boxF _ w2 _ fun w7 b7 m7 => ?_⟩) (fun hk w2 m2 => ⟨_, _, rfl, boxF _ w2 _ fun w7 b7 m7 => ?_⟩)
  · refine (ifK_of (fun h => by cases h) (fun _ => ?_) : ifK false _ _)
    obtain ⟨hk, hi⟩ := AS.known_of hd hg hf
    intro w8 e8
    have m8 : Mod no w0 w8 := by subst e8; exact (m2.trans m7).trans (Mod.drew _)
    have b8 : w8.heap[w2.heap.size]? = some (.cells #[.pointer (some ⟨φ f, 0, none⟩)] 78 (0, 0)) := by subst e8; exact b7
    clear e8
    refine ⟨ba, bl, bc, by rw [cl (m8.at' c0)]; rfl, ?_⟩
    have h8 := (h.no m0).no m8
    refine free2_ok h8 _ fun w9 m9 => ⟨_, rfl, by rw [cl1 (m9.at' (m8.at' c0))]; rfl, ifK_dec (fun hr => ?_) (fun hr => ?_)⟩
    · have hr' : a.write name bs = (a, 6) := by rw [AS.write, if_pos hk, if_pos (by omega)]
      rw [hr'] at hR
      exact hR w9 (StP.of_no h0 ((m0.trans m8).trans m9))
    · have hr' : a.write name bs = a.counted fun a => a.upd (a.idx name) fun x => (x.1 ++ bs, x.2) := by rw [AS.write, if_pos hk, if_neg (by omega)]
      rw [hr'] at hR
      have h9 := h8.no m9
      refine counted_ok h9 _ _ (write1_does h9 hf (m9.at' b8) (m9.at' (m8.at' c0)) (hb.no ((m0.trans m8).trans m9)) hbF (by omega)) _ fun w10 hp => ⟨_, rfl, hR w10 (hp.pre ((m0.trans m8).trans m9))⟩
  · refine ifNe (fun _ => ?_) (fun h => absurd h hk)
    have hr' : a.write name bs = (a, a.known name) := by rw [AS.write, if_neg hk]
    rw [hr'] at hR
    exact hR w7 (StP.of_no h0 ((m0.trans m2).trans m7))

theorem cut_ok (h : Stt w s F a) (name : ByteArray) (hn : name.size < 4611686018427387904) (n : Int) (R : Value → World → Prop)
    (hR : ∀ w', StP s F w (a.cut name n).1 w' → R (.int .i64 (a.cut name n).2) w') : Ca Tryz.prog 14 #[.pointer (some ⟨s, 0, none⟩), .string name, .int .i64 n] w R := by
  have h0 := h
  obtain ⟨nb, sb, N, S, φ, h⟩ := h
  refine ca14 _ name n w R ?_
  intro w0 e0
  have m0 : Mod no w w0 := by subst e0; exact Mod.alloc _ _
  have c0 : w0.heap[w.heap.size]? = some (.cells #[.int .i64 n] 3 (0, 0)) := by subst e0; exact new_at _ _
  clear e0
  refine known2_ok (h.no m0) name hn _ (fun f hd hg hf w2 m2 => ⟨_, _, rfl, boxF _ w2 _ fun w7 b7 m7 => ?_⟩) (fun hk w2 m2 => ⟨_, _, rfl, boxF _ w2 _ fun w7 b7 m7 => ?_⟩)
  · refine (ifK_of (fun h => by cases h) (fun _ => ?_) : ifK false _ _)
    obtain ⟨hk, hi⟩ := AS.known_of hd hg hf
    intro w8 e8
    have m8 : Mod no w0 w8 := by subst e8; exact (m2.trans m7).trans (Mod.drew _)
    have b8 : w8.heap[w2.heap.size]? = some (.cells #[.pointer (some ⟨φ f, 0, none⟩)] 78 (0, 0)) := by subst e8; exact b7
    clear e8
    have h8 := (h.no m0).no m8
    have m08 := m0.trans m8
    have bad : (n < 0 ∨ n > a.len f) → R (.int .i64 2) w8 := fun hb => by
      have hr' : a.cut name n = (a, 2) := by rw [AS.cut, if_pos hk, hi, if_pos hb]
      rw [hr'] at hR
      exact hR w8 (StP.of_no h0 m08)
    obtain ⟨pa, ca, pb, cb, hfc, _⟩ := h8.file f (.inl ⟨name, dget_some hf⟩)
    refine ⟨n, by rw [cl (m8.at' c0)]; rfl, ifK_dec (fun hr => bad (.inl hr)) (fun hr => ?_)⟩
    refine ⟨n, by rw [cl (m8.at' c0)]; rfl, some ⟨φ f, 0, none⟩, by rw [cl b8]; rfl, pa, _, ca, by rw [cl1 hfc]; rfl, ifK_dec (fun hr => bad (.inr hr)) (fun hr2 => ?_)⟩
    have hno : ¬ (n < 0 ∨ n > a.len f) := fun h => h.elim hr hr2
    have hr' : a.cut name n = a.counted fun a => a.upd (a.idx name) fun x => (x.1.take n.toNat, x.2) := by rw [AS.cut, if_pos hk, hi, if_neg hno]
    rw [hr'] at hR
    refine counted_ok h8 _ _ (cut1_does h8 hf b8 (m8.at' c0) hno) _ fun w10 hp => ⟨_, rfl, hR w10 (hp.pre m08)⟩
  · refine ifNe (fun _ => ?_) (fun h => absurd h hk)
    have hr' : a.cut name n = (a, a.known name) := by rw [AS.cut, if_neg hk]
    rw [hr'] at hR
    exact hR w7 (StP.of_no h0 ((m0.trans m2).trans m7))

theorem sync_ok (h : Stt w s F a) (name : ByteArray) (hn : name.size < 4611686018427387904) (R : Value → World → Prop)
    (hR : ∀ w', StP s F w (a.sync name).1 w' → R (.int .i64 (a.sync name).2) w') : Ca Tryz.prog 34 #[.pointer (some ⟨s, 0, none⟩), .string name] w R := by
  have h0 := h
  obtain ⟨nb, sb, N, S, φ, h⟩ := h
  refine ca34 _ name w R ?_
  refine known2_ok h name hn _ (fun f hd hg hf w2 m2 => ⟨_, _, rfl, boxF _ w2 _ fun w7 b7 m7 => ?_⟩) (fun hk w2 m2 => ⟨_, _, rfl, boxF _ w2 _ fun w7 b7 m7 => ?_⟩)
  · refine (ifK_of (fun h => by cases h) (fun _ => ?_) : ifK false _ _)
    obtain ⟨hk, hi⟩ := AS.known_of hd hg hf
    have h7 := h.no (m2.trans m7)
    have hr' : a.sync name = a.counted fun a => a.upd (a.idx name) fun x => (x.1, x.1) := by rw [AS.sync, if_pos hk]
    rw [hr'] at hR
    refine counted_ok h7 _ _ (sync1_does h7 hf b7) _ fun w10 hp => ⟨_, rfl, hR w10 (hp.pre (m2.trans m7))⟩
  · refine ifNe (fun _ => ?_) (fun h => absurd h hk)
    have hr' : a.sync name = (a, a.known name) := by rw [AS.sync, if_neg hk]
    rw [hr'] at hR
    exact hR w7 (StP.of_no h0 (m2.trans m7))

theorem drop_ok (h : Stt w s F a) (name : ByteArray) (hn : name.size < 4611686018427387904) (R : Value → World → Prop)
    (hR : ∀ w', StP s F w (a.drop name).1 w' → R (.int .i64 (a.drop name).2) w') : Ca Tryz.prog 54 #[.pointer (some ⟨s, 0, none⟩), .string name] w R := by
  have h0 := h
  obtain ⟨nb, sb, N, S, φ, h⟩ := h
  refine ca54 _ name w R ?_
  intro w0 e0
  have m0 : Mod no w w0 := by subst e0; exact Mod.alloc _ _
  have c0 : w0.heap[w.heap.size]? = some (.cells #[.pointer (some ⟨s, 0, none⟩)] 24 (0, 0)) := by subst e0; exact new_at _ _
  clear e0
  intro w1 e1
  have m1 : Mod no w0 w1 := by subst e1; exact Mod.alloc _ _
  have c1 : w1.heap[w0.heap.size]? = some (.cells #[.string name] 9 (0, 0)) := by subst e1; exact new_at _ _
  clear e1
  have c01 := m1.at' c0
  have m01 := m0.trans m1
  refine ⟨_, by rw [cl c01]; rfl, name, by rw [cl c1]; rfl, ?_⟩
  refine known2_ok (h.no m01) name hn _ (fun f hd hg hf w2 m2 => ⟨_, _, rfl, ?_⟩) (fun hk w2 m2 => ⟨_, _, rfl, ?_⟩)
  · refine (ifK_of (fun h => by cases h) (fun _ => ?_) : ifK false _ _)
    obtain ⟨hk, hi⟩ := AS.known_of hd hg hf
    have h2 := (h.no m01).no m2
    have hr' : a.drop name = a.counted fun a => { a with dir := ddel name a.dir } := by rw [AS.drop, if_pos hk]
    rw [hr'] at hR
    refine ⟨_, by rw [cl (m2.at' c01)]; rfl, ?_⟩
    refine counted_ok h2 _ _ (drop1_does h2 (m2.at' c01) (m2.at' c1)) _ fun w10 hp => ⟨_, rfl, hR w10 (hp.pre (m01.trans m2))⟩
  · refine ifNe (fun _ => ?_) (fun h => absurd h hk)
    have hr' : a.drop name = (a, a.known name) := by rw [AS.drop, if_neg hk]
    rw [hr'] at hR
    exact hR w2 (StP.of_no h0 (m01.trans m2))

theorem commit_ok (h : Stt w s F a) (R : Value → World → Prop) (hR : ∀ w', StP s F w a.commit.1 w' → R (.int .i64 a.commit.2) w') : Ca Tryz.prog 37 #[.pointer (some ⟨s, 0, none⟩)] w R := by
  have h0 := h
  obtain ⟨nb, sb, N, S, φ, h⟩ := h
  refine ca37 _ w R ?_
  intro w0 e0
  have m0 : Mod no w w0 := by subst e0; exact Mod.alloc _ _
  have c0 : w0.heap[w.heap.size]? = some (.cells #[.pointer (some ⟨s, 0, none⟩)] 24 (0, 0)) := by subst e0; exact new_at _ _
  clear e0
  refine ⟨_, by rw [cl c0]; rfl, power2_ok (h0.no m0) _ ⟨_, rfl, ?_⟩⟩
  cases hd : a.dark with
  | true =>
    have hp : a.commit = (a, 9) := by rw [AS.commit, if_pos hd]
    rw [hp] at hR
    exact (ifK_of (fun _ => hR w0 (StP.of_no h0 m0)) (fun h => by cases h) : ifK true _ _)
  | false =>
    refine (ifK_of (fun h => by cases h) (fun _ => ?_) : ifK false _ _)
    have hp : a.commit = a.counted fun a => { a with sure := a.dir } := by rw [AS.commit, if_neg (by rw [hd]; simp)]
    rw [hp] at hR
    refine ⟨_, by rw [cl c0]; rfl, ?_⟩
    have h1 := h.no m0
    refine counted_ok h1 _ _ (commit1_does h1 c0) _ fun w10 hp => ⟨_, rfl, hR w10 (hp.pre m0)⟩

theorem move_ok (h : Stt w s F a) (name to : ByteArray) (hn : name.size < 4611686018427387904) (ht : to.size < 4611686018427387904) (R : Value → World → Prop)
    (hR : ∀ w', StP s F w (a.move name to).1 w' → R (.int .i64 (a.move name to).2) w') : Ca Tryz.prog 60 #[.pointer (some ⟨s, 0, none⟩), .string name, .string to] w R := by
  have h0 := h
  obtain ⟨nb, sb, N, S, φ, h⟩ := h
  refine ca60 _ name to w R ?_
  intro w0 e0
  have m0 : Mod no w w0 := by subst e0; exact Mod.alloc _ _
  have c0 : w0.heap[w.heap.size]? = some (.cells #[.pointer (some ⟨s, 0, none⟩)] 24 (0, 0)) := by subst e0; exact new_at _ _
  clear e0
  intro w1 e1
  have m1 : Mod no w0 w1 := by subst e1; exact Mod.alloc _ _
  have c1 : w1.heap[w0.heap.size]? = some (.cells #[.string name] 9 (0, 0)) := by subst e1; exact new_at _ _
  clear e1
  intro w2 e2
  have m2 : Mod no w1 w2 := by subst e2; exact Mod.alloc _ _
  have c2 : w2.heap[w1.heap.size]? = some (.cells #[.string to] 9 (0, 0)) := by subst e2; exact new_at _ _
  clear e2
  have c02 := m2.at' (m1.at' c0)
  have c12 := m2.at' c1
  have m02 := (m0.trans m1).trans m2
  refine ⟨_, by rw [cl c02]; rfl, name, by rw [cl c12]; rfl, ?_⟩
  refine known2_ok (h.no m02) name hn _ (fun f hd hg hf w3 m3 => ⟨_, _, rfl, boxF _ w3 _ fun w7 b7 m7 => ?_⟩) (fun hk w3 m3 => ⟨_, _, rfl, boxF _ w3 _ fun w7 b7 m7 => ?_⟩)
  · refine (ifK_of (fun _ => ?_) (fun h => by cases h) : ifK true _ _)
    refine (ifK_of (fun _ => ?_) (fun h => by cases h) : ifK true _ _)
    have m37 := m3.trans m7
    refine ⟨to, by rw [cl (m37.at' c2)]; rfl, good_ok to w7 ht _ fun w8 m8 => ⟨_, rfl, ifK_not (fun hgt => ?_) (fun hgt => ?_)⟩⟩
    · have hr' : a.move name to = (a, 2) := by rw [AS.move, if_neg (by rw [hd]; simp), if_pos (.inr hgt)]
      rw [hr'] at hR
      exact hR w8 (StP.of_no h0 ((m02.trans m37).trans m8))
    · refine (ifK_of (fun h => by cases h) (fun _ => ?_) : ifK false _ _)
      have hr' : a.move name to = a.counted fun a => { a with dir := dset to (a.idx name) (ddel name a.dir) } := by
        rw [AS.move, if_neg (by rw [hd]; simp), if_neg (by rw [hg, hgt]; simp), if_neg (by rw [hf]; simp)]
      rw [hr'] at hR
      have m38 := m37.trans m8
      refine ⟨_, by rw [cl (m38.at' c02)]; rfl, ?_⟩
      have h8 := (h.no m02).no m38
      refine counted_ok h8 _ _ (move1_does h8 hf hgt (m38.at' c02) (m38.at' c12) (m8.at' b7) (m38.at' c2)) _ fun w10 hp => ⟨_, rfl, hR w10 (hp.pre (m02.trans m38))⟩
  · have m37 := m3.trans m7
    rcases AS.known_cases a name with h9 | h2 | h3 | hz
    · rw [h9]
      refine (ifK_of (fun _ => ?_) (fun h => by cases h) : ifK true _ _)
      refine (ifK_of (fun h => by cases h) (fun _ => ?_) : ifK false _ _)
      refine (ifK_of (fun _ => ?_) (fun h => by cases h) : ifK true _ _)
      have hd : a.dark = true := by
        unfold AS.known at h9
        split at h9
        · assumption
        · split at h9
          · cases h9
          · split at h9 <;> cases h9
      have hr' : a.move name to = (a, 9) := by rw [AS.move, if_pos hd]
      rw [hr'] at hR
      exact hR w7 (StP.of_no h0 (m02.trans m37))
    · have hd : ¬ a.dark = true ∧ goodB name = false := by
        unfold AS.known at h2
        split at h2
        · cases h2
        · split at h2
          · exact ⟨by assumption, by assumption⟩
          · split at h2 <;> cases h2
      have hr' : a.move name to = (a, 2) := by rw [AS.move, if_neg hd.1, if_pos (.inl hd.2)]
      rw [hr'] at hR
      rw [h2]
      refine (ifK_of (fun _ => ?_) (fun h => by cases h) : ifK true _ _)
      refine (ifK_of (fun _ => ?_) (fun h => by cases h) : ifK true _ _)
      refine ⟨to, by rw [cl (m37.at' c2)]; rfl, good_ok to w7 ht _ fun w8 m8 => ⟨_, rfl, ifK_not (fun _ => ?_) (fun _ => ?_)⟩⟩
      · exact hR w8 (StP.of_no h0 ((m02.trans m37).trans m8))
      · refine (ifK_of (fun _ => ?_) (fun h => by cases h) : ifK true _ _)
        exact hR w8 (StP.of_no h0 ((m02.trans m37).trans m8))
    · have hd : ¬ a.dark = true ∧ goodB name = true ∧ dget a.dir name = none := by
        unfold AS.known at h3
        split at h3
        · cases h3
        · split at h3
          · cases h3
          · split at h3
            · rename_i h1 h2 h4
              exact ⟨h1, by simpa using h2, h4⟩
            · cases h3
      rw [h3]
      refine (ifK_of (fun _ => ?_) (fun h => by cases h) : ifK true _ _)
      refine (ifK_of (fun _ => ?_) (fun h => by cases h) : ifK true _ _)
      refine ⟨to, by rw [cl (m37.at' c2)]; rfl, good_ok to w7 ht _ fun w8 m8 => ⟨_, rfl, ifK_not (fun hgt => ?_) (fun hgt => ?_)⟩⟩
      · have hr' : a.move name to = (a, 2) := by rw [AS.move, if_neg hd.1, if_pos (.inr hgt)]
        rw [hr'] at hR
        exact hR w8 (StP.of_no h0 ((m02.trans m37).trans m8))
      · have hr' : a.move name to = (a, 3) := by rw [AS.move, if_neg hd.1, if_neg (by rw [hd.2.1, hgt]; simp), if_pos hd.2.2]
        rw [hr'] at hR
        refine (ifK_of (fun _ => ?_) (fun h => by cases h) : ifK true _ _)
        exact hR w8 (StP.of_no h0 ((m02.trans m37).trans m8))
    · exact absurd hz hk
end
end Go.Proofs.YtgjdandnncjegaaGreatDoor

/- Contract of seal.Open. -/
namespace Go.Proofs.YtgjdandnncjegaaGreatDoor
open Go Go.Proofs.YtgjdandnncjegaaGreatDoor.St

section
variable {w : World} {a : Option Addr} {l c : Nat} {bs : Bs}
/-- What lies behind the first k bytes. -/
theorem Rd.drop (h : Rd w a l c bs) {k : Nat} (hk : k ≤ l) : Rd w (if c = k then a else a.map fun x => Addr.add x (k * 1)) (l - k) (c - k) (bs.drop k) := by
  have hl := h.len
  have hle := h.le
  have hcm := h.cm
  refine ⟨by rw [List.length_drop]; omega, by omega, by omega, ?_, ?_⟩
  · intro ad had j v hj
    by_cases e : c = k
    · rw [List.drop_of_length_le (by omega)] at hj
      cases hj
    · rw [if_neg e] at had
      cases ha : a with
      | none => rw [ha] at had; cases had
      | some ad0 =>
        rw [ha] at had
        simp only [Option.map_some, Option.some.injEq, Nat.mul_one] at had
        subst had
        rw [Addr.add_add]
        refine h.all ad0 ha (k + j) v ?_
        rwa [List.map_drop, List.getElem?_drop] at hj
  · intro hn
    by_cases e : c = k
    · omega
    · rw [if_neg e] at hn
      cases ha : a with
      | none => have := h.nil ha; omega
      | some ad0 => rw [ha] at hn; cases hn
theorem Rd.head (h : Rd w a l c bs) {k : Nat} (hk : k ≤ l) : Rd w (if c = 0 then a else a.map fun x => Addr.add x 0) (k - 0) (c - 0) (bs.take k) := by
  have e : (if c = 0 then a else a.map fun x => Addr.add x 0) = a := sub0 a c
  rw [e]
  exact h.take hk
end

theorem open_ok {w : World} (hW : Wid w) {ba : Option Addr} {bl bc : Nat} {bs : Bs} (hr : Rd w ba bl bc bs) (hn : bl ≤ 1099511627776) (R : Value → World → Prop)
    (hR : ∀ w' p n c, Els u8v 5 w' p n c (openB sumB bs).1 → Mod no w w' → (∀ j, rowB p j → w.heap.size ≤ j) → R (.tuple #[.slice p n c, .int .i64 ((openB sumB bs).2.1 : Int), .int .i64 (openB sumB bs).2.2]) w') :
    Ca Tryz.prog 66 #[.slice ba bl bc] w R := by
  have hlen := hr.len
  have hle := hr.le
  have hcm := hr.cm
  have bad : ∀ e, openB sumB bs = ([], 0, e) → R (.tuple #[.slice none 0 0, .int .i64 0, .int .i64 e]) w := fun e he => by
    rw [he] at hR
    exact hR w none 0 0 (Els.nil _ _) (Mod.refl _ _) fun j hj => by simp [rowB] at hj
  refine ca66 ba bl bc w R ?_
  refine get_ok hW hr 4 rfl _ (fun h4 => ⟨_, _, rfl, (ifK_of (fun _ => ?_) (fun h => by cases h) : ifK true _ _)⟩) (fun h4 => ⟨_, _, rfl, (ifK_of (fun h => by cases h) (fun _ => ?_) : ifK false _ _)⟩)
  · exact bad 8 (by rw [openB, if_pos (by omega)])
  have hg := getN_lt 4 bs
  have h256 : (256 : Nat) ^ 4 = 4294967296 := by decide
  obtain ⟨n, hnn⟩ : ∃ n, n = getN 4 bs := ⟨_, rfl⟩
  rw [← hnn] at hg
  have hopen : openB sumB bs = if 1048576 < n then ([], 0, 5) else if bs.length < n + 8 then ([], 0, 8) else if getN 4 (bs.drop (4 + n)) = sumB (bs.take (4 + n)) then ((bs.take (4 + n)).drop 4, 4 + n + 4, 0) else ([], 0, 7) := by
    rw [openB, if_neg (by omega), ← hnn]
  rw [← hnn]
  refine ifK_dec (fun h => bad 5 (by rw [hopen, if_pos (by omega)])) (fun hlim => ?_)
  have e1 : IntKind.u64.wrap (bl : Int) = (bl : Int) := by rw [IntKind.wrap_u64]; omega
  have e2 : IntKind.u64.wrap ((n : Int) + 8) = ((n + 8 : Nat) : Int) := by rw [IntKind.wrap_u64]; omega
  rw [e1, e2]
  refine ifK_dec (fun h => bad 8 (by rw [hopen, if_neg (by omega), if_pos (by omega)])) (fun hfit => ?_)
  have e3 : IntKind.i64.wrap (4 + IntKind.i64.wrap (n : Int)) = ((4 + n : Nat) : Int) := by rw [wrap64 (x := (n : Int)) (by omega) (by omega), wrap64 (by omega) (by omega)]; omega
  rw [e3]
  simp only [Int.toNat_natCast]
  have hfit : n + 8 ≤ bl := by omega
  refine ⟨by omega, by omega, by omega, ?_⟩
  refine get_ok hW (hr.drop (k := 4 + n) (by omega)) 4 rfl _ (fun h => by omega) (fun _ => ⟨_, _, rfl, by omega, by omega, by omega, ?_⟩)
  refine sum_ok (hr.head (k := 4 + n) (by omega)) (by omega) _ ⟨_, rfl, ?_⟩
  have hs2 := sumB_lt (bs.take (4 + n))
  have hg2 := getN_lt 4 (bs.drop (4 + n))
  have e4 : IntKind.u32.wrap (getN 4 (bs.drop (4 + n)) : Int) = (getN 4 (bs.drop (4 + n)) : Int) := by rw [IntKind.wrap_u32]; omega
  rw [e4]
  refine ifNe (fun hne => ?_) (fun heq => ?_)
  · exact bad 7 (by rw [hopen, if_neg (by omega), if_neg (by omega), if_neg (by omega)])
  · have hop : openB sumB bs = ((bs.take (4 + n)).drop 4, 4 + n + 4, 0) := by rw [hopen, if_neg (by omega), if_neg (by omega), if_pos (by omega)]
    rw [hop] at hR
    refine ⟨by omega, by omega, by omega, ?_⟩
    have hd := (hr.take (k := 4 + n) (by omega)).drop (k := 4) (by omega)
    obtain ⟨p, c, w2, hrun, r2, m2, n2⟩ := (Els.nil (val := u8v) 5 w).push (P := Tryz.prog) (t := 27) (ty := 27) u8one bytesLaid (m := 4 + n - 4) (ys := (bs.take (4 + n)).drop 4) hd.len hd.all hd.nil (by omega)
    refine ⟨_, w2, hrun, _, _, _, rfl, ?_⟩
    have e5 : IntKind.i64.wrap (((4 + n : Nat) : Int) + 4) = ((4 + n + 4 : Nat) : Int) := by rw [wrap64 (by omega) (by omega)]; omega
    rw [e5]
    rw [List.nil_append] at r2
    exact hR w2 p _ c r2 (m2.mono fun k _ hk => by simp [rowB] at hk) fun j hj => (n2 j hj).elim (fun h => by simp [rowB] at h) id
end Go.Proofs.YtgjdandnncjegaaGreatDoor

/- Rows of rows of bytes. -/
namespace Go.Proofs.YtgjdandnncjegaaGreatDoor
open Go Go.Proofs.YtgjdandnncjegaaGreatDoor.St

/-- A row, as a value. -/
abbrev Sl := Option Addr × Nat × Nat
def slv (s : Sl) : Value := .slice s.1 s.2.1 s.2.2
theorem slone : ∀ s, (slv s).oneCell' = true := fun _ => rfl
theorem rowsLaid : laidOk Tryz.prog 22 27 1 = true := by kernel_rfl
/-- The row a[:l:c] holds rows of bytes: these; all in blocks of G. -/
def BIn (G : Nat → Prop) (w : World) (a : Option Addr) (l c : Nat) (xs : List Bs) : Prop :=
  ∃ ss : List Sl, Els slv 27 w a l c ss ∧ ss.length = xs.length ∧ (∀ k, rowB a k → G k) ∧ ∀ (i : Nat) (s : Sl) (b : Bs), ss[i]? = some s → xs[i]? = some b → Els u8v 5 w s.1 s.2.1 s.2.2 b ∧ ∀ k, rowB s.1 k → G k
/-- .. all in blocks from lo on. -/
abbrev BRow (lo : Nat) := BIn fun k => lo ≤ k

section
variable {G : Nat → Prop} {lo : Nat} {w w' : World} {a : Option Addr} {l c : Nat} {xs : List Bs} {T : Nat → Prop}
theorem BIn.nil (G : Nat → Prop) (w : World) : BIn G w none 0 0 [] := ⟨[], Els.nil _ _, rfl, fun k hk => by simp [rowB] at hk, fun i s b hs _ => by cases hs⟩
theorem BRow.nil (lo : Nat) (w : World) : BRow lo w none 0 0 [] := BIn.nil _ w
theorem BIn.len (h : BIn G w a l c xs) : xs.length = l ∧ l ≤ c := by
  obtain ⟨ss, h1, h2, _, _⟩ := h
  have := h1.len
  omega
theorem BIn.mono {G' : Nat → Prop} (h : BIn G w a l c xs) (hG : ∀ k, G k → G' k) : BIn G' w a l c xs :=
  let ⟨ss, h1, h2, h3, h4⟩ := h
  ⟨ss, h1, h2, fun k hk => hG k (h3 k hk), fun i s b hs hb => ⟨(h4 i s b hs hb).1, fun k hk => hG k ((h4 i s b hs hb).2 k hk)⟩⟩
theorem slv_row {ss : List Sl} (h : Els slv 27 w a l c ss) {k : Nat} (hk : rowB a k) : ∃ cs, w.heap[k]? = some (.cells cs 27 (0, 0)) := by
  rcases h.2 with ⟨hv, _⟩ | ⟨g, cap, cur, hv, _, hg, _⟩
  · injection hv with h1; subst h1; simp [rowB] at hk
  · injection hv with h1; subst h1; simp [rowB] at hk; subst hk; exact ⟨_, hg⟩
theorem BIn.norow (h : BIn G w a l c xs) (hm : Mod T w w') (hs : NoRow w T) (ha : ∀ k, rowB a k → ¬ T k) : BIn G w' a l c xs := by
  obtain ⟨ss, h1, h2, h3, h4⟩ := h
  exact ⟨ss, row_mod h1 hm ha, h2, h3, fun i s b hs' hb => ⟨els_norow (h4 i s b hs' hb).1 hm hs, (h4 i s b hs' hb).2⟩⟩
theorem BIn.no (h : BIn G w a l c xs) (hm : Mod no w w') : BIn G w' a l c xs := h.norow hm (fun _ _ _ h => h.elim) fun _ _ => id
theorem BIn.mod (h : BIn G w a l c xs) (hm : Mod T w w') (hT : ∀ k, T k → ¬ G k) : BIn G w' a l c xs := by
  obtain ⟨ss, h1, h2, h3, h4⟩ := h
  exact ⟨ss, row_mod h1 hm fun k hk ht => hT k ht (h3 k hk), h2, h3, fun i s b hs' hb =>
    ⟨els_mod (h4 i s b hs' hb).1 hm fun k hk ht => hT k ht ((h4 i s b hs' hb).2 k hk), (h4 i s b hs' hb).2⟩⟩
theorem BRow.no (h : BRow lo w a l c xs) (hm : Mod no w w') : BRow lo w' a l c xs := BIn.no h hm
/-- An element that is read. -/
theorem BIn.get (h : BIn G w a l c xs) {i : Nat} (hi : i < xs.length) : ∃ ad s, a = some ad ∧ w.cell? (Addr.add ad (i * 1)) = some (slv s) ∧ Els u8v 5 w s.1 s.2.1 s.2.2 xs[i] ∧ (∀ k, rowB s.1 k → G k) := by
  obtain ⟨ss, h1, h2, h3, h4⟩ := h
  have hall := h1.all slone
  have hl := h1.len.1
  cases a with
  | none => have := hall.2 rfl; omega
  | some ad =>
    have hg := h4 i ss[i] xs[i] (by simp) (by simp)
    exact ⟨ad, ss[i], rfl, hall.1 ad rfl _ _ (by rw [Nat.mul_one]; simp [show i < ss.length by omega]), hg.1, hg.2⟩
/-- append(rows, row). -/
theorem BIn.push (h : BIn G w a l c xs) {s : Sl} {b : Bs} (hs : Els u8v 5 w s.1 s.2.1 s.2.2 b) (hlo : ∀ k, rowB s.1 k → G k) {k : Nat} {e' : TypeId} (hk : w.heap[k]? = some (.cells #[slv s] e' (0, 0))) (hn : l + 1 ≤ 1099511627776) :
    ∃ a' c' w', (Builtin.append_ #[22, 22] 22 #[.slice a l c, .slice (some ⟨k, 0, none⟩) 1 1]).run Tryz.prog w = .ok (.slice a' (l + 1) c') w' ∧ BIn (fun k => G k ∨ w.heap.size ≤ k) w' a' (l + 1) c' (xs ++ [b]) ∧
      Mod (rowB a) w w' ∧ NoRow w (rowB a) ∧ (∀ k, rowB a k → G k) ∧ (∀ k, rowB a' k → rowB a k ∨ w.heap.size ≤ k) := by
  obtain ⟨ss, h1, h2, h3, h4⟩ := h
  obtain ⟨a', c', w', hrun, r, m, hb⟩ := h1.push1 (P := Tryz.prog) (t := 22) (ty := 22) slone rowsLaid hk hn
  have hno : NoRow w (rowB a) := fun k cs z hk' hc => by
    obtain ⟨cs', hc'⟩ := slv_row h1 hk'
    rw [hc] at hc'
    injection hc' with hc'
    injection hc' with _ h5
    cases h5
  refine ⟨a', c', w', hrun, ⟨_, r, by simp [h2], fun k hk => ?_, fun i t b' ht hb' => ?_⟩, m, hno, h3, hb⟩
  · rcases hb k hk with h | h
    · exact .inl (h3 k h)
    · exact .inr h
  · by_cases hi : i < ss.length
    · rw [List.getElem?_append_left hi] at ht
      rw [List.getElem?_append_left (by omega)] at hb'
      exact ⟨els_norow (h4 i t b' ht hb').1 m hno, fun k hk => .inl ((h4 i t b' ht hb').2 k hk)⟩
    · rw [List.getElem?_append_right (by omega)] at ht
      rw [List.getElem?_append_right (by omega), ← h2] at hb'
      have : i - ss.length = 0 := by
        apply Classical.byContradiction
        intro hne
        rw [List.getElem?_eq_none (by simp; omega)] at ht
        cases ht
      rw [this] at ht hb'
      simp only [List.getElem?_cons_zero, Option.some.injEq] at ht hb'
      subst ht; subst hb'
      exact ⟨els_norow hs m hno, fun k hk => .inl (hlo k hk)⟩
theorem BRow.push (h : BRow lo w a l c xs) {s : Sl} {b : Bs} (hs : Els u8v 5 w s.1 s.2.1 s.2.2 b) (hlo : ∀ k, rowB s.1 k → lo ≤ k) (hw : lo ≤ w.heap.size) {k : Nat} {e' : TypeId} (hk : w.heap[k]? = some (.cells #[slv s] e' (0, 0))) (hn : l + 1 ≤ 1099511627776) :
    ∃ a' c' w', (Builtin.append_ #[22, 22] 22 #[.slice a l c, .slice (some ⟨k, 0, none⟩) 1 1]).run Tryz.prog w = .ok (.slice a' (l + 1) c') w' ∧ BRow lo w' a' (l + 1) c' (xs ++ [b]) ∧
      Mod (rowB a) w w' ∧ NoRow w (rowB a) ∧ (∀ k, rowB a' k → rowB a k ∨ w.heap.size ≤ k) :=
  let ⟨a', c', w', h1, h2, h3, h4, _, h6⟩ := BIn.push h hs hlo hk hn
  ⟨a', c', w', h1, h2.mono fun k hk => hk.elim id (Nat.le_trans hw), h3, h4, h6⟩
/-- append(rows, rows ..). -/
theorem BIn.cat (h : BIn G w a l c xs) {p : Option Addr} {n m : Nat} {ys : List Bs} (h' : BIn G w p n m ys) (hn : l + n ≤ 1099511627776) :
    ∃ a' c' w', (Builtin.append_ #[22, 22] 22 #[.slice a l c, .slice p n m]).run Tryz.prog w = .ok (.slice a' (l + n) c') w' ∧ BIn (fun k => G k ∨ w.heap.size ≤ k) w' a' (l + n) c' (xs ++ ys) ∧
      Mod (rowB a) w w' ∧ NoRow w (rowB a) ∧ (∀ k, rowB a k → G k) ∧ (∀ k, rowB a' k → rowB a k ∨ w.heap.size ≤ k) := by
  obtain ⟨ss, h1, h2, h3, h4⟩ := h
  obtain ⟨ts, g1, g2, g3, g4⟩ := h'
  obtain ⟨a', c', w', hrun, r, mm, hb⟩ := h1.push (P := Tryz.prog) (t := 22) (ty := 22) slone rowsLaid (ys := ts) g1.len.1 (g1.all slone).1 (g1.all slone).2 hn
  have hno : NoRow w (rowB a) := fun k cs z hk' hc => by
    obtain ⟨cs', hc'⟩ := slv_row h1 hk'
    rw [hc] at hc'
    injection hc' with hc'
    injection hc' with _ h5
    cases h5
  refine ⟨a', c', w', hrun, ⟨_, r, by simp [h2, g2], fun k hk => ?_, fun i t b' ht hb' => ?_⟩, mm, hno, h3, hb⟩
  · rcases hb k hk with h | h
    · exact .inl (h3 k h)
    · exact .inr h
  · by_cases hi : i < ss.length
    · rw [List.getElem?_append_left hi] at ht
      rw [List.getElem?_append_left (by omega)] at hb'
      exact ⟨els_norow (h4 i t b' ht hb').1 mm hno, fun k hk => .inl ((h4 i t b' ht hb').2 k hk)⟩
    · rw [List.getElem?_append_right (by omega)] at ht
      rw [List.getElem?_append_right (by omega), ← h2] at hb'
      exact ⟨els_norow (g4 _ t b' ht hb').1 mm hno, fun k hk => .inl ((g4 _ t b' ht hb').2 k hk)⟩
end
end Go.Proofs.YtgjdandnncjegaaGreatDoor

/- Contracts of seal.Whole and of its closure. -/
namespace Go.Proofs.YtgjdandnncjegaaGreatDoor
open Go Go.Proofs.YtgjdandnncjegaaGreatDoor.St

theorem take_ok {w : World} {bL bS lo : Nat} {a : Option Addr} {l c : Nat} {xs : List Bs} {p : Option Addr} {n cc : Nat} {b : Bs} {k : Int}
    (hL : w.heap[bL]? = some (.cells #[.slice a l c] 22 (0, 0))) (hS : w.heap[bS]? = some (.cells #[.int .i64 k] 3 (0, 0))) (hB : BRow lo w a l c xs)
    (hel : Els u8v 5 w p n cc b) (hlo : ∀ j, rowB p j → lo ≤ j) (hw : lo ≤ w.heap.size) (hn : l + 1 ≤ 1099511627776) (m : Int) (R : Value → World → Prop)
    (hR : ∀ w' a' c', w'.heap[bL]? = some (.cells #[.slice a' (l + 1) c'] 22 (0, 0)) → w'.heap[bS]? = some (.cells #[.int .i64 (IntKind.i64.wrap (k + m))] 3 (0, 0)) → BRow lo w' a' (l + 1) c' (xs ++ [b]) →
      Mod (fun j => j = bL ∨ j = bS ∨ rowB a j) w w' → R (.tuple #[]) w') :
    Ca Tryz.prog 94 #[.slice p n cc, .int .i64 m, .pointer (some ⟨bL, 0, none⟩), .pointer (some ⟨bS, 0, none⟩)] w R := by
  refine ca94 p n cc m (some ⟨bL, 0, none⟩) (some ⟨bS, 0, none⟩) w R ?_
  have hLS : bL ≠ bS := fun e => by rw [e, hS] at hL; injection hL with hL; injection hL with _ h2; cases h2
  refine ⟨a, l, c, by rw [cl hL]; rfl, fun w4 e4 => ?_⟩
  have m4 : Mod no w w4 := by subst e4; exact Mod.alloc _ _
  have c4 : w4.heap[w.heap.size]? = some (.cells #[slv (p, n, cc)] 27 (0, 0)) := by subst e4; exact new_at _ _
  clear e4
  have hB4 := hB.no m4
  obtain ⟨a', c', w6, hrun, hB6, m6, hno, hb⟩ := hB4.push (s := (p, n, cc)) (b := b) (els_mod hel m4 fun _ _ => id) hlo (Nat.le_trans hw m4.size) c4 hn
  have nL : ¬ rowB a bL := fun h => by
    obtain ⟨ss, h1, _⟩ := hB
    obtain ⟨cs, hc⟩ := slv_row h1 h
    rw [hc] at hL; injection hL with hL; injection hL with _ h2; cases h2
  have nS : ¬ rowB a bS := fun h => by
    obtain ⟨ss, h1, _⟩ := hB
    obtain ⟨cs, hc⟩ := slv_row h1 h
    rw [hc] at hS; injection hS with hS; injection hS with _ h2; cases h2
  have L6 := m6.at (m4.at' hL) nL
  have S6 := m6.at (m4.at' hS) nS
  refine ⟨_, w6, hrun, a', l + 1, c', rfl, ⟨_, by rw [cl1 L6]; rfl⟩, fz1 L6 _, fun w12 e12 => ?_⟩
  have m12 : Mod (on bL) w6 w12 := by subst e12; exact Mod.set1 _ _ _ _
  have L12 : w12.heap[bL]? = some (.cells #[.slice a' (l + 1) c'] 22 (0, 0)) := by subst e12; rw [set1 L6]; rfl
  clear e12
  have S12 := m12.at S6 fun h => hLS h.symm
  refine ⟨k, by rw [cl S12]; rfl, ⟨_, by rw [cl1 S12]; rfl⟩, fz1 S12 _, fun w17 e17 => ?_⟩
  have m17 : Mod (on bS) w12 w17 := by subst e17; exact Mod.set1 _ _ _ _
  have S17 : w17.heap[bS]? = some (.cells #[.int .i64 (IntKind.i64.wrap (k + m))] 3 (0, 0)) := by subst e17; rw [set1 S12]; rfl
  clear e17
  have L17 := m17.at L12 hLS
  have rowNe : ∀ (w' : World) (j : Nat), (∃ cs, w'.heap[j]? = some (.cells cs 27 (0, 0))) → (∃ cs, w'.heap[j]? = some (.cells cs 22 (0, 0))) → False := fun w' j ⟨cs, h1⟩ ⟨cs', h2⟩ => by
    rw [h1] at h2; injection h2 with h2; injection h2 with _ h2; cases h2
  have hB12 : BRow lo w12 a' (l + 1) c' (xs ++ [b]) := hB6.norow m12 (fun j cs z hj hc => by cases hj; rw [L6] at hc; injection hc with hc; injection hc with _ h2; cases h2) fun j hj hj' => by
    cases hj'
    obtain ⟨ss, h1, _⟩ := hB6
    exact rowNe w6 _ (slv_row h1 hj) ⟨_, L6⟩
  have hB17 : BRow lo w17 a' (l + 1) c' (xs ++ [b]) := hB12.norow m17 (fun j cs z hj hc => by cases hj; rw [S12] at hc; injection hc with hc; injection hc with _ h2; cases h2) fun j hj hj' => by
    cases hj'
    obtain ⟨ss, h1, _⟩ := hB12
    obtain ⟨cs, hc⟩ := slv_row h1 hj
    rw [S12] at hc; injection hc with hc; injection hc with _ h2; cases h2
  refine hR w17 a' c' L17 S17 hB17 ?_
  exact (m4.no_trans (m6.mono fun j _ h => .inr (.inr h))).trans ((m12.mono fun j _ h => .inl h).trans (m17.mono fun j _ h => .inr (.inl h)))

def kOf (b : Nat) (w : World) : Int := match w.cell? ⟨b, 0, none⟩ with | some (.int _ k) => k | _ => 0
theorem kOf_eq {b : Nat} {w : World} {k : Int} (h : w.heap[b]? = some (.cells #[.int .i64 k] 3 (0, 0))) : kOf b w = k := by
  have : w.cell? ⟨b, 0, none⟩ = some (.int .i64 k) := by rw [cl h]; rfl
  rw [kOf, this]

theorem whole_ok {w : World} (hW : Wid w) {ba : Option Addr} {bl bc : Nat} {bs : Bs} (hr : Rd w ba bl bc bs) (hn : bl ≤ 1099511627000) (R : Value → World → Prop)
    (hR : ∀ w' p n c, BRow w.heap.size w' p n c (wholeB sumB bs).1 → Mod no w w' → R (.tuple #[.slice p n c, .int .i64 ((wholeB sumB bs).2 : Int)]) w') :
    Ca Tryz.prog 72 #[.slice ba bl bc] w R := by
  have hlen := hr.len
  have hle := hr.le
  refine ca72 ba bl bc w R ?_
  intro w0 e0
  have m0 : Mod no w w0 := by subst e0; exact Mod.alloc _ _
  have L0 : w0.heap[w.heap.size]? = some (.cells #[.slice none 0 0] 22 (0, 0)) := by subst e0; exact new_at _ _
  clear e0
  intro w1 e1
  have m1 : Mod no w0 w1 := by subst e1; exact Mod.alloc _ _
  have S1 : w1.heap[w0.heap.size]? = some (.cells #[.int .i64 0] 3 (0, 0)) := by subst e1; exact new_at _ _
  clear e1
  have z0 := m0.size
  refine ⟨⟨_, by rw [cl1 S1]; rfl⟩, fz1 S1 _, fun w3 e3 => ?_⟩
  have m3 : Mod (on w0.heap.size) w1 w3 := by subst e3; exact Mod.set1 _ _ _ _
  have S3 : w3.heap[w0.heap.size]? = some (.cells #[.int .i64 0] 3 (0, 0)) := by subst e3; rw [set1 S1]; rfl
  clear e3
  have hLS : w.heap.size ≠ w0.heap.size := fun e => by
    have := m1.at' L0
    rw [e, S1] at this
    injection this with h; injection h with _ h2; cases h2
  have L3 := m3.at (m1.at' L0) hLS
  have m03 : Mod no w w3 := (m0.trans m1).new m3 fun k hk => by cases hk; exact z0
  refine ⟨fun w' => ∃ a c xs k, w'.heap[w.heap.size]? = some (.cells #[.slice a xs.length c] 22 (0, 0)) ∧ w'.heap[w0.heap.size]? = some (.cells #[.int .i64 ((k : Nat) : Int)] 3 (0, 0)) ∧ BRow w.heap.size w' a xs.length c xs ∧ Mod no w w' ∧
      k ≤ bl ∧ xs.length ≤ k ∧ wholeB sumB bs = (xs ++ (wholeB sumB (bs.drop k)).1, k + (wholeB sumB (bs.drop k)).2), fun w' => ((bl : Int) - kOf w0.heap.size w').toNat, ⟨none, 0, [], 0, L3, S3, BRow.nil _ _, m03, Nat.zero_le _, Nat.le_refl _, by simp⟩, ?_⟩
  rintro _ w7 ⟨a, c, xs, k, L7, S7, B7, m7, hk, hxk, hwh⟩
  refine ⟨(k : Int), by rw [cl S7]; rfl, by omega, by omega, by omega, ?_⟩
  simp only [Int.toNat_natCast]
  refine open_ok (hW.no m7) ((hr.no m7).drop hk) (by omega) _ fun w10 p n cc r10 m10 n10 => ?_
  refine ⟨p, n, cc, _, _, rfl, ifNe (fun hne => ?_) (fun heq => ?_)⟩
  · intro w16 e16
    have m16 : Mod no w10 w16 := by subst e16; exact Mod.drew _
    clear e16
    have m716 := m10.trans m16
    refine ⟨a, xs.length, c, by rw [cl (m716.at' L7)]; rfl, (k : Int), by rw [cl (m716.at' S7)]; rfl, ?_⟩
    rw [wholeB_stop sumB hne] at hwh
    simp only [List.append_nil, Nat.add_zero] at hwh
    rw [hwh] at hR
    exact hR w16 a xs.length c (B7.no m716) (m7.trans m716)
  · have hb := openB_bounds sumB (bs.drop k) heq
    rw [List.length_drop] at hb
    rw [wholeB_go sumB heq] at hwh
    generalize hm : (openB sumB (bs.drop k)).2.1 = m at *
    generalize (openB sumB (bs.drop k)).1 = b at *
    refine take_ok (lo := w.heap.size) (m10.at' L7) (m10.at' S7) (B7.no m10) r10 (fun j hj => Nat.le_trans m7.size (n10 j hj)) (Nat.le_trans m7.size m10.size) (by omega) (m : Int) _ fun w22 a' c' L22 S22 B22 m22 => ⟨rfl, ?_⟩
    have e1 : IntKind.i64.wrap ((k : Int) + (m : Int)) = ((k + m : Nat) : Int) := by rw [wrap64 (by omega) (by omega)]; omega
    rw [e1] at S22
    have m722 : Mod no w w22 := (m7.trans m10).new m22 fun j hj => by
      rcases hj with rfl | rfl | hj
      · exact Nat.le_refl _
      · exact z0
      · obtain ⟨_, _, _, h3, _⟩ := B7
        exact h3 j hj
    refine ⟨⟨a', c', xs ++ [b], k + m, by rw [List.length_append]; exact L22, S22, by rw [List.length_append]; exact B22, m722, by omega, by simp; omega, ?_⟩, ?_⟩
    · rw [hwh, List.drop_drop]
      simp [Nat.add_assoc]
    · show ((bl : Int) - kOf w0.heap.size w22).toNat < ((bl : Int) - kOf w0.heap.size w7).toNat
      rw [kOf_eq S22, kOf_eq S7]
      omega
end Go.Proofs.YtgjdandnncjegaaGreatDoor

/- The formulas of functions, printed by a program of mine (gen.py) out of the translation. -/
namespace Go.Proofs.YtgjdandnncjegaaGreatDoor
open Go Go.Proofs.YtgjdandnncjegaaGreatDoor.St
open _root_.Go.Value (string int bool slice pointer agg tuple map func nilFunc iface)
open _root_.Go.World (cell? frozen? setCell alloc drew)
open _root_.Go.Addr (add)
open _root_.Go.Obj (cells)
open _root_.Go.IntKind (wrap i64 u64 i32 u32 u8)
set_option maxRecDepth 100000

/-- staith/ledger.Name -/
noncomputable def C17 : Code := (Tryz.f17.body).getD .skip
def pl17 : Nat → Plan := fun _ => .done
def ls17 : Nat → List (Nat × LT) := fun _ => []
def W17 (n : Int) (w : World) (R : Value → World → Prop) : Prop :=
  (ifK (decide (n < 1))
(R (string (ByteArray.mk #[])) (w))
(ifK (decide (n > 999999999))
(R (string (ByteArray.mk #[])) (w))
(Ca Tryz.prog (51) (Array.mk [int i64 n]) (w) (fun v0 => (fun w1 =>
(∃ s2 : ByteArray, ((v0 = string s2) ∧ ((4 + ByteArray.size s2 ≤ 9223372036854775807) ∧ (R (string (ByteArray.mk #[108, 111, 103, 46] ++ s2)) (w1))))))))))
theorem ca17 (n : Int) (w : World) (R : Value → World → Prop) (h : W17 n w R) : Ca Tryz.prog 17 ⟨[(.int .i64 n)]⟩ w R :=
  caB (fn := Tryz.f17) (pl := pl17) (ls := ls17) Tryz.func17 (by kernel_rfl) (by kernel_rfl) h

/-- staith/ledger.parts -/
noncomputable def C29 : Code := (Tryz.f29.body).getD .skip
def pl29 : Nat → Plan := fun _ => .done
def ls29 : Nat → List (Nat × LT)
  | 4 => [(5, (.one .slice)), (15, (.one (.int .i64)))]
  | _ => []
def W29 (s : Option Addr) (from_ : Int) (w : World) (R : Value → World → Prop) : Prop :=
  (Ca Tryz.prog (68) (Array.mk [pointer s]) (w) (fun v0 => (fun w1 =>
(∃ p2 : Option Addr, (∃ n3 : Nat, (∃ n4 : Nat, ((v0 = slice p2 n3 n4) ∧ (∃ z5 : Option Addr → Nat → Nat → Int → World → Prop, (∃ z6 : Option Addr → Nat → Nat → Int → World → Nat, ((z5 (none) (0) (0) (0) (w1)) ∧ (∀ (_ : Nat → Value), (∀ (p8 : Option Addr), (∀ (n9 : Nat), (∀ (n10 : Nat), (∀ (x11 : Int), (∀ (w12 : World), ((z5 (p8) (n9) (n10) (x11) (w12)) → (ifK (decide (x11 < (↑n3 : Int)))
(∃ a13 : Addr, ((p2 = some a13) ∧ (((0 : Int) ≤ x11) ∧ (((x11 : Int) < (↑n3 : Int)) ∧ (∃ s14 : ByteArray, ((cell? w12 (add a13 (Int.toNat x11 * 1)) = some (string s14)) ∧ (Ca Tryz.prog (69) (Array.mk [string s14, string (ByteArray.mk #[108, 111, 103, 46])]) (w12) (fun v15 => (fun w16 =>
(∃ s17 : ByteArray, (∃ b18 : Bool, ((v15 = tuple (Array.mk (List.reverse [bool b18, string s17]))) ∧ (Ca Tryz.prog (70) (Array.mk [string s17]) (w16) (fun v19 => (fun w20 =>
(∃ x21 : Int, (∃ v22 : Value, ((v19 = tuple (Array.mk (List.reverse [v22, int i64 x21]))) ∧ (ifK (b18)
(∃ b23 : Bool, ((nilB v22 = some b23) ∧ (ifK (b23)
(Ca Tryz.prog (17) (Array.mk [int i64 x21]) (w20) (fun v24 => (fun w25 =>
(∃ s26 : ByteArray, ((v24 = string s26) ∧ (ifK (ByteArray.toList s26 == ByteArray.toList s14)
(ifK (decide (x21 ≥ from_))
(atW (alloc w25 (cells (Array.mk [int i64 x21]) 3 (0, 0))) (fun w27 =>
(∃ v28 : Value, (∃ w29 : World, ((Sem.run Tryz.prog (Builtin.append_ (Array.mk [31, 31]) 31 (Array.mk [slice p8 n9 n10, slice (some (nw w25)) 1 1])) w27 = Result.ok v28 w29) ∧ (∃ p30 : Option Addr, (∃ n31 : Nat, (∃ n32 : Nat, ((v28 = slice p30 n31 n32) ∧ ((z5 (p30) (n31) (n32) (wrap i64 (x11 + 1)) (w29)) ∧ (z6 p30 n31 n32 (wrap i64 (x11 + 1)) w29 < z6 p8 n9 n10 x11 w12)))))))))))
((z5 (p8) (n9) (n10) (wrap i64 (x11 + 1)) (w25)) ∧ (z6 p8 n9 n10 (wrap i64 (x11 + 1)) w25 < z6 p8 n9 n10 x11 w12)))
((z5 (p8) (n9) (n10) (wrap i64 (x11 + 1)) (w25)) ∧ (z6 p8 n9 n10 (wrap i64 (x11 + 1)) w25 < z6 p8 n9 n10 x11 w12))))))))
((z5 (p8) (n9) (n10) (wrap i64 (x11 + 1)) (w20)) ∧ (z6 p8 n9 n10 (wrap i64 (x11 + 1)) w20 < z6 p8 n9 n10 x11 w12)))))
((z5 (p8) (n9) (n10) (wrap i64 (x11 + 1)) (w20)) ∧ (z6 p8 n9 n10 (wrap i64 (x11 + 1)) w20 < z6 p8 n9 n10 x11 w12)))))))))))))))))))))
(Ca Tryz.prog (71) (Array.mk [slice p8 n9 n10]) (w12) (fun v33 => (fun w34 =>
((v33 = tuple (Array.mk (List.reverse []))) ∧ (R (slice p8 n9 n10) (w34))))))))))))))))))))))))
theorem ca29 (s : Option Addr) (from_ : Int) (w : World) (R : Value → World → Prop) (h : W29 s from_ w R) : Ca Tryz.prog 29 ⟨[(.pointer s), (.int .i64 from_)]⟩ w R :=
  caB (fn := Tryz.f29) (pl := pl29) (ls := ls29) Tryz.func29 (by kernel_rfl) (by kernel_rfl) h

/-- staith/ledger.found -/
noncomputable def C28 : Code := (Tryz.f28.body).getD .skip
def pl28 : Nat → Plan
  | 8 => (.quiet 0 (.quiet 1 (.quiet 2 (.quiet 3 (.quiet 4 (.quiet 5 (.quiet 6 .done)))))))
  | _ => .done
def ls28 : Nat → List (Nat × LT) := fun _ => []
def W28 (s : Option Addr) (w : World) (R : Value → World → Prop) : Prop :=
  (Ca Tryz.prog (15) (Array.mk [pointer s, string (ByteArray.mk #[99, 104, 101, 99, 107])]) (w) (fun v0 => (fun w1 =>
(∃ p2 : Option Addr, (∃ n3 : Nat, (∃ n4 : Nat, (∃ x5 : Int, ((v0 = tuple (Array.mk (List.reverse [int i64 x5, slice p2 n3 n4]))) ∧ (ifK (x5 != 0)
(R (tuple (Array.mk [int i64 1, slice none 0 0, int i64 0])) (w1))
(Ca Tryz.prog (66) (Array.mk [slice p2 n3 n4]) (w1) (fun v6 => (fun w7 =>
(∃ p8 : Option Addr, (∃ n9 : Nat, (∃ n10 : Nat, (∃ x11 : Int, (∃ x12 : Int, ((v6 = tuple (Array.mk (List.reverse [int i64 x12, int i64 x11, slice p8 n9 n10]))) ∧ (Ca Tryz.prog (67) (Array.mk [slice p8 n9 n10, int i64 8]) (w7) (fun v13 => (fun w14 =>
(∃ x15 : Int, (∃ b16 : Bool, ((v13 = tuple (Array.mk (List.reverse [bool b16, int u64 x15]))) ∧ (ifK (x12 != 0)
(R (tuple (Array.mk [int i64 0, slice none 0 0, int i64 7])) (w14))
(ifK (decide (x11 < (↑n3 : Int)))
(R (tuple (Array.mk [int i64 0, slice none 0 0, int i64 7])) (w14))
(ifK (!b16)
(R (tuple (Array.mk [int i64 0, slice none 0 0, int i64 7])) (w14))
(ifK (decide (x15 < 1))
(R (tuple (Array.mk [int i64 0, slice none 0 0, int i64 7])) (w14))
(ifK (decide (x15 > 999999999))
(R (tuple (Array.mk [int i64 0, slice none 0 0, int i64 7])) (w14))
(atW (drew w14) (fun w17 =>
(((0 : Int) ≤ 8) ∧ (((8 : Int) ≤ (↑n9 : Int)) ∧ ((((↑n9 : Int) : Int) ≤ (↑n10 : Int)) ∧ (R (tuple (Array.mk [int i64 (wrap i64 x15), slice (if n10 = 8 then p8 else Option.map (fun x => add x 8) p8) (Int.toNat (↑n9 : Int) - 8) (n10 - 8), int i64 0])) (w17))))))))))))))))))))))))))))))))))))
theorem ca28 (s : Option Addr) (w : World) (R : Value → World → Prop) (h : W28 s w R) : Ca Tryz.prog 28 ⟨[(.pointer s)]⟩ w R :=
  caB (fn := Tryz.f28) (pl := pl28) (ls := ls28) Tryz.func28 (by kernel_rfl) (by kernel_rfl) h

/-- staith/ledger.each -/
noncomputable def C31 : Code := (Tryz.f31.body).getD .skip
def pl31 : Nat → Plan := fun _ => .done
def ls31 : Nat → List (Nat × LT)
  | 3 => [(8, (.one (.int .i64)))]
  | _ => []
def W31 (la : Option Addr) (ll : Nat) (_lc : Nat) (w : World) (R : Value → World → Prop) : Prop :=
  (∃ z0 : Int → World → Prop, (∃ z1 : Int → World → Nat, ((z0 (0) (w)) ∧ (∀ (_ : Nat → Value), (∀ (x3 : Int), (∀ (w4 : World), ((z0 (x3) (w4)) → (ifK (decide (x3 < (↑ll : Int)))
(∃ a5 : Addr, ((la = some a5) ∧ (((0 : Int) ≤ x3) ∧ (((x3 : Int) < (↑ll : Int)) ∧ (∃ v6 : Value, ((cell? w4 (add a5 (Int.toNat x3 * 1)) = some v6) ∧ (CaV Tryz.prog (v6) (Array.mk []) (w4) (fun v7 => (fun w8 =>
(∃ x9 : Int, ((v7 = int i64 x9) ∧ (ifK (x9 != 0)
(R (int i64 x9) (w8))
((z0 (wrap i64 (x3 + 1)) (w8)) ∧ (z1 (wrap i64 (x3 + 1)) w8 < z1 x3 w4))))))))))))))
(R (int i64 0) (w4))))))))))
theorem ca31 (la : Option Addr) (ll : Nat) (lc : Nat) (w : World) (R : Value → World → Prop) (h : W31 la ll lc w R) : Ca Tryz.prog 31 ⟨[(.slice la ll lc)]⟩ w R :=
  caB (fn := Tryz.f31) (pl := pl31) (ls := ls31) Tryz.func31 (by kernel_rfl) (by kernel_rfl) h

/-- staith/ledger.gather -/
noncomputable def C30 : Code := (Tryz.f30.body).getD .skip
def pl30 : Nat → Plan := fun _ => .done
def ls30 : Nat → List (Nat × LT)
  | 4 => [(6, (.one .slice)), (7, (.one (.int .i64))), (18, (.one (.int .i64)))]
  | _ => []
def W30 (s : Option Addr) (alla : Option Addr) (alll : Nat) (_allc : Nat) (first : Int) (w : World) (R : Value → World → Prop) : Prop :=
  (∃ z0 : Option Addr → Nat → Nat → Int → Int → World → Prop, (∃ z1 : Option Addr → Nat → Nat → Int → Int → World → Nat, ((z0 (none) (0) (0) (-1) (0) (w)) ∧ (∀ (_ : Nat → Value), (∀ (p3 : Option Addr), (∀ (n4 : Nat), (∀ (n5 : Nat), (∀ (x6 : Int), (∀ (x7 : Int), (∀ (w8 : World), ((z0 (p3) (n4) (n5) (x6) (x7) (w8)) → (ifK (decide (x7 < (↑alll : Int)))
(∃ a9 : Addr, ((alla = some a9) ∧ (((0 : Int) ≤ x7) ∧ (((x7 : Int) < (↑alll : Int)) ∧ (∃ x10 : Int, ((cell? w8 (add a9 (Int.toNat x7 * 1)) = some (int i64 x10)) ∧ (Ca Tryz.prog (17) (Array.mk [int i64 x10]) (w8) (fun v11 => (fun w12 =>
(∃ s13 : ByteArray, ((v11 = string s13) ∧ (Ca Tryz.prog (15) (Array.mk [pointer s, string s13]) (w12) (fun v14 => (fun w15 =>
(∃ p16 : Option Addr, (∃ n17 : Nat, (∃ n18 : Nat, (∃ x19 : Int, ((v14 = tuple (Array.mk (List.reverse [int i64 x19, slice p16 n17 n18]))) ∧ (Ca Tryz.prog (72) (Array.mk [slice p16 n17 n18]) (w15) (fun v20 => (fun w21 =>
(∃ p22 : Option Addr, (∃ n23 : Nat, (∃ n24 : Nat, (∃ x25 : Int, ((v20 = tuple (Array.mk (List.reverse [int i64 x25, slice p22 n23 n24]))) ∧ (ifK (x10 != wrap i64 (first + x7))
(R (tuple (Array.mk [slice none 0 0, int i64 0, int i64 7])) (w21))
(ifK (!x25 == (↑n17 : Int))
(ifK (decide (x7 < wrap i64 ((↑alll : Int) - 1)))
(R (tuple (Array.mk [slice none 0 0, int i64 0, int i64 7])) (w21))
(∃ v26 : Value, (∃ w27 : World, ((Sem.run Tryz.prog (Builtin.append_ (Array.mk [22, 22]) 22 (Array.mk [slice p3 n4 n5, slice p22 n23 n24])) w21 = Result.ok v26 w27) ∧ (∃ p28 : Option Addr, (∃ n29 : Nat, (∃ n30 : Nat, ((v26 = slice p28 n29 n30) ∧ (ifK (!x25 == (↑n17 : Int))
((z0 (p28) (n29) (n30) (x25) (wrap i64 (x7 + 1)) (w27)) ∧ (z1 p28 n29 n30 x25 (wrap i64 (x7 + 1)) w27 < z1 p3 n4 n5 x6 x7 w8))
((z0 (p28) (n29) (n30) (x6) (wrap i64 (x7 + 1)) (w27)) ∧ (z1 p28 n29 n30 x6 (wrap i64 (x7 + 1)) w27 < z1 p3 n4 n5 x6 x7 w8)))))))))))
(∃ v31 : Value, (∃ w32 : World, ((Sem.run Tryz.prog (Builtin.append_ (Array.mk [22, 22]) 22 (Array.mk [slice p3 n4 n5, slice p22 n23 n24])) w21 = Result.ok v31 w32) ∧ (∃ p33 : Option Addr, (∃ n34 : Nat, (∃ n35 : Nat, ((v31 = slice p33 n34 n35) ∧ (ifK (!x25 == (↑n17 : Int))
((z0 (p33) (n34) (n35) (x25) (wrap i64 (x7 + 1)) (w32)) ∧ (z1 p33 n34 n35 x25 (wrap i64 (x7 + 1)) w32 < z1 p3 n4 n5 x6 x7 w8))
((z0 (p33) (n34) (n35) (x6) (wrap i64 (x7 + 1)) (w32)) ∧ (z1 p33 n34 n35 x6 (wrap i64 (x7 + 1)) w32 < z1 p3 n4 n5 x6 x7 w8)))))))))))))))))))))))))))))))))))))))
(R (tuple (Array.mk [slice p3 n4 n5, int i64 x6, int i64 0])) (w8))))))))))))))
theorem ca30 (s : Option Addr) (alla : Option Addr) (alll : Nat) (allc : Nat) (first : Int) (w : World) (R : Value → World → Prop) (h : W30 s alla alll allc first w R) : Ca Tryz.prog 30 ⟨[(.pointer s), (.slice alla alll allc), (.int .i64 first)]⟩ w R :=
  caB (fn := Tryz.f30) (pl := pl30) (ls := ls30) Tryz.func30 (by kernel_rfl) (by kernel_rfl) h

/-- staith/ledger.Open -/
noncomputable def C9 : Code := (Tryz.f9.body).getD .skip
def pl9 : Nat → Plan := fun _ => .done
def ls9 : Nat → List (Nat × LT)
  | 18 => [(0, .agg [])]
  | 20 => [(0, .agg []), (12, (.one (.int .i64)))]
  | _ => []
def W9 (s : Option Addr) (part : Int) (w : World) (R : Value → World → Prop) : Prop :=
  (atW (alloc w (cells (Array.mk [pointer s]) 24 (0, 0))) (fun w0 =>
(∃ p1 : Option Addr, ((cell? w0 (nw w) = some (pointer p1)) ∧ (Ca Tryz.prog (15) (Array.mk [pointer p1, string (ByteArray.mk #[99, 104, 101, 99, 107])]) (w0) (fun v2 => (fun w3 =>
(∃ p4 : Option Addr, (∃ n5 : Nat, (∃ n6 : Nat, (∃ x7 : Int, ((v2 = tuple (Array.mk (List.reverse [int i64 x7, slice p4 n5 n6]))) ∧ (ifK (x7 == 1)
(R (tuple (Array.mk [pointer none, slice none 0 0, slice none 0 0, int i64 x7])) (w3))
(ifK (x7 == 9)
(R (tuple (Array.mk [pointer none, slice none 0 0, slice none 0 0, int i64 x7])) (w3))
(ifK (decide (part < 1))
(R (tuple (Array.mk [pointer none, slice none 0 0, slice none 0 0, int i64 2])) (w3))
(ifK (decide (part > 1048576))
(R (tuple (Array.mk [pointer none, slice none 0 0, slice none 0 0, int i64 2])) (w3))
(∃ p8 : Option Addr, ((cell? w3 (nw w) = some (pointer p8)) ∧ (Ca Tryz.prog (28) (Array.mk [pointer p8]) (w3) (fun v9 => (fun w10 =>
(∃ x11 : Int, (∃ p12 : Option Addr, (∃ n13 : Nat, (∃ n14 : Nat, (∃ x15 : Int, ((v9 = tuple (Array.mk (List.reverse [int i64 x15, slice p12 n13 n14, int i64 x11]))) ∧ (atW (alloc w10 (cells (Array.mk [int i64 0]) 3 (0, 0))) (fun w16 =>
(st1 (add (nw w10) 0) (int i64 x11) w16 (fun w18 =>
(ifK (x15 != 0)
(R (tuple (Array.mk [pointer none, slice none 0 0, slice none 0 0, int i64 x15])) (w18))
(∃ p19 : Option Addr, ((cell? w18 (nw w) = some (pointer p19)) ∧ (∃ x20 : Int, ((cell? w18 (nw w10) = some (int i64 x20)) ∧ (Ca Tryz.prog (29) (Array.mk [pointer p19, int i64 x20]) (w18) (fun v21 => (fun w22 =>
(∃ p23 : Option Addr, (∃ n24 : Nat, (∃ n25 : Nat, ((v21 = slice p23 n24 n25) ∧ (∃ p26 : Option Addr, ((cell? w22 (nw w) = some (pointer p26)) ∧ (∃ x27 : Int, ((cell? w22 (nw w10) = some (int i64 x27)) ∧ (Ca Tryz.prog (30) (Array.mk [pointer p26, slice p23 n24 n25, int i64 x27]) (w22) (fun v28 => (fun w29 =>
(∃ p30 : Option Addr, (∃ n31 : Nat, (∃ n32 : Nat, (∃ x33 : Int, (∃ x34 : Int, ((v28 = tuple (Array.mk (List.reverse [int i64 x34, int i64 x33, slice p30 n31 n32]))) ∧ (atW (alloc w29 (cells (Array.mk [int i64 0]) 3 (0, 0))) (fun w35 =>
(st1 (add (nw w29) 0) (int i64 x33) w35 (fun w37 =>
(ifK (x34 != 0)
(R (tuple (Array.mk [pointer none, slice none 0 0, slice none 0 0, int i64 x34])) (w37))
(∃ x38 : Int, ((cell? w37 (nw w10) = some (int i64 x38)) ∧ (atW (alloc w37 (cells (Array.mk [int i64 0]) 3 (0, 0))) (fun w39 =>
(st1 (add (nw w37) 0) (int i64 x38) w39 (fun w41 =>
(∃ z42 : World → Prop, ((ifK (decide ((↑n24 : Int) > 0))
(∃ a43 : Addr, ((p23 = some a43) ∧ (((0 : Int) ≤ wrap i64 ((↑n24 : Int) - 1)) ∧ (((wrap i64 ((↑n24 : Int) - 1) : Int) < (↑n24 : Int)) ∧ (∃ x44 : Int, ((cell? w41 (add a43 (Int.toNat (wrap i64 ((↑n24 : Int) - 1)) * 1)) = some (int i64 x44)) ∧ (st1 (add (nw w37) 0) (int i64 x44) w41 (fun w46 =>
(z42 (w46))))))))))
(z42 (w41))) ∧ (∀ (_ : Nat → Value), (∀ (w48 : World), ((z42 (w48)) → (∃ z49 : Int → World → Prop, ((∃ x50 : Int, ((cell? w48 (nw w29) = some (int i64 x50)) ∧ (ifK (decide (x50 ≥ 0))
(atW (alloc w48 (cells (Array.mk [func (Fn.func 32) (Array.mk []) (Array.mk [pointer (some (nw w)), pointer (some (nw w37)), pointer (some (nw w29))]), func (Fn.func 33) (Array.mk []) (Array.mk [pointer (some (nw w)), pointer (some (nw w37))])]) 35 (0, 0))) (fun w51 =>
(Ca Tryz.prog (31) (Array.mk [slice (some (nw w48)) 2 2]) (w51) (fun v52 => (fun w53 =>
(∃ x54 : Int, ((v52 = int i64 x54) ∧ (z49 (x54) (w53)))))))))
(ifK ((↑n24 : Int) == 0)
(∃ p55 : Option Addr, ((cell? w48 (nw w) = some (pointer p55)) ∧ (atW (alloc w48 (cells (Array.mk [func (Fn.func 35) (Array.mk []) (Array.mk [pointer (some (nw w)), pointer (some (nw w10))]), func (Fn.func 37) (Array.mk [pointer p55]) (Array.mk [])]) 35 (0, 0))) (fun w56 =>
(Ca Tryz.prog (31) (Array.mk [slice (some (nw w48)) 2 2]) (w56) (fun v57 => (fun w58 =>
(∃ x59 : Int, ((v57 = int i64 x59) ∧ (z49 (x59) (w58)))))))))))
(z49 (x34) (w48)))))) ∧ (∀ (_ : Nat → Value), (∀ (x61 : Int), (∀ (w62 : World), ((z49 (x61) (w62)) → (ifK (x61 != 0)
(R (tuple (Array.mk [pointer none, slice none 0 0, slice none 0 0, int i64 x61])) (w62))
(∃ p63 : Option Addr, ((cell? w62 (nw w) = some (pointer p63)) ∧ (∃ x64 : Int, ((cell? w62 (nw w37) = some (int i64 x64)) ∧ (atW (alloc w62 (cells (Array.mk [pointer p63, int i64 part, int i64 x64, slice none 0 0, bool false]) 47 (0, 0))) (fun w65 =>
(R (tuple (Array.mk [pointer (some (nw w62)), slice p12 n13 n14, slice p30 n31 n32, int i64 0])) (w65)))))))))))))))))))))))))))))))))))))))))))))))))))))))))))))))))))))))))))))))))))))))
theorem ca9 (s : Option Addr) (part : Int) (w : World) (R : Value → World → Prop) (h : W9 s part w R) : Ca Tryz.prog 9 ⟨[(.pointer s), (.int .i64 part)]⟩ w R :=
  caB (fn := Tryz.f9) (pl := pl9) (ls := ls9) Tryz.func9 (by kernel_rfl) (by kernel_rfl) h

/-- staith/ledger.Open$1 -/
noncomputable def C32 : Code := (Tryz.f32.body).getD .skip
def pl32 : Nat → Plan
  | 1 => (.quiet 0 (.quiet 1 (.quiet 3 (.eff 2 [0, 3] (.eff 4 [] (.quiet 5 .done))))))
  | _ => .done
def ls32 : Nat → List (Nat × LT) := fun _ => []
def W32 (c0 : Option Addr) (c1 : Option Addr) (c2 : Option Addr) (w : World) (R : Value → World → Prop) : Prop :=
  (atW (drew w) (fun w0 =>
(onP (c0) (fun a1 =>
(∃ p2 : Option Addr, ((cell? w0 a1 = some (pointer p2)) ∧ (onP (c1) (fun a3 =>
(∃ x4 : Int, ((cell? w0 a3 = some (int i64 x4)) ∧ (onP (c2) (fun a5 =>
(∃ x6 : Int, ((cell? w0 a5 = some (int i64 x6)) ∧ (Ca Tryz.prog (17) (Array.mk [int i64 x4]) (w0) (fun v7 => (fun w8 =>
(∃ s9 : ByteArray, ((v7 = string s9) ∧ (onP (c0) (fun a10 =>
((cell? w8 (add a10 0) = some (pointer p2)) ∧ (onP (c2) (fun a11 =>
((cell? w8 (add a11 0) = some (int i64 x6)) ∧ (Ca Tryz.prog (14) (Array.mk [pointer p2, string s9, int i64 x6]) (w8) (fun v12 => (fun w13 =>
(∃ x14 : Int, ((v12 = int i64 x14) ∧ (R (int i64 x14) (w13))))))))))))))))))))))))))))))))
theorem ca32 (c0 : Option Addr) (c1 : Option Addr) (c2 : Option Addr) (w : World) (R : Value → World → Prop) (h : W32 c0 c1 c2 w R) : Ca Tryz.prog 32 ⟨[(.pointer c0), (.pointer c1), (.pointer c2)]⟩ w R :=
  caB (fn := Tryz.f32) (pl := pl32) (ls := ls32) Tryz.func32 (by kernel_rfl) (by kernel_rfl) h

/-- staith/ledger.Open$2 -/
noncomputable def C33 : Code := (Tryz.f33.body).getD .skip
def pl33 : Nat → Plan
  | 1 => (.quiet 0 (.quiet 1 (.eff 2 [0] (.eff 3 [] (.quiet 4 .done)))))
  | _ => .done
def ls33 : Nat → List (Nat × LT) := fun _ => []
def W33 (c0 : Option Addr) (c1 : Option Addr) (w : World) (R : Value → World → Prop) : Prop :=
  (atW (drew w) (fun w0 =>
(onP (c0) (fun a1 =>
(∃ p2 : Option Addr, ((cell? w0 a1 = some (pointer p2)) ∧ (onP (c1) (fun a3 =>
(∃ x4 : Int, ((cell? w0 a3 = some (int i64 x4)) ∧ (Ca Tryz.prog (17) (Array.mk [int i64 x4]) (w0) (fun v5 => (fun w6 =>
(∃ s7 : ByteArray, ((v5 = string s7) ∧ (onP (c0) (fun a8 =>
((cell? w6 (add a8 0) = some (pointer p2)) ∧ (Ca Tryz.prog (34) (Array.mk [pointer p2, string s7]) (w6) (fun v9 => (fun w10 =>
(∃ x11 : Int, ((v9 = int i64 x11) ∧ (R (int i64 x11) (w10)))))))))))))))))))))))))
theorem ca33 (c0 : Option Addr) (c1 : Option Addr) (w : World) (R : Value → World → Prop) (h : W33 c0 c1 w R) : Ca Tryz.prog 33 ⟨[(.pointer c0), (.pointer c1)]⟩ w R :=
  caB (fn := Tryz.f33) (pl := pl33) (ls := ls33) Tryz.func33 (by kernel_rfl) (by kernel_rfl) h

/-- staith/ledger.Open$3 -/
noncomputable def C35 : Code := (Tryz.f35.body).getD .skip
def pl35 : Nat → Plan
  | 1 => (.quiet 0 (.quiet 1 (.eff 2 [0] (.eff 3 [] (.quiet 4 .done)))))
  | _ => .done
def ls35 : Nat → List (Nat × LT) := fun _ => []
def W35 (c0 : Option Addr) (c1 : Option Addr) (w : World) (R : Value → World → Prop) : Prop :=
  (atW (drew w) (fun w0 =>
(onP (c0) (fun a1 =>
(∃ p2 : Option Addr, ((cell? w0 a1 = some (pointer p2)) ∧ (onP (c1) (fun a3 =>
(∃ x4 : Int, ((cell? w0 a3 = some (int i64 x4)) ∧ (Ca Tryz.prog (17) (Array.mk [int i64 x4]) (w0) (fun v5 => (fun w6 =>
(∃ s7 : ByteArray, ((v5 = string s7) ∧ (onP (c0) (fun a8 =>
((cell? w6 (add a8 0) = some (pointer p2)) ∧ (Ca Tryz.prog (36) (Array.mk [pointer p2, string s7]) (w6) (fun v9 => (fun w10 =>
(∃ x11 : Int, ((v9 = int i64 x11) ∧ (R (int i64 x11) (w10)))))))))))))))))))))))))
theorem ca35 (c0 : Option Addr) (c1 : Option Addr) (w : World) (R : Value → World → Prop) (h : W35 c0 c1 w R) : Ca Tryz.prog 35 ⟨[(.pointer c0), (.pointer c1)]⟩ w R :=
  caB (fn := Tryz.f35) (pl := pl35) (ls := ls35) Tryz.func35 (by kernel_rfl) (by kernel_rfl) h

/-- (*staith/ledger.Ledger).may -/
noncomputable def C38 : Code := (Tryz.f38.body).getD .skip
def pl38 : Nat → Plan := fun _ => .done
def ls38 : Nat → List (Nat × LT) := fun _ => []
def W38 (l : Option Addr) (w : World) (R : Value → World → Prop) : Prop :=
  (ifK (Option.isNone l)
(R (int i64 1) (w))
(onP (l) (fun a0 =>
(∃ x1 : Int, ((cell? w (add a0 2) = some (int i64 x1)) ∧ (ifK (x1 == 0)
(R (int i64 1) (w))
(onP (l) (fun a2 =>
(∃ b3 : Bool, ((cell? w (add a2 4) = some (bool b3)) ∧ (ifK (b3)
(R (int i64 9) (w))
(onP (l) (fun a4 =>
(∃ p5 : Option Addr, ((cell? w (add a4 0) = some (pointer p5)) ∧ (Ca Tryz.prog (25) (Array.mk [pointer p5]) (w) (fun v6 => (fun w7 =>
(∃ b8 : Bool, ((v6 = bool b8) ∧ (ifK (!b8)
(R (int i64 9) (w7))
(R (int i64 0) (w7)))))))))))))))))))))))
theorem ca38 (l : Option Addr) (w : World) (R : Value → World → Prop) (h : W38 l w R) : Ca Tryz.prog 38 ⟨[(.pointer l)]⟩ w R :=
  caB (fn := Tryz.f38) (pl := pl38) (ls := ls38) Tryz.func38 (by kernel_rfl) (by kernel_rfl) h

/-- (*staith/ledger.Ledger).told -/
noncomputable def C46 : Code := (Tryz.f46.body).getD .skip
def pl46 : Nat → Plan := fun _ => .done
def ls46 : Nat → List (Nat × LT) := fun _ => []
def W46 (l : Option Addr) (e : Int) (w : World) (R : Value → World → Prop) : Prop :=
  (onP (l) (fun a0 =>
(∃ b1 : Bool, ((cell? w (add a0 4) = some (bool b1)) ∧ (ifK (b1)
(onP (l) (fun a2 =>
(st1 (add (add a2 4) 0) (bool true) w (fun w4 =>
(R (int i64 e) (w4))))))
(onP (l) (fun a5 =>
(st1 (add (add a5 4) 0) (bool (e == 9)) w (fun w7 =>
(R (int i64 e) (w7)))))))))))
theorem ca46 (l : Option Addr) (e : Int) (w : World) (R : Value → World → Prop) (h : W46 l e w R) : Ca Tryz.prog 46 ⟨[(.pointer l), (.int .i64 e)]⟩ w R :=
  caB (fn := Tryz.f46) (pl := pl46) (ls := ls46) Tryz.func46 (by kernel_rfl) (by kernel_rfl) h

/-- (*staith/ledger.Ledger).Add -/
noncomputable def C11 : Code := (Tryz.f11.body).getD .skip
def pl11 : Nat → Plan
  | 6 => (.quiet 0 (.quiet 1 (.quiet 2 (.quiet 3 (.quiet 4 (.quiet 5 (.eff 6 [4] (.eff 7 [4] (.eff 8 [] (.quiet 9 (.quiet 10 (.eff 11 [] .done))))))))))))
  | _ => .done
def ls11 : Nat → List (Nat × LT) := fun _ => []
def W11 (l : Option Addr) (ba : Option Addr) (bl : Nat) (bc : Nat) (w : World) (R : Value → World → Prop) : Prop :=
  (Ca Tryz.prog (38) (Array.mk [pointer l]) (w) (fun v0 => (fun w1 =>
(∃ x2 : Int, ((v0 = int i64 x2) ∧ (ifK (x2 != 0)
(R (int i64 x2) (w1))
(ifK (decide ((↑bl : Int) > 1048512))
(R (int i64 5) (w1))
(onP (l) (fun a3 =>
(∃ p4 : Option Addr, (∃ n5 : Nat, (∃ n6 : Nat, ((cell? w1 (add a3 3) = some (slice p4 n5 n6)) ∧ (ifK (decide ((↑n5 : Int) ≥ 1000))
(R (int i64 5) (w1))
(atW (drew w1) (fun w7 =>
(onP (l) (fun a8 =>
(∃ p9 : Option Addr, (∃ n10 : Nat, (∃ n11 : Nat, ((cell? w7 (add a8 3) = some (slice p9 n10 n11)) ∧ (Ca Tryz.prog (39) (Array.mk [slice ba bl bc]) (w7) (fun v12 => (fun w13 =>
(∃ p14 : Option Addr, (∃ n15 : Nat, (∃ n16 : Nat, ((v12 = slice p14 n15 n16) ∧ ((cell? w13 (add (add a8 3) 0) = some (slice p9 n10 n11)) ∧ (atW (alloc w13 (cells (Array.mk [slice p14 n15 n16]) 27 (0, 0))) (fun w17 =>
((cell? w17 (add (add a8 3) 0) = some (slice p9 n10 n11)) ∧ (∃ v18 : Value, (∃ w19 : World, ((Sem.run Tryz.prog (Builtin.append_ (Array.mk [22, 22]) 22 (Array.mk [slice p9 n10 n11, slice (some (nw w13)) 1 1])) w17 = Result.ok v18 w19) ∧ (∃ p20 : Option Addr, (∃ n21 : Nat, (∃ n22 : Nat, ((v18 = slice p20 n21 n22) ∧ (onP (l) (fun a23 =>
(st1 (add (add a23 3) 0) (slice p20 n21 n22) w19 (fun w25 =>
(R (int i64 0) (w25))))))))))))))))))))))))))))))))))))))))))))))
theorem ca11 (l : Option Addr) (ba : Option Addr) (bl : Nat) (bc : Nat) (w : World) (R : Value → World → Prop) (h : W11 l ba bl bc w R) : Ca Tryz.prog 11 ⟨[(.pointer l), (.slice ba bl bc)]⟩ w R :=
  caB (fn := Tryz.f11) (pl := pl11) (ls := ls11) Tryz.func11 (by kernel_rfl) (by kernel_rfl) h

/-- (*staith/ledger.Ledger).Pending -/
noncomputable def C22 : Code := (Tryz.f22.body).getD .skip
def pl22 : Nat → Plan := fun _ => .done
def ls22 : Nat → List (Nat × LT) := fun _ => []
def W22 (l : Option Addr) (w : World) (R : Value → World → Prop) : Prop :=
  (ifK (Option.isNone l)
(R (int i64 0) (w))
(onP (l) (fun a0 =>
(∃ p1 : Option Addr, (∃ n2 : Nat, (∃ n3 : Nat, ((cell? w (add a0 3) = some (slice p1 n2 n3)) ∧ (R (int i64 (↑n2 : Int)) (w)))))))))
theorem ca22 (l : Option Addr) (w : World) (R : Value → World → Prop) (h : W22 l w R) : Ca Tryz.prog 22 ⟨[(.pointer l)]⟩ w R :=
  caB (fn := Tryz.f22) (pl := pl22) (ls := ls22) Tryz.func22 (by kernel_rfl) (by kernel_rfl) h

/-- (*staith/ledger.Ledger).Flush -/
noncomputable def C13 : Code := (Tryz.f13.body).getD .skip
def pl13 : Nat → Plan
  | 8 => (.quiet 0 (.quiet 1 (.eff 2 [0] (.eff 3 [] (.eff 4 [] .done)))))
  | 15 => (.quiet 0 (.quiet 1 (.quiet 2 (.quiet 3 (.quiet 4 (.eff 5 [] (.quiet 6 (.quiet 7 (.quiet 8 (.quiet 9 (.quiet 10 .done)))))))))))
  | _ => .done
def ls13 : Nat → List (Nat × LT)
  | 8 => [(29, (.one (.int .i64)))]
  | _ => []
def W13 (l : Option Addr) (w : World) (R : Value → World → Prop) : Prop :=
  (atW (alloc w (cells (Array.mk [pointer l]) 26 (0, 0))) (fun w0 =>
(∃ p1 : Option Addr, ((cell? w0 (nw w) = some (pointer p1)) ∧ (Ca Tryz.prog (38) (Array.mk [pointer p1]) (w0) (fun v2 => (fun w3 =>
(∃ x4 : Int, ((v2 = int i64 x4) ∧ (ifK (x4 != 0)
(R (int i64 x4) (w3))
(∃ p5 : Option Addr, ((cell? w3 (nw w) = some (pointer p5)) ∧ (onP (p5) (fun a6 =>
(∃ p7 : Option Addr, (∃ n8 : Nat, (∃ n9 : Nat, ((cell? w3 (add a6 3) = some (slice p7 n8 n9)) ∧ (ifK ((↑n8 : Int) == 0)
(R (int i64 x4) (w3))
(atW (alloc w3 (cells (Array.mk [slice none 0 0]) 27 (0, 0))) (fun w10 =>
(∃ p11 : Option Addr, ((cell? w10 (nw w) = some (pointer p11)) ∧ (onP (p11) (fun a12 =>
(∃ p13 : Option Addr, (∃ n14 : Nat, (∃ n15 : Nat, ((cell? w10 (add a12 3) = some (slice p13 n14 n15)) ∧ (∃ z16 : Int → World → Prop, (∃ z17 : Int → World → Nat, ((z16 (0) (w10)) ∧ (∀ (_ : Nat → Value), (∀ (x19 : Int), (∀ (w20 : World), ((z16 (x19) (w20)) → (ifK (decide (x19 < (↑n14 : Int)))
(∃ a21 : Addr, ((p13 = some a21) ∧ (((0 : Int) ≤ x19) ∧ (((x19 : Int) < (↑n14 : Int)) ∧ (∃ p22 : Option Addr, (∃ n23 : Nat, (∃ n24 : Nat, ((cell? w20 (add a21 (Int.toNat x19 * 1)) = some (slice p22 n23 n24)) ∧ (atW (drew w20) (fun w25 =>
(∃ p26 : Option Addr, (∃ n27 : Nat, (∃ n28 : Nat, ((cell? w25 (nw w3) = some (slice p26 n27 n28)) ∧ (Ca Tryz.prog (42) (Array.mk [slice p22 n23 n24]) (w25) (fun v29 => (fun w30 =>
(∃ p31 : Option Addr, (∃ n32 : Nat, (∃ n33 : Nat, ((v29 = slice p31 n32 n33) ∧ ((cell? w30 (add (nw w3) 0) = some (slice p26 n27 n28)) ∧ (∃ v34 : Value, (∃ w35 : World, ((Sem.run Tryz.prog (Builtin.append_ (Array.mk [27, 27]) 27 (Array.mk [slice p26 n27 n28, slice p31 n32 n33])) w30 = Result.ok v34 w35) ∧ (∃ p36 : Option Addr, (∃ n37 : Nat, (∃ n38 : Nat, ((v34 = slice p36 n37 n38) ∧ (st1 (add (nw w3) 0) (slice p36 n37 n38) w35 (fun w40 =>
((z16 (wrap i64 (x19 + 1)) (w40)) ∧ (z17 (wrap i64 (x19 + 1)) w40 < z17 x19 w20)))))))))))))))))))))))))))))))))
(∃ p41 : Option Addr, ((cell? w20 (nw w) = some (pointer p41)) ∧ (onP (p41) (fun a42 =>
(∃ x43 : Int, ((cell? w20 (add a42 2) = some (int i64 x43)) ∧ (Ca Tryz.prog (17) (Array.mk [int i64 x43]) (w20) (fun v44 => (fun w45 =>
(∃ s46 : ByteArray, ((v44 = string s46) ∧ (atW (alloc w45 (cells (Array.mk [string (ByteArray.mk #[])]) 9 (0, 0))) (fun w47 =>
(st1 (add (nw w45) 0) (string s46) w47 (fun w49 =>
(atW (alloc w49 (cells (Array.mk [func (Fn.func 43) (Array.mk []) (Array.mk [pointer (some (nw w)), pointer (some (nw w45)), pointer (some (nw w3))]), func (Fn.func 45) (Array.mk []) (Array.mk [pointer (some (nw w)), pointer (some (nw w45))])]) 35 (0, 0))) (fun w50 =>
(Ca Tryz.prog (31) (Array.mk [slice (some (nw w49)) 2 2]) (w50) (fun v51 => (fun w52 =>
(∃ x53 : Int, ((v51 = int i64 x53) ∧ (ifK (x53 != 0)
(∃ p54 : Option Addr, ((cell? w52 (nw w) = some (pointer p54)) ∧ (Ca Tryz.prog (46) (Array.mk [pointer p54, int i64 x53]) (w52) (fun v55 => (fun w56 =>
(∃ x57 : Int, ((v55 = int i64 x57) ∧ (R (int i64 x57) (w56)))))))))
(∃ p58 : Option Addr, ((cell? w52 (nw w) = some (pointer p58)) ∧ (onP (p58) (fun a59 =>
(st1 (add (add a59 3) 0) (slice none 0 0) w52 (fun w61 =>
(atW (drew w61) (fun w62 =>
(∃ p63 : Option Addr, ((cell? w62 (nw w) = some (pointer p63)) ∧ (onP (p63) (fun a64 =>
(∃ p65 : Option Addr, ((cell? w62 (add a64 0) = some (pointer p65)) ∧ (∃ s66 : ByteArray, ((cell? w62 (nw w45) = some (string s66)) ∧ (Ca Tryz.prog (15) (Array.mk [pointer p65, string s66]) (w62) (fun v67 => (fun w68 =>
(∃ p69 : Option Addr, (∃ n70 : Nat, (∃ n71 : Nat, (∃ x72 : Int, ((v67 = tuple (Array.mk (List.reverse [int i64 x72, slice p69 n70 n71]))) ∧ (∃ p73 : Option Addr, ((cell? w68 (nw w) = some (pointer p73)) ∧ (onP (p73) (fun a74 =>
(∃ x75 : Int, ((cell? w68 (add a74 1) = some (int i64 x75)) ∧ (ifK (decide ((↑n70 : Int) ≤ x75))
(R (int i64 0) (w68))
(∃ p76 : Option Addr, ((cell? w68 (nw w) = some (pointer p76)) ∧ (onP (p76) (fun a77 =>
(∃ x78 : Int, ((cell? w68 (add a77 2) = some (int i64 x78)) ∧ (ifK (decide (x78 ≥ 999999999))
(R (int i64 0) (w68))
(∃ p79 : Option Addr, ((cell? w68 (nw w) = some (pointer p79)) ∧ (Ca Tryz.prog (47) (Array.mk [pointer p79]) (w68) (fun v80 => (fun w81 =>
(∃ x82 : Int, ((v80 = int i64 x82) ∧ (R (int i64 x82) (w81)))))))))))))))))))))))))))))))))))))))))))))))))))))))))))))))))))))))))))))))))))))))))))))))))))))))))))
theorem ca13 (l : Option Addr) (w : World) (R : Value → World → Prop) (h : W13 l w R) : Ca Tryz.prog 13 ⟨[(.pointer l)]⟩ w R :=
  caB (fn := Tryz.f13) (pl := pl13) (ls := ls13) Tryz.func13 (by kernel_rfl) (by kernel_rfl) h

/-- (*staith/ledger.Ledger).Flush$1 -/
noncomputable def C43 : Code := (Tryz.f43.body).getD .skip
def pl43 : Nat → Plan
  | 1 => (.quiet 0 (.quiet 1 (.quiet 2 (.quiet 3 (.quiet 4 (.quiet 5 (.eff 6 [] (.quiet 7 .done))))))))
  | _ => .done
def ls43 : Nat → List (Nat × LT) := fun _ => []
def W43 (c0 : Option Addr) (c1 : Option Addr) (c2 : Option Addr) (w : World) (R : Value → World → Prop) : Prop :=
  (atW (drew w) (fun w0 =>
(onP (c0) (fun a1 =>
(∃ p2 : Option Addr, ((cell? w0 a1 = some (pointer p2)) ∧ (onP (p2) (fun a3 =>
(∃ p4 : Option Addr, ((cell? w0 (add a3 0) = some (pointer p4)) ∧ (onP (c1) (fun a5 =>
(∃ s6 : ByteArray, ((cell? w0 a5 = some (string s6)) ∧ (onP (c2) (fun a7 =>
(∃ p8 : Option Addr, (∃ n9 : Nat, (∃ n10 : Nat, ((cell? w0 a7 = some (slice p8 n9 n10)) ∧ (Ca Tryz.prog (44) (Array.mk [pointer p4, string s6, slice p8 n9 n10]) (w0) (fun v11 => (fun w12 =>
(∃ x13 : Int, ((v11 = int i64 x13) ∧ (R (int i64 x13) (w12)))))))))))))))))))))))))))
theorem ca43 (c0 : Option Addr) (c1 : Option Addr) (c2 : Option Addr) (w : World) (R : Value → World → Prop) (h : W43 c0 c1 c2 w R) : Ca Tryz.prog 43 ⟨[(.pointer c0), (.pointer c1), (.pointer c2)]⟩ w R :=
  caB (fn := Tryz.f43) (pl := pl43) (ls := ls43) Tryz.func43 (by kernel_rfl) (by kernel_rfl) h

/-- (*staith/ledger.Ledger).Flush$2 -/
noncomputable def C45 : Code := (Tryz.f45.body).getD .skip
def pl45 : Nat → Plan
  | 1 => (.quiet 0 (.quiet 1 (.quiet 2 (.quiet 3 (.quiet 4 (.eff 5 [] (.quiet 6 .done)))))))
  | _ => .done
def ls45 : Nat → List (Nat × LT) := fun _ => []
def W45 (c0 : Option Addr) (c1 : Option Addr) (w : World) (R : Value → World → Prop) : Prop :=
  (atW (drew w) (fun w0 =>
(onP (c0) (fun a1 =>
(∃ p2 : Option Addr, ((cell? w0 a1 = some (pointer p2)) ∧ (onP (p2) (fun a3 =>
(∃ p4 : Option Addr, ((cell? w0 (add a3 0) = some (pointer p4)) ∧ (onP (c1) (fun a5 =>
(∃ s6 : ByteArray, ((cell? w0 a5 = some (string s6)) ∧ (Ca Tryz.prog (34) (Array.mk [pointer p4, string s6]) (w0) (fun v7 => (fun w8 =>
(∃ x9 : Int, ((v7 = int i64 x9) ∧ (R (int i64 x9) (w8)))))))))))))))))))))
theorem ca45 (c0 : Option Addr) (c1 : Option Addr) (w : World) (R : Value → World → Prop) (h : W45 c0 c1 w R) : Ca Tryz.prog 45 ⟨[(.pointer c0), (.pointer c1)]⟩ w R :=
  caB (fn := Tryz.f45) (pl := pl45) (ls := ls45) Tryz.func45 (by kernel_rfl) (by kernel_rfl) h

/-- (*staith/ledger.Ledger).turn -/
noncomputable def C47 : Code := (Tryz.f47.body).getD .skip
def pl47 : Nat → Plan
  | 1 => (.quiet 0 (.quiet 1 (.quiet 2 (.quiet 3 (.quiet 4 (.quiet 5 (.quiet 6 (.quiet 7 (.quiet 8 (.eff 9 [3] (.eff 10 [] (.quiet 11 .done))))))))))))
  | _ => .done
def ls47 : Nat → List (Nat × LT) := fun _ => []
def W47 (l : Option Addr) (w : World) (R : Value → World → Prop) : Prop :=
  (atW (drew w) (fun w0 =>
(onP (l) (fun a1 =>
(∃ p2 : Option Addr, ((cell? w0 (add a1 0) = some (pointer p2)) ∧ (onP (l) (fun a3 =>
(∃ x4 : Int, ((cell? w0 (add a3 2) = some (int i64 x4)) ∧ (Ca Tryz.prog (17) (Array.mk [int i64 (wrap i64 (x4 + 1))]) (w0) (fun v5 => (fun w6 =>
(∃ s7 : ByteArray, ((v5 = string s7) ∧ ((cell? w6 (add (add a1 0) 0) = some (pointer p2)) ∧ (Ca Tryz.prog (36) (Array.mk [pointer p2, string s7]) (w6) (fun v8 => (fun w9 =>
(∃ x10 : Int, ((v8 = int i64 x10) ∧ (ifK (x10 == 0)
(onP (l) (fun a11 =>
(∃ p12 : Option Addr, ((cell? w9 (add a11 0) = some (pointer p12)) ∧ (Ca Tryz.prog (37) (Array.mk [pointer p12]) (w9) (fun v13 => (fun w14 =>
(∃ x15 : Int, ((v13 = int i64 x15) ∧ (ifK (x15 != 0)
(Ca Tryz.prog (46) (Array.mk [pointer l, int i64 x15]) (w14) (fun v16 => (fun w17 =>
(∃ x18 : Int, ((v16 = int i64 x18) ∧ (R (int i64 x18) (w17)))))))
(onP (l) (fun a19 =>
(∃ x20 : Int, ((cell? w14 (add a19 2) = some (int i64 x20)) ∧ (onP (l) (fun a21 =>
(st1 (add (add a21 2) 0) (int i64 (wrap i64 (x20 + 1))) w14 (fun w23 =>
(R (int i64 0) (w23))))))))))))))))))))
(ifK (x10 == 9)
(Ca Tryz.prog (46) (Array.mk [pointer l, int i64 x10]) (w9) (fun v24 => (fun w25 =>
(∃ x26 : Int, ((v24 = int i64 x26) ∧ (R (int i64 x26) (w25)))))))
(R (int i64 0) (w9)))))))))))))))))))))))))
theorem ca47 (l : Option Addr) (w : World) (R : Value → World → Prop) (h : W47 l w R) : Ca Tryz.prog 47 ⟨[(.pointer l)]⟩ w R :=
  caB (fn := Tryz.f47) (pl := pl47) (ls := ls47) Tryz.func47 (by kernel_rfl) (by kernel_rfl) h

/-- (*staith/ledger.Ledger).Mark -/
noncomputable def C19 : Code := (Tryz.f19.body).getD .skip
def pl19 : Nat → Plan
  | 17 => (.quiet 0 (.quiet 1 (.eff 2 [0] (.eff 3 [] (.quiet 4 .done)))))
  | _ => .done
def ls19 : Nat → List (Nat × LT) := fun _ => []
def W19 (l : Option Addr) (checka : Option Addr) (checkl : Nat) (checkc : Nat) (w : World) (R : Value → World → Prop) : Prop :=
  (atW (alloc w (cells (Array.mk [pointer l]) 26 (0, 0))) (fun w0 =>
(∃ p1 : Option Addr, ((cell? w0 (nw w) = some (pointer p1)) ∧ (Ca Tryz.prog (38) (Array.mk [pointer p1]) (w0) (fun v2 => (fun w3 =>
(∃ x4 : Int, ((v2 = int i64 x4) ∧ (ifK (x4 != 0)
(R (int i64 x4) (w3))
(ifK (decide ((↑checkl : Int) > 1048512))
(R (int i64 5) (w3))
(∃ p5 : Option Addr, ((cell? w3 (nw w) = some (pointer p5)) ∧ (Ca Tryz.prog (13) (Array.mk [pointer p5]) (w3) (fun v6 => (fun w7 =>
(∃ x8 : Int, ((v6 = int i64 x8) ∧ (ifK (x8 != 0)
(R (int i64 x8) (w7))
(∃ p9 : Option Addr, ((cell? w7 (nw w) = some (pointer p9)) ∧ (onP (p9) (fun a10 =>
(∃ x11 : Int, ((cell? w7 (add a10 2) = some (int i64 x11)) ∧ (ifK (decide (x11 ≥ 999999999))
(R (int i64 11) (w7))
(∃ p12 : Option Addr, ((cell? w7 (nw w) = some (pointer p12)) ∧ (onP (p12) (fun a13 =>
(∃ x14 : Int, ((cell? w7 (add a13 2) = some (int i64 x14)) ∧ (atW (alloc w7 (cells (Array.mk [int i64 0]) 3 (0, 0))) (fun w15 =>
(st1 (add (nw w7) 0) (int i64 (wrap i64 (x14 + 1))) w15 (fun w17 =>
(∃ x18 : Int, ((cell? w17 (nw w7) = some (int i64 x18)) ∧ (Ca Tryz.prog (52) (Array.mk [slice none 0 0, int i64 8, int u64 (wrap u64 x18)]) (w17) (fun v19 => (fun w20 =>
(∃ p21 : Option Addr, (∃ n22 : Nat, (∃ n23 : Nat, ((v19 = slice p21 n22 n23) ∧ (∃ v24 : Value, (∃ w25 : World, ((Sem.run Tryz.prog (Builtin.append_ (Array.mk [27, 27]) 27 (Array.mk [slice p21 n22 n23, slice checka checkl checkc])) w20 = Result.ok v24 w25) ∧ (∃ p26 : Option Addr, (∃ n27 : Nat, (∃ n28 : Nat, ((v24 = slice p26 n27 n28) ∧ (Ca Tryz.prog (42) (Array.mk [slice p26 n27 n28]) (w25) (fun v29 => (fun w30 =>
(∃ p31 : Option Addr, (∃ n32 : Nat, (∃ n33 : Nat, ((v29 = slice p31 n32 n33) ∧ (atW (alloc w30 (cells (Array.mk [slice none 0 0]) 27 (0, 0))) (fun w34 =>
(st1 (add (nw w30) 0) (slice p31 n32 n33) w34 (fun w36 =>
(∃ p37 : Option Addr, ((cell? w36 (nw w) = some (pointer p37)) ∧ (onP (p37) (fun a38 =>
(∃ p39 : Option Addr, ((cell? w36 (add a38 0) = some (pointer p39)) ∧ (atW (alloc w36 (cells (Array.mk [func (Fn.func 53) (Array.mk []) (Array.mk [pointer (some (nw w))]), func (Fn.func 55) (Array.mk []) (Array.mk [pointer (some (nw w))]), func (Fn.func 56) (Array.mk []) (Array.mk [pointer (some (nw w)), pointer (some (nw w30))]), func (Fn.func 57) (Array.mk []) (Array.mk [pointer (some (nw w))]), func (Fn.func 58) (Array.mk []) (Array.mk [pointer (some (nw w)), pointer (some (nw w7))]), func (Fn.func 59) (Array.mk []) (Array.mk [pointer (some (nw w))]), func (Fn.func 37) (Array.mk [pointer p39]) (Array.mk [])]) 35 (0, 0))) (fun w40 =>
(Ca Tryz.prog (31) (Array.mk [slice (some (nw w36)) 7 7]) (w40) (fun v41 => (fun w42 =>
(∃ x43 : Int, ((v41 = int i64 x43) ∧ (ifK (x43 != 0)
(∃ p44 : Option Addr, ((cell? w42 (nw w) = some (pointer p44)) ∧ (Ca Tryz.prog (46) (Array.mk [pointer p44, int i64 x43]) (w42) (fun v45 => (fun w46 =>
(∃ x47 : Int, ((v45 = int i64 x47) ∧ (R (int i64 x47) (w46)))))))))
(∃ p48 : Option Addr, ((cell? w42 (nw w) = some (pointer p48)) ∧ (∃ x49 : Int, ((cell? w42 (nw w7) = some (int i64 x49)) ∧ (onP (p48) (fun a50 =>
(st1 (add (add a50 2) 0) (int i64 x49) w42 (fun w52 =>
(atW (drew w52) (fun w53 =>
(∃ p54 : Option Addr, ((cell? w53 (nw w) = some (pointer p54)) ∧ (∃ p55 : Option Addr, ((cell? w53 (nw w) = some (pointer p55)) ∧ (Ca Tryz.prog (61) (Array.mk [pointer p55]) (w53) (fun v56 => (fun w57 =>
(∃ x58 : Int, ((v56 = int i64 x58) ∧ ((cell? w57 (add (nw w) 0) = some (pointer p54)) ∧ (Ca Tryz.prog (46) (Array.mk [pointer p54, int i64 x58]) (w57) (fun v59 => (fun w60 =>
(∃ x61 : Int, ((v59 = int i64 x61) ∧ (R (int i64 x61) (w60))))))))))))))))))))))))))))))))))))))))))))))))))))))))))))))))))))))))))))))))))))))))))))))))))))))))
theorem ca19 (l : Option Addr) (checka : Option Addr) (checkl : Nat) (checkc : Nat) (w : World) (R : Value → World → Prop) (h : W19 l checka checkl checkc w R) : Ca Tryz.prog 19 ⟨[(.pointer l), (.slice checka checkl checkc)]⟩ w R :=
  caB (fn := Tryz.f19) (pl := pl19) (ls := ls19) Tryz.func19 (by kernel_rfl) (by kernel_rfl) h

/-- (*staith/ledger.Ledger).Mark$1 -/
noncomputable def C53 : Code := (Tryz.f53.body).getD .skip
def pl53 : Nat → Plan := fun _ => .done
def ls53 : Nat → List (Nat × LT) := fun _ => []
def W53 (c0 : Option Addr) (w : World) (R : Value → World → Prop) : Prop :=
  (onP (c0) (fun a0 =>
(∃ p1 : Option Addr, ((cell? w a0 = some (pointer p1)) ∧ (onP (p1) (fun a2 =>
(∃ p3 : Option Addr, ((cell? w (add a2 0) = some (pointer p3)) ∧ (Ca Tryz.prog (15) (Array.mk [pointer p3, string (ByteArray.mk #[99, 104, 101, 99, 107, 46, 110, 101, 119])]) (w) (fun v4 => (fun w5 =>
(∃ p6 : Option Addr, (∃ n7 : Nat, (∃ n8 : Nat, (∃ x9 : Int, ((v4 = tuple (Array.mk (List.reverse [int i64 x9, slice p6 n7 n8]))) ∧ (ifK (x9 != 0)
(R (int i64 0) (w5))
(onP (c0) (fun a10 =>
(∃ p11 : Option Addr, ((cell? w5 a10 = some (pointer p11)) ∧ (onP (p11) (fun a12 =>
(∃ p13 : Option Addr, ((cell? w5 (add a12 0) = some (pointer p13)) ∧ (Ca Tryz.prog (54) (Array.mk [pointer p13, string (ByteArray.mk #[99, 104, 101, 99, 107, 46, 110, 101, 119])]) (w5) (fun v14 => (fun w15 =>
(∃ x16 : Int, ((v14 = int i64 x16) ∧ (R (int i64 x16) (w15))))))))))))))))))))))))))))))))
theorem ca53 (c0 : Option Addr) (w : World) (R : Value → World → Prop) (h : W53 c0 w R) : Ca Tryz.prog 53 ⟨[(.pointer c0)]⟩ w R :=
  caB (fn := Tryz.f53) (pl := pl53) (ls := ls53) Tryz.func53 (by kernel_rfl) (by kernel_rfl) h

/-- (*staith/ledger.Ledger).Mark$2 -/
noncomputable def C55 : Code := (Tryz.f55.body).getD .skip
def pl55 : Nat → Plan := fun _ => .done
def ls55 : Nat → List (Nat × LT) := fun _ => []
def W55 (c0 : Option Addr) (w : World) (R : Value → World → Prop) : Prop :=
  (onP (c0) (fun a0 =>
(∃ p1 : Option Addr, ((cell? w a0 = some (pointer p1)) ∧ (onP (p1) (fun a2 =>
(∃ p3 : Option Addr, ((cell? w (add a2 0) = some (pointer p3)) ∧ (Ca Tryz.prog (36) (Array.mk [pointer p3, string (ByteArray.mk #[99, 104, 101, 99, 107, 46, 110, 101, 119])]) (w) (fun v4 => (fun w5 =>
(∃ x6 : Int, ((v4 = int i64 x6) ∧ (R (int i64 x6) (w5)))))))))))))))
theorem ca55 (c0 : Option Addr) (w : World) (R : Value → World → Prop) (h : W55 c0 w R) : Ca Tryz.prog 55 ⟨[(.pointer c0)]⟩ w R :=
  caB (fn := Tryz.f55) (pl := pl55) (ls := ls55) Tryz.func55 (by kernel_rfl) (by kernel_rfl) h

/-- (*staith/ledger.Ledger).Mark$3 -/
noncomputable def C56 : Code := (Tryz.f56.body).getD .skip
def pl56 : Nat → Plan
  | 1 => (.quiet 0 (.quiet 1 (.quiet 2 (.quiet 3 (.quiet 4 (.eff 5 [] (.quiet 6 .done)))))))
  | _ => .done
def ls56 : Nat → List (Nat × LT) := fun _ => []
def W56 (c0 : Option Addr) (c1 : Option Addr) (w : World) (R : Value → World → Prop) : Prop :=
  (atW (drew w) (fun w0 =>
(onP (c0) (fun a1 =>
(∃ p2 : Option Addr, ((cell? w0 a1 = some (pointer p2)) ∧ (onP (p2) (fun a3 =>
(∃ p4 : Option Addr, ((cell? w0 (add a3 0) = some (pointer p4)) ∧ (onP (c1) (fun a5 =>
(∃ p6 : Option Addr, (∃ n7 : Nat, (∃ n8 : Nat, ((cell? w0 a5 = some (slice p6 n7 n8)) ∧ (Ca Tryz.prog (44) (Array.mk [pointer p4, string (ByteArray.mk #[99, 104, 101, 99, 107, 46, 110, 101, 119]), slice p6 n7 n8]) (w0) (fun v9 => (fun w10 =>
(∃ x11 : Int, ((v9 = int i64 x11) ∧ (R (int i64 x11) (w10)))))))))))))))))))))))
theorem ca56 (c0 : Option Addr) (c1 : Option Addr) (w : World) (R : Value → World → Prop) (h : W56 c0 c1 w R) : Ca Tryz.prog 56 ⟨[(.pointer c0), (.pointer c1)]⟩ w R :=
  caB (fn := Tryz.f56) (pl := pl56) (ls := ls56) Tryz.func56 (by kernel_rfl) (by kernel_rfl) h

/-- (*staith/ledger.Ledger).Mark$4 -/
noncomputable def C57 : Code := (Tryz.f57.body).getD .skip
def pl57 : Nat → Plan := fun _ => .done
def ls57 : Nat → List (Nat × LT) := fun _ => []
def W57 (c0 : Option Addr) (w : World) (R : Value → World → Prop) : Prop :=
  (onP (c0) (fun a0 =>
(∃ p1 : Option Addr, ((cell? w a0 = some (pointer p1)) ∧ (onP (p1) (fun a2 =>
(∃ p3 : Option Addr, ((cell? w (add a2 0) = some (pointer p3)) ∧ (Ca Tryz.prog (34) (Array.mk [pointer p3, string (ByteArray.mk #[99, 104, 101, 99, 107, 46, 110, 101, 119])]) (w) (fun v4 => (fun w5 =>
(∃ x6 : Int, ((v4 = int i64 x6) ∧ (R (int i64 x6) (w5)))))))))))))))
theorem ca57 (c0 : Option Addr) (w : World) (R : Value → World → Prop) (h : W57 c0 w R) : Ca Tryz.prog 57 ⟨[(.pointer c0)]⟩ w R :=
  caB (fn := Tryz.f57) (pl := pl57) (ls := ls57) Tryz.func57 (by kernel_rfl) (by kernel_rfl) h

/-- (*staith/ledger.Ledger).Mark$5 -/
noncomputable def C58 : Code := (Tryz.f58.body).getD .skip
def pl58 : Nat → Plan
  | 1 => (.quiet 0 (.quiet 1 (.quiet 2 (.quiet 3 (.quiet 4 (.eff 5 [0, 3] (.eff 6 [] (.quiet 7 .done))))))))
  | _ => .done
def ls58 : Nat → List (Nat × LT) := fun _ => []
def W58 (c0 : Option Addr) (c1 : Option Addr) (w : World) (R : Value → World → Prop) : Prop :=
  (atW (drew w) (fun w0 =>
(onP (c0) (fun a1 =>
(∃ p2 : Option Addr, ((cell? w0 a1 = some (pointer p2)) ∧ (onP (p2) (fun a3 =>
(∃ p4 : Option Addr, ((cell? w0 (add a3 0) = some (pointer p4)) ∧ (onP (c1) (fun a5 =>
(∃ x6 : Int, ((cell? w0 a5 = some (int i64 x6)) ∧ (Ca Tryz.prog (17) (Array.mk [int i64 x6]) (w0) (fun v7 => (fun w8 =>
(∃ s9 : ByteArray, ((v7 = string s9) ∧ (onP (c0) (fun a10 =>
((cell? w8 (add a10 0) = some (pointer p2)) ∧ ((cell? w8 (add (add a3 0) 0) = some (pointer p4)) ∧ (Ca Tryz.prog (36) (Array.mk [pointer p4, string s9]) (w8) (fun v11 => (fun w12 =>
(∃ x13 : Int, ((v11 = int i64 x13) ∧ (R (int i64 x13) (w12))))))))))))))))))))))))))))))
theorem ca58 (c0 : Option Addr) (c1 : Option Addr) (w : World) (R : Value → World → Prop) (h : W58 c0 c1 w R) : Ca Tryz.prog 58 ⟨[(.pointer c0), (.pointer c1)]⟩ w R :=
  caB (fn := Tryz.f58) (pl := pl58) (ls := ls58) Tryz.func58 (by kernel_rfl) (by kernel_rfl) h

/-- (*staith/ledger.Ledger).Mark$6 -/
noncomputable def C59 : Code := (Tryz.f59.body).getD .skip
def pl59 : Nat → Plan := fun _ => .done
def ls59 : Nat → List (Nat × LT) := fun _ => []
def W59 (c0 : Option Addr) (w : World) (R : Value → World → Prop) : Prop :=
  (onP (c0) (fun a0 =>
(∃ p1 : Option Addr, ((cell? w a0 = some (pointer p1)) ∧ (onP (p1) (fun a2 =>
(∃ p3 : Option Addr, ((cell? w (add a2 0) = some (pointer p3)) ∧ (Ca Tryz.prog (60) (Array.mk [pointer p3, string (ByteArray.mk #[99, 104, 101, 99, 107, 46, 110, 101, 119]), string (ByteArray.mk #[99, 104, 101, 99, 107])]) (w) (fun v4 => (fun w5 =>
(∃ x6 : Int, ((v4 = int i64 x6) ∧ (R (int i64 x6) (w5)))))))))))))))
theorem ca59 (c0 : Option Addr) (w : World) (R : Value → World → Prop) (h : W59 c0 w R) : Ca Tryz.prog 59 ⟨[(.pointer c0)]⟩ w R :=
  caB (fn := Tryz.f59) (pl := pl59) (ls := ls59) Tryz.func59 (by kernel_rfl) (by kernel_rfl) h

/-- (*staith/ledger.Ledger).clean -/
noncomputable def C61 : Code := (Tryz.f61.body).getD .skip
def pl61 : Nat → Plan
  | 5 => (.quiet 0 (.quiet 1 (.quiet 2 (.quiet 3 (.quiet 4 (.eff 5 [3] (.eff 6 [] (.quiet 7 .done))))))))
  | _ => .done
def ls61 : Nat → List (Nat × LT)
  | 3 => [(12, (.one (.int .i64)))]
  | _ => []
def W61 (l : Option Addr) (w : World) (R : Value → World → Prop) : Prop :=
  (onP (l) (fun a0 =>
(∃ p1 : Option Addr, ((cell? w (add a0 0) = some (pointer p1)) ∧ (Ca Tryz.prog (29) (Array.mk [pointer p1, int i64 1]) (w) (fun v2 => (fun w3 =>
(∃ p4 : Option Addr, (∃ n5 : Nat, (∃ n6 : Nat, ((v2 = slice p4 n5 n6) ∧ (∃ z7 : Int → World → Prop, (∃ z8 : Int → World → Nat, ((z7 (0) (w3)) ∧ (∀ (_ : Nat → Value), (∀ (x10 : Int), (∀ (w11 : World), ((z7 (x10) (w11)) → (ifK (decide (x10 < (↑n5 : Int)))
(∃ a12 : Addr, ((p4 = some a12) ∧ (((0 : Int) ≤ x10) ∧ (((x10 : Int) < (↑n5 : Int)) ∧ (∃ x13 : Int, ((cell? w11 (add a12 (Int.toNat x10 * 1)) = some (int i64 x13)) ∧ (onP (l) (fun a14 =>
(∃ x15 : Int, ((cell? w11 (add a14 2) = some (int i64 x15)) ∧ (ifK (x13 == x15)
((z7 (wrap i64 (x10 + 1)) (w11)) ∧ (z8 (wrap i64 (x10 + 1)) w11 < z8 x10 w11))
(atW (drew w11) (fun w16 =>
(onP (l) (fun a17 =>
(∃ p18 : Option Addr, ((cell? w16 (add a17 0) = some (pointer p18)) ∧ (Ca Tryz.prog (17) (Array.mk [int i64 x13]) (w16) (fun v19 => (fun w20 =>
(∃ s21 : ByteArray, ((v19 = string s21) ∧ ((cell? w20 (add (add a17 0) 0) = some (pointer p18)) ∧ (Ca Tryz.prog (54) (Array.mk [pointer p18, string s21]) (w20) (fun v22 => (fun w23 =>
(∃ x24 : Int, ((v22 = int i64 x24) ∧ (ifK (x24 != 0)
(R (int i64 x24) (w23))
((z7 (wrap i64 (x10 + 1)) (w23)) ∧ (z8 (wrap i64 (x10 + 1)) w23 < z8 x10 w11)))))))))))))))))))))))))))))))
(onP (l) (fun a25 =>
(∃ p26 : Option Addr, ((cell? w11 (add a25 0) = some (pointer p26)) ∧ (Ca Tryz.prog (37) (Array.mk [pointer p26]) (w11) (fun v27 => (fun w28 =>
(∃ x29 : Int, ((v27 = int i64 x29) ∧ (R (int i64 x29) (w28))))))))))))))))))))))))))))))
theorem ca61 (l : Option Addr) (w : World) (R : Value → World → Prop) (h : W61 l w R) : Ca Tryz.prog 61 ⟨[(.pointer l)]⟩ w R :=
  caB (fn := Tryz.f61) (pl := pl61) (ls := ls61) Tryz.func61 (by kernel_rfl) (by kernel_rfl) h

/-- (*staith/ledger.Ledger).Parts -/
noncomputable def C20 : Code := (Tryz.f20.body).getD .skip
def pl20 : Nat → Plan := fun _ => .done
def ls20 : Nat → List (Nat × LT) := fun _ => []
def W20 (l : Option Addr) (w : World) (R : Value → World → Prop) : Prop :=
  (Ca Tryz.prog (38) (Array.mk [pointer l]) (w) (fun v0 => (fun w1 =>
(∃ x2 : Int, ((v0 = int i64 x2) ∧ (ifK (x2 != 0)
(ifK (Option.isNone l)
(R (slice none 0 0) (w1))
(onP (l) (fun a3 =>
(∃ x4 : Int, ((cell? w1 (add a3 2) = some (int i64 x4)) ∧ (ifK (x4 == 0)
(R (slice none 0 0) (w1))
(onP (l) (fun a5 =>
(∃ p6 : Option Addr, ((cell? w1 (add a5 0) = some (pointer p6)) ∧ (Ca Tryz.prog (25) (Array.mk [pointer p6]) (w1) (fun v7 => (fun w8 =>
(∃ b9 : Bool, ((v7 = bool b9) ∧ (ifK (!b9)
(R (slice none 0 0) (w8))
(onP (l) (fun a10 =>
(∃ p11 : Option Addr, ((cell? w8 (add a10 0) = some (pointer p11)) ∧ (Ca Tryz.prog (29) (Array.mk [pointer p11, int i64 1]) (w8) (fun v12 => (fun w13 =>
(∃ p14 : Option Addr, (∃ n15 : Nat, (∃ n16 : Nat, ((v12 = slice p14 n15 n16) ∧ (R (slice p14 n15 n16) (w13)))))))))))))))))))))))))))))
(onP (l) (fun a17 =>
(∃ p18 : Option Addr, ((cell? w1 (add a17 0) = some (pointer p18)) ∧ (Ca Tryz.prog (29) (Array.mk [pointer p18, int i64 1]) (w1) (fun v19 => (fun w20 =>
(∃ p21 : Option Addr, (∃ n22 : Nat, (∃ n23 : Nat, ((v19 = slice p21 n22 n23) ∧ (R (slice p21 n22 n23) (w20)))))))))))))))))))
theorem ca20 (l : Option Addr) (w : World) (R : Value → World → Prop) (h : W20 l w R) : Ca Tryz.prog 20 ⟨[(.pointer l)]⟩ w R :=
  caB (fn := Tryz.f20) (pl := pl20) (ls := ls20) Tryz.func20 (by kernel_rfl) (by kernel_rfl) h
end Go.Proofs.YtgjdandnncjegaaGreatDoor

/- Contract of ledger's each: steps one behind the other, up to the first error. -/
namespace Go.Proofs.YtgjdandnncjegaaGreatDoor
open Go Go.Proofs.YtgjdandnncjegaaGreatDoor.St

/-- Steps one behind the other; each leaves Keep as it was. -/
def Chain (Keep : World → Prop) : List Value → World → (Value → World → Prop) → Prop
  | [], w, R => R (.int .i64 0) w
  | f :: r, w, R => CaV Tryz.prog f #[] w fun v w' => ∃ e : Int, v = .int .i64 e ∧ Keep w' ∧ (e ≠ 0 → R (.int .i64 e) w') ∧ (e = 0 → Chain Keep r w' R)

theorem each_ok {w : World} {b : Nat} {fs : List Value} {t : TypeId} (hb : w.heap[b]? = some (.cells ⟨fs⟩ t (0, 0))) (hn : fs.length < 1000) (R : Value → World → Prop)
    (hC : Chain (fun w' => w'.heap[b]? = some (.cells ⟨fs⟩ t (0, 0))) fs w R) (n : Nat) (hfn : n = fs.length) : Ca Tryz.prog 31 #[.slice (some ⟨b, 0, none⟩) n n] w R := by
  subst hfn
  refine ca31 (some ⟨b, 0, none⟩) fs.length fs.length w R ?_
  refine ⟨fun x w' => ∃ i : Nat, x = i ∧ i ≤ fs.length ∧ w'.heap[b]? = some (.cells ⟨fs⟩ t (0, 0)) ∧ Chain (fun w' => w'.heap[b]? = some (.cells ⟨fs⟩ t (0, 0))) (fs.drop i) w' R, fun x _ => ((fs.length : Int) - x).toNat, ⟨0, rfl, Nat.zero_le _, hb, hC⟩, ?_⟩
  rintro _ _ w4 ⟨i, rfl, hi, hb4, hC4⟩
  refine ifK_dec (fun hlt => ?_) (fun hge => ?_)
  · have hil : i < fs.length := by omega
    rw [List.drop_eq_getElem_cons hil] at hC4
    refine ⟨_, rfl, by omega, by omega, fs[i], by rw [Int.toNat_natCast, Nat.mul_one, cl1 hb4]; simp [hil], ?_⟩
    refine CaV.mono hC4 fun v w8 ⟨e, hv, hk, h1, h2⟩ => ⟨e, hv, ifNe (fun hne => h1 hne) (fun heq => ?_)⟩
    have e1 : IntKind.i64.wrap ((i : Int) + 1) = ((i + 1 : Nat) : Int) := by rw [wrap64 (by omega) (by omega)]; rfl
    rw [e1]
    refine ⟨⟨i + 1, rfl, by omega, hk, h2 heq⟩, ?_⟩
    show ((fs.length : Int) - ((i + 1 : Nat) : Int)).toNat < ((fs.length : Int) - (i : Int)).toNat
    omega
  · rw [List.drop_of_length_le (by omega)] at hC4
    exact hC4
end Go.Proofs.YtgjdandnncjegaaGreatDoor

/- A ledger as it lies; the first contracts of its methods: may, told, Pending. -/
namespace Go.Proofs.YtgjdandnncjegaaGreatDoor
open Go Go.Proofs.YtgjdandnncjegaaGreatDoor.St

/-- A ledger at g: of the store at s. -/
def LAt (w : World) (g s : Nat) (part last : Int) (a : Option Addr) (l c : Nat) (dead : Bool) : Prop :=
  w.heap[g]? = some (.cells #[.pointer (some ⟨s, 0, none⟩), .int .i64 part, .int .i64 last, .slice a l c, .bool dead] 47 (0, 0))

section
variable {w : World} {g s : Nat} {part last : Int} {a : Option Addr} {l c : Nat} {dead : Bool} {F : Nat → Prop} {st : AS}
theorem may_ok (hg : LAt w g s part last a l c dead) (hs : Stt w s F st) (h0 : last ≠ 0) (R : Value → World → Prop) (hR : R (.int .i64 (if dead = true ∨ st.dark = true then 9 else 0)) w) :
    Ca Tryz.prog 38 #[.pointer (some ⟨g, 0, none⟩)] w R := by
  refine ca38 (some ⟨g, 0, none⟩) w R ?_
  refine (ifK_of (fun h => by cases h) (fun _ => ?_) : ifK false _ _)
  refine ⟨last, by rw [cl1 hg]; rfl, ifK_of (fun h => absurd (by simpa using h) h0) (fun _ => ?_)⟩
  refine ⟨dead, by rw [cl1 hg]; rfl, ?_⟩
  cases dead with
  | true => exact (ifK_of (fun _ => by simpa using hR) (fun h => by cases h) : ifK true _ _)
  | false =>
    refine (ifK_of (fun h => by cases h) (fun _ => ?_) : ifK false _ _)
    refine ⟨_, by rw [cl1 hg]; rfl, on2_ok hs _ ⟨_, rfl, ?_⟩⟩
    cases hd : st.dark with
    | true => rw [hd] at hR; exact (ifK_of (fun _ => by simpa using hR) (fun h => by cases h) : ifK true _ _)
    | false => rw [hd] at hR; exact (ifK_of (fun h => by cases h) (fun _ => by simpa using hR) : ifK false _ _)
theorem told_ok (hg : LAt w g s part last a l c dead) (e : Int) (R : Value → World → Prop) (hR : ∀ w', LAt w' g s part last a l c (dead || e == 9) → Mod (on g) w w' → R (.int .i64 e) w') :
    Ca Tryz.prog 46 #[.pointer (some ⟨g, 0, none⟩), .int .i64 e] w R := by
  refine ca46 (some ⟨g, 0, none⟩) e w R ?_
  refine ⟨dead, by rw [cl1 hg]; rfl, ?_⟩
  cases dead with
  | true =>
    refine (ifK_of (fun _ => ?_) (fun h => by cases h) : ifK true _ _)
    refine ⟨⟨_, by rw [cl2 hg]; rfl⟩, fz2 hg _ _, fun w4 e4 => hR w4 ?_ ?_⟩
    · subst e4; rw [LAt, set2 hg]; rfl
    · subst e4; exact Mod.set2 _ _ _ _ _
  | false =>
    refine (ifK_of (fun h => by cases h) (fun _ => ?_) : ifK false _ _)
    refine ⟨⟨_, by rw [cl2 hg]; rfl⟩, fz2 hg _ _, fun w4 e4 => hR w4 ?_ ?_⟩
    · subst e4; rw [LAt, set2 hg]; rfl
    · subst e4; exact Mod.set2 _ _ _ _ _
theorem pending_ok (hg : LAt w g s part last a l c dead) (R : Value → World → Prop) (hR : R (.int .i64 l) w) : Ca Tryz.prog 22 #[.pointer (some ⟨g, 0, none⟩)] w R := by
  refine ca22 (some ⟨g, 0, none⟩) w R ?_
  refine (ifK_of (fun h => by cases h) (fun _ => ?_) : ifK false _ _)
  exact ⟨_, _, _, by rw [cl1 hg]; rfl, hR⟩
end
end Go.Proofs.YtgjdandnncjegaaGreatDoor

/- Names of parts in plain Lean: 'log.' and a number; numerals and what they spell. -/
namespace Go.Proofs.YtgjdandnncjegaaGreatDoor
open Go
theorem digit_val {d : Nat} (h : d < 10) : Lib.digitVal (UInt8.ofNat (48 + d)) = some d := by
  have ht : (UInt8.ofNat (48 + d)).toNat = 48 + d := by rw [UInt8.toNat_ofNat']; omega
  rw [Lib.digitVal, ht, if_pos ⟨by omega, by omega⟩]
  congr 1
  omega
theorem decFrom_append (acc : Nat) (a b : List UInt8) : Lib.decFrom acc (a ++ b) = (Lib.decFrom acc a).bind fun m => Lib.decFrom m b := by
  induction a generalizing acc with
  | nil => rfl
  | cons x a ih =>
    simp only [List.cons_append, Lib.decFrom]
    cases Lib.digitVal x with
    | none => rfl
    | some d => exact ih _
theorem decFrom_digits (n : Nat) : Lib.decFrom 0 (Lib.decDigits n) = some n := by
  induction n using Nat.strongRecOn with
  | _ n ih =>
    by_cases h : n < 10
    · rw [Lib.decDigits_one h]
      simp only [Lib.decFrom, digit_val h]
      congr 1
      omega
    · rw [Lib.decDigits, dif_neg h, decFrom_append, ih (n / 10) (by omega)]
      simp only [Option.bind, Lib.decFrom, digit_val (show n % 10 < 10 by omega)]
      congr 1
      omega
theorem digits_head (n : Nat) : ∃ d r, Lib.decDigits n = UInt8.ofNat (48 + d) :: r ∧ d < 10 := by
  induction n using Nat.strongRecOn with
  | _ n ih =>
    by_cases h : n < 10
    · exact ⟨n, [], Lib.decDigits_one h, h⟩
    · obtain ⟨d, r, e, hd⟩ := ih (n / 10) (by omega)
      exact ⟨d, r ++ [UInt8.ofNat (48 + n % 10)], by rw [Lib.decDigits, dif_neg h, e]; rfl, hd⟩
theorem digits_inj {n m : Nat} (h : Lib.decDigits n = Lib.decDigits m) : n = m := by
  have h1 := decFrom_digits n
  rw [h, decFrom_digits m] at h1
  injection h1 with h1
  exact h1.symm
theorem atoi_digits (n : Nat) : Lib.atoi (Lib.decDigits n) = some (n : Int) := by
  obtain ⟨d, r, e, hd⟩ := digits_head n
  have ht : (UInt8.ofNat (48 + d)).toNat = 48 + d := by rw [UInt8.toNat_ofNat']; omega
  have h1 : (UInt8.ofNat (48 + d) == 45) = false := by
    refine beq_false_of_ne fun h => ?_
    rw [h] at ht
    have : (45 : UInt8).toNat = 45 := rfl
    omega
  have h2 : (UInt8.ofNat (48 + d) == 43) = false := by
    refine beq_false_of_ne fun h => ?_
    rw [h] at ht
    have : (43 : UInt8).toNat = 43 := rfl
    omega
  have h3 := decFrom_digits n
  rw [e] at h3 ⊢
  rw [Lib.atoi, h1, h2]
  simp only [Bool.false_eq_true, if_false, Lib.decNat, List.isEmpty_cons, h3, Option.map_some]
theorem digits_len {n : Nat} (h : n ≤ 999999999) : (Lib.decDigits n).length ≤ 9 := by
  rw [Lib.decDigits_length]
  have : ∀ k u, u < 10 ^ (k + 1) → Lib.nDigits u ≤ k + 1 := by
    intro k
    induction k with
    | zero => intro u hu; rw [Lib.nDigits_small (by simpa using hu)]; exact Nat.le_refl _
    | succ k ih =>
      intro u hu
      by_cases h : u < 10
      · rw [Lib.nDigits_small h]; omega
      · rw [Lib.nDigits_big h]
        have := ih (u / 10) (by rw [Nat.pow_succ] at hu; omega)
        omega
  exact this 8 n (by omega)
/-- All are digits. -/
theorem digits_all (n : Nat) : ∀ b ∈ Lib.decDigits n, 48 ≤ b.toNat ∧ b.toNat ≤ 57 := by
  induction n using Nat.strongRecOn with
  | _ n ih =>
    intro b hb
    have ht : ∀ d, d < 10 → (UInt8.ofNat (48 + d)).toNat = 48 + d := fun d hd => by rw [UInt8.toNat_ofNat']; omega
    by_cases h : n < 10
    · rw [Lib.decDigits_one h, List.mem_singleton] at hb
      subst hb
      rw [ht n h]
      omega
    · rw [Lib.decDigits, dif_neg h, List.mem_append, List.mem_singleton] at hb
      rcases hb with hb | rfl
      · exact ih (n / 10) (by omega) b hb
      · rw [ht (n % 10) (by omega)]
        omega

/-- 'log.', and a number. -/
def logL : List UInt8 := [108, 111, 103, 46]
def nameL (n : Nat) : ByteArray := ⟨(logL ++ Lib.decDigits n).toArray⟩
def nCheck : ByteArray := ⟨#[99, 104, 101, 99, 107]⟩
def nComing : ByteArray := ⟨#[99, 104, 101, 99, 107, 46, 110, 101, 119]⟩
theorem nameL_list (n : Nat) : (nameL n).data.toList = logL ++ Lib.decDigits n := List.toList_toArray ..
theorem nameL_inj {n m : Nat} (h : nameL n = nameL m) : n = m := by
  have := congrArg (fun x => x.data.toList) h
  simp only [nameL_list] at this
  exact digits_inj (List.append_cancel_left this)
theorem nameL_size {n : Nat} (h : n ≤ 999999999) : (nameL n).size ≤ 13 := by
  have : (nameL n).size = (nameL n).data.toList.length := rfl
  rw [this, nameL_list, List.length_append]
  have := digits_len h
  simp only [logL, List.length_cons, List.length_nil]
  omega
theorem nameL_ne_check (n : Nat) : nameL n ≠ nCheck := fun h => by
  have := congrArg (fun x => x.data.toList.head?) h
  simp only [nameL_list, logL] at this
  cases this
theorem nameL_ne_coming (n : Nat) : nameL n ≠ nComing := fun h => by
  have := congrArg (fun x => x.data.toList.head?) h
  simp only [nameL_list, logL] at this
  cases this
theorem nameL_prefix (n : Nat) : Lib.hasPrefix (nameL n).data.toList logL = true := by
  rw [nameL_list, Lib.hasPrefix, List.isPrefixOf_iff_prefix]
  exact List.prefix_append _ _
theorem nameL_trim (n : Nat) : Lib.trimPrefix (nameL n).data.toList logL = Lib.decDigits n := by
  rw [Lib.trimPrefix, if_pos (nameL_prefix n), nameL_list, List.drop_left]
end Go.Proofs.YtgjdandnncjegaaGreatDoor

/- The library's CutPrefix, Atoi and Itoa, as calls are met here. -/
namespace Go.Proofs.YtgjdandnncjegaaGreatDoor
open Go Go.Proofs.YtgjdandnncjegaaGreatDoor.St

theorem of_below {w w' : World} (h : RowKit.Below w.heap.size w w') : Mod no w w' := ⟨h.os, h.tape, h.output, h.size, fun k hk _ => h.block k hk⟩
theorem of_grow (w : World) (k : Nat) (os : Array Obj) : Mod no w (Sort.grow (w.drewN k) os) := ⟨rfl, rfl, rfl, by simp [Sort.grow, World.drewN], fun j hj _ => by simp [Sort.grow, World.drewN, Array.getElem?_append_left hj]⟩
theorem prefix_ok (s p : ByteArray) (w : World) (R : Value → World → Prop) (hR : R (.tuple #[.string ⟨(Lib.trimPrefix s.data.toList p.data.toList).toArray⟩, .bool (Lib.hasPrefix s.data.toList p.data.toList)]) w) :
    Ca Tryz.prog 69 #[.string s, .string p] w R :=
  ⟨fun w => callFunc_run (c := (Tryz.f69.body).getD .skip) Tryz.func69 (by kernel_rfl) (by kernel_rfl) _ w, (Tryz.strings_CutPrefix s p w).mono fun e w' ⟨h1, h2⟩ => ⟨_, h1, by subst h2; exact hR⟩⟩
theorem atoi_ok (s : ByteArray) (n : Int) (hl : s.size ≤ 18) (h : Lib.atoi s.data.toList = some n) (w : World) (R : Value → World → Prop) (hR : ∀ w', Mod no w w' → R (.tuple #[.int .i64 n, .nilIface]) w') :
    Ca Tryz.prog 70 #[.string s] w R :=
  ⟨fun w => callFunc_run (c := (Tryz.f70.body).getD .skip) Tryz.func70 (by kernel_rfl) (by kernel_rfl) _ w, (Tryz.strconv_Atoi s n hl h w).mono fun e w' ⟨h1, t, h2⟩ => ⟨_, h1, hR w' (by subst h2; exact of_below (Lib.bytesWorld_below ..))⟩⟩
theorem atoi_bad (s : ByteArray) (hl : s.size ≤ 18) (h : Lib.atoi s.data.toList = none) (tp : TypeId) (p : Value) (w : World) (hv : w.var? Tryz.prog "strconv.ErrSyntax" = some #[.iface tp p]) (R : Value → World → Prop)
    (hR : ∀ w' t q, Mod no w w' → R (.tuple #[.int .i64 0, .iface t q]) w') : Ca Tryz.prog 70 #[.string s] w R :=
  ⟨fun w => callFunc_run (c := (Tryz.f70.body).getD .skip) Tryz.func70 (by kernel_rfl) (by kernel_rfl) _ w, (Tryz.strconv_Atoi_err_var s hl h tp p w hv).mono fun e w' ⟨N, h1, _, _, hb⟩ => ⟨_, h1, hR w' _ _ (of_below hb)⟩⟩
theorem itoa_ok (n : Int) (h0 : -9223372036854775808 ≤ n) (h1 : n ≤ 9223372036854775807) (w : World) (ht : Lib.TabIs Tryz.prog w "internal/strconv.uint64pow10" .u64 Lib.pow10Tab) (R : Value → World → Prop)
    (hR : ∀ w', Mod no w w' → R (.string ⟨(Lib.itoa n).toArray⟩) w') : Ca Tryz.prog 51 #[.int .i64 n] w R :=
  ⟨fun w => callFunc_run (c := (Tryz.f51.body).getD .skip) Tryz.func51 (by kernel_rfl) (by kernel_rfl) _ w, (Tryz.strconv_Itoa n h0 h1 w ht).mono fun e w' ⟨h1, k, os, h2⟩ => ⟨_, h1, hR w' (by subst h2; exact of_grow _ _ _)⟩⟩
end Go.Proofs.YtgjdandnncjegaaGreatDoor

/- Contract of ledger's Name. -/
namespace Go.Proofs.YtgjdandnncjegaaGreatDoor
open Go Go.Proofs.YtgjdandnncjegaaGreatDoor.St

/-- The package-level variables that are read, as they lie. -/
structure Vars (w : World) : Prop where
  wid : Wid w
  tab : Lib.TabIs Tryz.prog w "internal/strconv.uint64pow10" .u64 Lib.pow10Tab
  err : ∃ tp p, w.var? Tryz.prog "strconv.ErrSyntax" = some #[.iface tp p]

theorem var_mod {S : Nat → Prop} {P : Program} {w w' : World} {n : String} {cs : Array Value} {g : Nat} (h : w.var? P n = some cs) (hm : Mod S w w') (hg : P.globalNamed n = some g) (hs : ¬ S g) : w'.var? P n = some cs := by
  simp only [World.var?, hg, Option.bind_some] at h ⊢
  split at h
  · rename_i cs' t z hc
    rw [hm.at hc hs]
    exact h
  · cases h
theorem Vars.mod {S : Nat → Prop} {w w' : World} (h : Vars w) (hm : Mod S w w') (hs : ∀ k, k < 6 → ¬ S k) : Vars w' :=
  ⟨h.wid.mod hm (hs 0 (by omega)), var_mod h.tab hm (g := 3) (by kernel_rfl) (hs _ (by omega)), let ⟨tp, p, he⟩ := h.err; ⟨tp, p, var_mod he hm (g := 1) (by kernel_rfl) (hs _ (by omega))⟩⟩
theorem Vars.no {w w' : World} (h : Vars w) (hm : Mod no w w') : Vars w' := h.mod hm fun _ _ => id

def nameI (n : Int) : ByteArray := if 1 ≤ n ∧ n ≤ 999999999 then nameL n.toNat else ⟨#[]⟩
theorem log_append (n : Nat) : (ByteArray.mk #[108, 111, 103, 46] ++ ⟨(Lib.itoa (n : Int)).toArray⟩ : ByteArray) = nameL n := by
  have h : Lib.itoa (n : Int) = Lib.decDigits n := by unfold Lib.itoa; rw [if_neg (by omega)]; simp
  rw [h]
  apply ByteArray.ext
  rw [ByteArray.data_append]
  apply Array.toList_inj.1
  rw [Array.toList_append, nameL_list, List.toList_toArray]
  rfl
theorem name_ok {w : World} (hV : Vars w) (n : Int) (R : Value → World → Prop) (hR : ∀ w', Mod no w w' → R (.string (nameI n)) w') : Ca Tryz.prog 17 #[.int .i64 n] w R := by
  refine ca17 n w R ?_
  refine ifK_dec (fun h => ?_) (fun h1 => ifK_dec (fun h => ?_) (fun h2 => ?_))
  · have := hR w (Mod.refl _ _)
    rwa [nameI, if_neg (by omega)] at this
  · have := hR w (Mod.refl _ _)
    rwa [nameI, if_neg (by omega)] at this
  · obtain ⟨k, rfl⟩ : ∃ k : Nat, n = k := ⟨n.toNat, by omega⟩
    refine itoa_ok (k : Int) (by omega) (by omega) w hV.tab _ fun w1 m1 => ⟨_, rfl, ?_, ?_⟩
    · have h : Lib.itoa (k : Int) = Lib.decDigits k := by unfold Lib.itoa; rw [if_neg (by omega)]; simp
      have hs : (ByteArray.mk (Lib.itoa (k : Int)).toArray).size = (Lib.decDigits k).length := by rw [h]; rfl
      have hd := digits_len (n := k) (by omega)
      omega
    · have := hR w1 m1
      rw [nameI, if_pos (by omega), Int.toNat_natCast, ← log_append] at this
      exact this
end Go.Proofs.YtgjdandnncjegaaGreatDoor

/- The formulas of functions, printed by a program of mine (gen.py) out of the translation. -/
namespace Go.Proofs.YtgjdandnncjegaaGreatDoor
open Go Go.Proofs.YtgjdandnncjegaaGreatDoor.St
open _root_.Go.Value (string int bool slice pointer agg tuple map func nilFunc iface)
open _root_.Go.World (cell? frozen? setCell alloc drew)
open _root_.Go.Addr (add)
open _root_.Go.Obj (cells)
open _root_.Go.IntKind (wrap i64 u64 i32 u32 u8)
set_option maxRecDepth 100000

/-- cmp.isNaN[int] -/
noncomputable def C131 : Code := (Tryz.f131.body).getD .skip
def pl131 : Nat → Plan := fun _ => .done
def ls131 : Nat → List (Nat × LT) := fun _ => []
def W131 (x : Int) (w : World) (R : Value → World → Prop) : Prop :=
  (R (bool (x != x)) (w))
theorem ca131 (x : Int) (w : World) (R : Value → World → Prop) (h : W131 x w R) : Ca Tryz.prog 131 ⟨[(.int .i64 x)]⟩ w R :=
  caB (fn := Tryz.f131) (pl := pl131) (ls := ls131) Tryz.func131 (by kernel_rfl) (by kernel_rfl) h

/-- cmp.Less[int] -/
noncomputable def C112 : Code := (Tryz.f112.body).getD .skip
def pl112 : Nat → Plan := fun _ => .done
def ls112 : Nat → List (Nat × LT) := fun _ => []
def W112 (x : Int) (y : Int) (w : World) (R : Value → World → Prop) : Prop :=
  (Ca Tryz.prog (131) (Array.mk [int i64 x]) (w) (fun v0 => (fun w1 =>
(∃ b2 : Bool, ((v0 = bool b2) ∧ (ifK (b2)
(Ca Tryz.prog (131) (Array.mk [int i64 y]) (w1) (fun v3 => (fun w4 =>
(∃ b5 : Bool, ((v3 = bool b5) ∧ (ifK (!b5)
(R (bool true) (w4))
(R (bool (decide (x < y))) (w4))))))))
(R (bool (decide (x < y))) (w1))))))))
theorem ca112 (x : Int) (y : Int) (w : World) (R : Value → World → Prop) (h : W112 x y w R) : Ca Tryz.prog 112 ⟨[(.int .i64 x), (.int .i64 y)]⟩ w R :=
  caB (fn := Tryz.f112) (pl := pl112) (ls := ls112) Tryz.func112 (by kernel_rfl) (by kernel_rfl) h

/-- slices.insertionSortOrdered[int] -/
noncomputable def C106 : Code := (Tryz.f106.body).getD .skip
def pl106 : Nat → Plan
  | 4 => (.quiet 0 (.quiet 1 (.quiet 2 (.quiet 3 (.quiet 4 (.quiet 5 (.quiet 6 (.quiet 7 (.quiet 8 (.quiet 9 (.quiet 10 (.quiet 11 (.quiet 12 (.eff 13 [] (.quiet 14 .done)))))))))))))))
  | 6 => (.quiet 0 (.quiet 1 (.quiet 2 (.quiet 3 (.quiet 4 (.quiet 5 (.quiet 6 (.quiet 7 (.quiet 8 (.quiet 9 (.quiet 10 (.quiet 11 (.quiet 12 (.quiet 13 (.quiet 14 (.eff 15 [] (.quiet 16 (.eff 17 [] .done))))))))))))))))))
  | _ => .done
def ls106 : Nat → List (Nat × LT)
  | 1 => [(6, (.one (.int .i64)))]
  | 6 => [(7, (.one (.int .i64)))]
  | _ => []
def W106 (dataa : Option Addr) (datal : Nat) (_datac : Nat) (a_ : Int) (b : Int) (w : World) (R : Value → World → Prop) : Prop :=
  (∃ z0 : Int → World → Prop, (∃ z1 : Int → World → Nat, ((z0 (wrap i64 (a_ + 1)) (w)) ∧ (∀ (_ : Nat → Value), (∀ (x3 : Int), (∀ (w4 : World), ((z0 (x3) (w4)) → (ifK (decide (x3 < b))
(∃ z5 : Int → World → Prop, (∃ z6 : Int → World → Nat, ((z5 (x3) (w4)) ∧ (∀ (_ : Nat → Value), (∀ (x8 : Int), (∀ (w9 : World), ((z5 (x8) (w9)) → (atW (drew w9) (fun w10 =>
(ifK (decide (x8 > a_))
(∃ a11 : Addr, ((dataa = some a11) ∧ (((0 : Int) ≤ x8) ∧ (((x8 : Int) < (↑datal : Int)) ∧ (∃ x12 : Int, ((cell? w10 (add a11 (Int.toNat x8 * 1)) = some (int i64 x12)) ∧ (∃ a13 : Addr, ((dataa = some a13) ∧ (((0 : Int) ≤ wrap i64 (x8 - 1)) ∧ (((wrap i64 (x8 - 1) : Int) < (↑datal : Int)) ∧ (∃ x14 : Int, ((cell? w10 (add a13 (Int.toNat (wrap i64 (x8 - 1)) * 1)) = some (int i64 x14)) ∧ (Ca Tryz.prog (112) (Array.mk [int i64 x12, int i64 x14]) (w10) (fun v15 => (fun w16 =>
(∃ b17 : Bool, ((v15 = bool b17) ∧ (ifK (b17)
(atW (drew w16) (fun w18 =>
(∃ a19 : Addr, ((dataa = some a19) ∧ (((0 : Int) ≤ wrap i64 (x8 - 1)) ∧ (((wrap i64 (x8 - 1) : Int) < (↑datal : Int)) ∧ (∃ x20 : Int, ((cell? w18 (add a19 (Int.toNat (wrap i64 (x8 - 1)) * 1)) = some (int i64 x20)) ∧ (∃ a21 : Addr, ((dataa = some a21) ∧ (((0 : Int) ≤ x8) ∧ (((x8 : Int) < (↑datal : Int)) ∧ (∃ x22 : Int, ((cell? w18 (add a21 (Int.toNat x8 * 1)) = some (int i64 x22)) ∧ (∃ a23 : Addr, ((dataa = some a23) ∧ (((0 : Int) ≤ x8) ∧ (((x8 : Int) < (↑datal : Int)) ∧ (st1 (add (add a23 (Int.toNat x8 * 1)) 0) (int i64 x20) w18 (fun w25 =>
(∃ a26 : Addr, ((dataa = some a26) ∧ (((0 : Int) ≤ wrap i64 (x8 - 1)) ∧ (((wrap i64 (x8 - 1) : Int) < (↑datal : Int)) ∧ (st1 (add (add a26 (Int.toNat (wrap i64 (x8 - 1)) * 1)) 0) (int i64 x22) w25 (fun w28 =>
((z5 (wrap i64 (x8 - 1)) (w28)) ∧ (z6 (wrap i64 (x8 - 1)) w28 < z6 x8 w9))))))))))))))))))))))))))))
((z0 (wrap i64 (x3 + 1)) (w16)) ∧ (z1 (wrap i64 (x3 + 1)) w16 < z1 x3 w4))))))))))))))))))))
((z0 (wrap i64 (x3 + 1)) (w10)) ∧ (z1 (wrap i64 (x3 + 1)) w10 < z1 x3 w4))))))))))))
(R (tuple (Array.mk (List.reverse []))) (w4))))))))))
theorem ca106 (dataa : Option Addr) (datal : Nat) (datac : Nat) (a_ : Int) (b : Int) (w : World) (R : Value → World → Prop) (h : W106 dataa datal datac a_ b w R) : Ca Tryz.prog 106 ⟨[(.slice dataa datal datac), (.int .i64 a_), (.int .i64 b)]⟩ w R :=
  caB (fn := Tryz.f106) (pl := pl106) (ls := ls106) Tryz.func106 (by kernel_rfl) (by kernel_rfl) h
end Go.Proofs.YtgjdandnncjegaaGreatDoor

/- The library's sort of one-cell elements (numbers, strings), at one type of them: Less, insertion sort. -/

namespace Go.Proofs.YtgjdandnncjegaaGreatDoor.Sortint
open Go Go.Proofs.YtgjdandnncjegaaGreatDoor Go.Proofs.YtgjdandnncjegaaGreatDoor.St

theorem isNaN_ok (x : Int) (w : World) (R : Value → World → Prop) (h : R (.bool false) w) : Ca Tryz.prog 131 #[(Value.int .i64) x] w R := by
  refine ca131 x w R ?_
  exact (by simpa [W131] using h)
theorem less_ok (x y : Int) (w : World) (R : Value → World → Prop) (h : R (.bool (decide (x < y))) w) : Ca Tryz.prog 112 #[(Value.int .i64) x, (Value.int .i64) y] w R := by
  refine ca112 x y w R ?_
  exact isNaN_ok x w _ ⟨false, rfl, h⟩

section
variable {e : TypeId} {d : Option Addr} {l c : Nat} {xs : List Int} {w : World}
/-- Is the one less than the other? -/
theorem lss (hd : Els (Value.int .i64) e w d l c xs) {i j : Int} (m n : Nat) (hi : i = m) (hj : j = n) (hm : m < l) (hn : n < l) {A B : World → Prop} (hA : at0 xs m < at0 xs n → A w) (hB : ¬ at0 xs m < at0 xs n → B w) :
    ∃ ad : Addr, d = some ad ∧ (0 : Int) ≤ i ∧ i < (↑l : Int) ∧ ∃ x : Int, w.cell? (Addr.add ad (Int.toNat i * 1)) = some ((Value.int .i64) x) ∧
    ∃ ad : Addr, d = some ad ∧ (0 : Int) ≤ j ∧ j < (↑l : Int) ∧ ∃ y : Int, w.cell? (Addr.add ad (Int.toNat j * 1)) = some ((Value.int .i64) y) ∧
    Ca Tryz.prog 112 (Array.mk [(Value.int .i64) x, (Value.int .i64) y]) w (fun v w' => ∃ b : Bool, v = Value.bool b ∧ ifK b (A w') (B w')) :=
  hd.rd m hi hm (hd.rd n hj hn (less_ok _ _ _ _ ⟨_, rfl, ifK_dec hA hB⟩))
/-- Is the one not less than the other? -/
theorem nls (hd : Els (Value.int .i64) e w d l c xs) {i j : Int} (m n : Nat) (hi : i = m) (hj : j = n) (hm : m < l) (hn : n < l) {A B : World → Prop} (hA : ¬ at0 xs m < at0 xs n → A w) (hB : at0 xs m < at0 xs n → B w) :
    ∃ ad : Addr, d = some ad ∧ (0 : Int) ≤ i ∧ i < (↑l : Int) ∧ ∃ x : Int, w.cell? (Addr.add ad (Int.toNat i * 1)) = some ((Value.int .i64) x) ∧
    ∃ ad : Addr, d = some ad ∧ (0 : Int) ≤ j ∧ j < (↑l : Int) ∧ ∃ y : Int, w.cell? (Addr.add ad (Int.toNat j * 1)) = some ((Value.int .i64) y) ∧
    Ca Tryz.prog 112 (Array.mk [(Value.int .i64) x, (Value.int .i64) y]) w (fun v w' => ∃ b : Bool, v = Value.bool b ∧ ifK (!b) (A w') (B w')) :=
  hd.rd m hi hm (hd.rd n hj hn (less_ok _ _ _ _ ⟨_, rfl, ifK_not (fun h => hA (of_decide_eq_false h)) (fun h => hB (of_decide_eq_true h))⟩))
end

theorem insertion_ok (e : TypeId) (d : Option Addr) (l c : Nat) (a b : Nat) (xs : List Int) (w : World) (hd : Els (Value.int .i64) e w d l c xs) (hab : a ≤ b) (hb : b ≤ l) (hl : l < 4611686018427387904) (R : Value → World → Prop)
    (h : ∀ w' ys, Els (Value.int .i64) e w' d l c ys → Seg a b xs ys → Srt ys a b → Mod (rowB d) w w' → R (.tuple #[]) w') :
    Ca Tryz.prog 106 #[.slice d l c, .int .i64 a, .int .i64 b] w R := by
  obtain ⟨hxl, hlc, hcm⟩ := hd.len
  refine ca106 d l c a b w R ?_
  refine ⟨fun x w' => ∃ (i : Nat) (ys : List Int), x = i ∧ a < i ∧ (i ≤ b ∨ i = a + 1) ∧ Els (Value.int .i64) e w' d l c ys ∧ Seg a b xs ys ∧ Srt ys a (min i b) ∧ Mod (rowB d) w w',
    fun x _ => ((b : Int) - x).toNat, ⟨a + 1, xs, (by first | (simp only [IntKind.wrap_i64]; omega) | omega), by omega, .inr rfl, hd, Seg.refl _ _ _, Srt.nil _ _ _ (by omega), Mod.refl _ _⟩, ?_⟩
  rintro _ x w4 ⟨i, ys, rfl, hai, hib, hys, hseg, hsrt, hm⟩
  refine ifK_dec (fun hlt => ?_) (fun hge => ?_)
  · have hsrt : Srt ys a i := by rwa [Nat.min_eq_left (by omega)] at hsrt
    refine ⟨fun x w' => ∃ (j : Nat) (zs : List Int), x = j ∧ a ≤ j ∧ j ≤ i ∧ Els (Value.int .i64) e w' d l c zs ∧ Seg a b xs zs ∧ Ins zs a i j ∧ Mod (rowB d) w w', fun x _ => (x - a).toNat,
      ⟨i, ys, rfl, by omega, Nat.le_refl _, hys, hseg, Ins.start hsrt, hm⟩, ?_⟩
    rintro _ x w9 ⟨j, zs, rfl, haj, hji, hzs, hsg, hins, hm9⟩
    have hzl := hzs.len.1
    intro w10 e10
    have m10 : Mod no w9 w10 := by subst e10; exact Mod.drew _
    clear e10
    have hz10 := hzs.no m10
    have hm10 := hm9.trans_no m10
    have next : (j ≤ a ∨ at0 zs (j - 1) ≤ at0 zs j) → (∃ (i' : Nat) (ys : List Int), IntKind.i64.wrap ((i : Int) + 1) = i' ∧ a < i' ∧ (i' ≤ b ∨ i' = a + 1) ∧ Els (Value.int .i64) e w10 d l c ys ∧ Seg a b xs ys ∧ Srt ys a (min i' b) ∧ Mod (rowB d) w w10) ∧
        ((b : Int) - IntKind.i64.wrap ((i : Int) + 1)).toNat < ((b : Int) - i).toNat := by
      intro hj
      refine ⟨⟨i + 1, zs, (by first | (simp only [IntKind.wrap_i64]; omega) | omega), by omega, .inl (by omega), hz10, hsg, ?_, hm10⟩, (by first | (simp only [IntKind.wrap_i64]; omega) | omega)⟩
      rw [Nat.min_eq_left (by omega)]
      exact hins.done hj
    refine ifK_dec (fun hgt => ?_) (fun hle => next (.inl (by omega)))
    refine lss hz10 j (j - 1) rfl (by first | (simp only [IntKind.wrap_i64]; omega) | omega) (by omega) (by omega) (fun hls => ?_) (fun hls => next (.inr (Lin.nlt hls)))
    intro w18 e18
    have m18 : Mod no w10 w18 := by subst e18; exact Mod.drew _
    clear e18
    refine (hz10.no m18).swp j (j - 1) rfl (by first | (simp only [IntKind.wrap_i64]; omega) | omega) (by omega) (by omega) fun w28 hz28 m28 => ?_
    exact ⟨⟨j - 1, swapL zs j (j - 1), (by first | (simp only [IntKind.wrap_i64]; omega) | omega), by omega, by omega, hz28, hsg.trans (Seg.swap (by omega) (by omega) (by omega) (by omega) (by omega) (by omega)),
      hins.step (by omega) (by omega) hji hls, (hm10.trans_no m18).trans m28⟩, (by first | (simp only [IntKind.wrap_i64]; omega) | omega)⟩
  · rw [Nat.min_eq_right (by omega)] at hsrt
    exact h w4 ys hys hseg hsrt hm
end Go.Proofs.YtgjdandnncjegaaGreatDoor.Sortint

/- The formulas of functions, printed by a program of mine (gen.py) out of the translation. -/
namespace Go.Proofs.YtgjdandnncjegaaGreatDoor
open Go Go.Proofs.YtgjdandnncjegaaGreatDoor.St
open _root_.Go.Value (string int bool slice pointer agg tuple map func nilFunc iface)
open _root_.Go.World (cell? frozen? setCell alloc drew)
open _root_.Go.Addr (add)
open _root_.Go.Obj (cells)
open _root_.Go.IntKind (wrap i64 u64 i32 u32 u8)
set_option maxRecDepth 100000

/-- slices.order2Ordered[int] -/
noncomputable def C147 : Code := (Tryz.f147.body).getD .skip
def pl147 : Nat → Plan
  | 1 => (.quiet 0 (.quiet 1 (.quiet 2 (.quiet 3 (.quiet 4 (.quiet 5 (.quiet 6 (.quiet 7 (.eff 8 [] .done)))))))))
  | _ => .done
def ls147 : Nat → List (Nat × LT) := fun _ => []
def W147 (dataa : Option Addr) (datal : Nat) (_datac : Nat) (a_ : Int) (b : Int) (swaps : Option Addr) (w : World) (R : Value → World → Prop) : Prop :=
  (atW (drew w) (fun w0 =>
(∃ a1 : Addr, ((dataa = some a1) ∧ (((0 : Int) ≤ b) ∧ (((b : Int) < (↑datal : Int)) ∧ (∃ x2 : Int, ((cell? w0 (add a1 (Int.toNat b * 1)) = some (int i64 x2)) ∧ (∃ a3 : Addr, ((dataa = some a3) ∧ (((0 : Int) ≤ a_) ∧ (((a_ : Int) < (↑datal : Int)) ∧ (∃ x4 : Int, ((cell? w0 (add a3 (Int.toNat a_ * 1)) = some (int i64 x4)) ∧ (Ca Tryz.prog (112) (Array.mk [int i64 x2, int i64 x4]) (w0) (fun v5 => (fun w6 =>
(∃ b7 : Bool, ((v5 = bool b7) ∧ (ifK (b7)
(onP (swaps) (fun a8 =>
(∃ x9 : Int, ((cell? w6 a8 = some (int i64 x9)) ∧ (onP (swaps) (fun a10 =>
(st1 (add a10 0) (int i64 (wrap i64 (x9 + 1))) w6 (fun w12 =>
(R (tuple (Array.mk [int i64 b, int i64 a_])) (w12))))))))))
(R (tuple (Array.mk [int i64 a_, int i64 b])) (w6))))))))))))))))))))))
theorem ca147 (dataa : Option Addr) (datal : Nat) (datac : Nat) (a_ : Int) (b : Int) (swaps : Option Addr) (w : World) (R : Value → World → Prop) (h : W147 dataa datal datac a_ b swaps w R) : Ca Tryz.prog 147 ⟨[(.slice dataa datal datac), (.int .i64 a_), (.int .i64 b), (.pointer swaps)]⟩ w R :=
  caB (fn := Tryz.f147) (pl := pl147) (ls := ls147) Tryz.func147 (by kernel_rfl) (by kernel_rfl) h

/-- slices.medianOrdered[int] -/
noncomputable def C130 : Code := (Tryz.f130.body).getD .skip
def pl130 : Nat → Plan := fun _ => .done
def ls130 : Nat → List (Nat × LT) := fun _ => []
def W130 (dataa : Option Addr) (datal : Nat) (datac : Nat) (a_ : Int) (b : Int) (c : Int) (swaps : Option Addr) (w : World) (R : Value → World → Prop) : Prop :=
  (Ca Tryz.prog (147) (Array.mk [slice dataa datal datac, int i64 a_, int i64 b, pointer swaps]) (w) (fun v0 => (fun w1 =>
(∃ x2 : Int, (∃ x3 : Int, ((v0 = tuple (Array.mk (List.reverse [int i64 x3, int i64 x2]))) ∧ (Ca Tryz.prog (147) (Array.mk [slice dataa datal datac, int i64 x3, int i64 c, pointer swaps]) (w1) (fun v4 => (fun w5 =>
(∃ x6 : Int, (∃ x7 : Int, ((v4 = tuple (Array.mk (List.reverse [int i64 x7, int i64 x6]))) ∧ (Ca Tryz.prog (147) (Array.mk [slice dataa datal datac, int i64 x2, int i64 x6, pointer swaps]) (w5) (fun v8 => (fun w9 =>
(∃ x10 : Int, (∃ x11 : Int, ((v8 = tuple (Array.mk (List.reverse [int i64 x11, int i64 x10]))) ∧ (R (int i64 x11) (w9))))))))))))))))))))
theorem ca130 (dataa : Option Addr) (datal : Nat) (datac : Nat) (a_ : Int) (b : Int) (c : Int) (swaps : Option Addr) (w : World) (R : Value → World → Prop) (h : W130 dataa datal datac a_ b c swaps w R) : Ca Tryz.prog 130 ⟨[(.slice dataa datal datac), (.int .i64 a_), (.int .i64 b), (.int .i64 c), (.pointer swaps)]⟩ w R :=
  caB (fn := Tryz.f130) (pl := pl130) (ls := ls130) Tryz.func130 (by kernel_rfl) (by kernel_rfl) h

/-- slices.medianAdjacentOrdered[int] -/
noncomputable def C129 : Code := (Tryz.f129.body).getD .skip
def pl129 : Nat → Plan := fun _ => .done
def ls129 : Nat → List (Nat × LT) := fun _ => []
def W129 (dataa : Option Addr) (datal : Nat) (datac : Nat) (a_ : Int) (swaps : Option Addr) (w : World) (R : Value → World → Prop) : Prop :=
  (Ca Tryz.prog (130) (Array.mk [slice dataa datal datac, int i64 (wrap i64 (a_ - 1)), int i64 a_, int i64 (wrap i64 (a_ + 1)), pointer swaps]) (w) (fun v0 => (fun w1 =>
(∃ x2 : Int, ((v0 = int i64 x2) ∧ (R (int i64 x2) (w1)))))))
theorem ca129 (dataa : Option Addr) (datal : Nat) (datac : Nat) (a_ : Int) (swaps : Option Addr) (w : World) (R : Value → World → Prop) (h : W129 dataa datal datac a_ swaps w R) : Ca Tryz.prog 129 ⟨[(.slice dataa datal datac), (.int .i64 a_), (.pointer swaps)]⟩ w R :=
  caB (fn := Tryz.f129) (pl := pl129) (ls := ls129) Tryz.func129 (by kernel_rfl) (by kernel_rfl) h

/-- slices.choosePivotOrdered[int] -/
noncomputable def C109 : Code := (Tryz.f109.body).getD .skip
def pl109 : Nat → Plan := fun _ => .done
def ls109 : Nat → List (Nat × LT)
  | 6 => [(0, .agg []), (11, (.one (.int .i64)))]
  | _ => []
def W109 (dataa : Option Addr) (datal : Nat) (datac : Nat) (a_ : Int) (b : Int) (w : World) (R : Value → World → Prop) : Prop :=
  (atW (alloc w (cells (Array.mk [int i64 0]) 3 (0, 0))) (fun w0 =>
(((4 : Int) ≠ 0) ∧ (((4 : Int) ≠ 0) ∧ (((4 : Int) ≠ 0) ∧ (∃ z1 : Int → World → Prop, ((ifK (decide (wrap i64 (b - a_) ≥ 8))
(ifK (decide (wrap i64 (b - a_) ≥ 50))
(Ca Tryz.prog (129) (Array.mk [slice dataa datal datac, int i64 (wrap i64 (a_ + wrap i64 (wrap i64 (Int.tdiv (wrap i64 (b - a_)) 4) * 1))), pointer (some (nw w))]) (w0) (fun v2 => (fun w3 =>
(∃ x4 : Int, ((v2 = int i64 x4) ∧ (Ca Tryz.prog (129) (Array.mk [slice dataa datal datac, int i64 (wrap i64 (a_ + wrap i64 (wrap i64 (Int.tdiv (wrap i64 (b - a_)) 4) * 2))), pointer (some (nw w))]) (w3) (fun v5 => (fun w6 =>
(∃ x7 : Int, ((v5 = int i64 x7) ∧ (Ca Tryz.prog (129) (Array.mk [slice dataa datal datac, int i64 (wrap i64 (a_ + wrap i64 (wrap i64 (Int.tdiv (wrap i64 (b - a_)) 4) * 3))), pointer (some (nw w))]) (w6) (fun v8 => (fun w9 =>
(∃ x10 : Int, ((v8 = int i64 x10) ∧ (Ca Tryz.prog (130) (Array.mk [slice dataa datal datac, int i64 x4, int i64 x7, int i64 x10, pointer (some (nw w))]) (w9) (fun v11 => (fun w12 =>
(∃ x13 : Int, ((v11 = int i64 x13) ∧ (z1 (x13) (w12))))))))))))))))))))))
(Ca Tryz.prog (130) (Array.mk [slice dataa datal datac, int i64 (wrap i64 (a_ + wrap i64 (wrap i64 (Int.tdiv (wrap i64 (b - a_)) 4) * 1))), int i64 (wrap i64 (a_ + wrap i64 (wrap i64 (Int.tdiv (wrap i64 (b - a_)) 4) * 2))), int i64 (wrap i64 (a_ + wrap i64 (wrap i64 (Int.tdiv (wrap i64 (b - a_)) 4) * 3))), pointer (some (nw w))]) (w0) (fun v14 => (fun w15 =>
(∃ x16 : Int, ((v14 = int i64 x16) ∧ (z1 (x16) (w15))))))))
(z1 (wrap i64 (a_ + wrap i64 (wrap i64 (Int.tdiv (wrap i64 (b - a_)) 4) * 2))) (w0))) ∧ (∀ (_ : Nat → Value), (∀ (x18 : Int), (∀ (w19 : World), ((z1 (x18) (w19)) → (∃ x20 : Int, ((cell? w19 (nw w) = some (int i64 x20)) ∧ (ifK (x20 == 0)
(R (tuple (Array.mk [int i64 x18, int i64 1])) (w19))
(ifK (x20 == 12)
(R (tuple (Array.mk [int i64 x18, int i64 2])) (w19))
(R (tuple (Array.mk [int i64 x18, int i64 0])) (w19)))))))))))))))))
theorem ca109 (dataa : Option Addr) (datal : Nat) (datac : Nat) (a_ : Int) (b : Int) (w : World) (R : Value → World → Prop) (h : W109 dataa datal datac a_ b w R) : Ca Tryz.prog 109 ⟨[(.slice dataa datal datac), (.int .i64 a_), (.int .i64 b)]⟩ w R :=
  caB (fn := Tryz.f109) (pl := pl109) (ls := ls109) Tryz.func109 (by kernel_rfl) (by kernel_rfl) h

/-- slices.reverseRangeOrdered[int] -/
noncomputable def C110 : Code := (Tryz.f110.body).getD .skip
def pl110 : Nat → Plan
  | 3 => (.quiet 0 (.quiet 1 (.quiet 2 (.quiet 3 (.quiet 4 (.quiet 5 (.quiet 6 (.quiet 7 (.quiet 8 (.quiet 9 (.quiet 10 (.quiet 11 (.quiet 12 (.eff 13 [] (.quiet 14 (.eff 15 [] .done))))))))))))))))
  | _ => .done
def ls110 : Nat → List (Nat × LT)
  | 2 => [(6, (.one (.int .i64))), (7, (.one (.int .i64)))]
  | _ => []
def W110 (dataa : Option Addr) (datal : Nat) (_datac : Nat) (a_ : Int) (b : Int) (w : World) (R : Value → World → Prop) : Prop :=
  (∃ z0 : Int → Int → World → Prop, (∃ z1 : Int → Int → World → Nat, ((z0 (a_) (wrap i64 (b - 1)) (w)) ∧ (∀ (_ : Nat → Value), (∀ (x3 : Int), (∀ (x4 : Int), (∀ (w5 : World), ((z0 (x3) (x4) (w5)) → (ifK (decide (x3 < x4))
(atW (drew w5) (fun w6 =>
(∃ a7 : Addr, ((dataa = some a7) ∧ (((0 : Int) ≤ x4) ∧ (((x4 : Int) < (↑datal : Int)) ∧ (∃ x8 : Int, ((cell? w6 (add a7 (Int.toNat x4 * 1)) = some (int i64 x8)) ∧ (∃ a9 : Addr, ((dataa = some a9) ∧ (((0 : Int) ≤ x3) ∧ (((x3 : Int) < (↑datal : Int)) ∧ (∃ x10 : Int, ((cell? w6 (add a9 (Int.toNat x3 * 1)) = some (int i64 x10)) ∧ (∃ a11 : Addr, ((dataa = some a11) ∧ (((0 : Int) ≤ x3) ∧ (((x3 : Int) < (↑datal : Int)) ∧ (st1 (add (add a11 (Int.toNat x3 * 1)) 0) (int i64 x8) w6 (fun w13 =>
(∃ a14 : Addr, ((dataa = some a14) ∧ (((0 : Int) ≤ x4) ∧ (((x4 : Int) < (↑datal : Int)) ∧ (st1 (add (add a14 (Int.toNat x4 * 1)) 0) (int i64 x10) w13 (fun w16 =>
((z0 (wrap i64 (x3 + 1)) (wrap i64 (x4 - 1)) (w16)) ∧ (z1 (wrap i64 (x3 + 1)) (wrap i64 (x4 - 1)) w16 < z1 x3 x4 w5))))))))))))))))))))))))))))
(R (tuple (Array.mk (List.reverse []))) (w5)))))))))))
theorem ca110 (dataa : Option Addr) (datal : Nat) (datac : Nat) (a_ : Int) (b : Int) (w : World) (R : Value → World → Prop) (h : W110 dataa datal datac a_ b w R) : Ca Tryz.prog 110 ⟨[(.slice dataa datal datac), (.int .i64 a_), (.int .i64 b)]⟩ w R :=
  caB (fn := Tryz.f110) (pl := pl110) (ls := ls110) Tryz.func110 (by kernel_rfl) (by kernel_rfl) h

/-- slices.partitionOrdered[int] -/
noncomputable def C114 : Code := (Tryz.f114.body).getD .skip
def pl114 : Nat → Plan
  | 1 => (.quiet 0 (.quiet 1 (.quiet 2 (.quiet 3 (.quiet 4 (.quiet 5 (.quiet 6 (.quiet 7 (.quiet 8 (.quiet 9 (.quiet 10 (.quiet 11 (.quiet 12 (.eff 13 [] (.quiet 14 (.eff 15 [] .done))))))))))))))))
  | 3 => (.quiet 0 (.quiet 1 (.quiet 2 (.quiet 3 (.quiet 4 (.quiet 5 (.quiet 6 (.quiet 7 (.quiet 8 (.quiet 9 (.quiet 10 (.quiet 11 (.eff 12 [] (.quiet 13 .done))))))))))))))
  | 5 => (.quiet 0 (.quiet 1 (.quiet 2 (.quiet 3 (.quiet 4 (.quiet 5 (.quiet 6 (.quiet 7 (.quiet 8 (.quiet 9 (.quiet 10 (.quiet 11 (.eff 12 [] (.quiet 13 (.quiet 14 .done)))))))))))))))
  | 8 => (.quiet 0 (.quiet 1 (.quiet 2 (.quiet 3 (.quiet 4 (.quiet 5 (.quiet 6 (.quiet 7 (.quiet 8 (.quiet 9 (.quiet 10 (.quiet 11 (.quiet 12 (.eff 13 [] (.quiet 14 (.eff 15 [] .done))))))))))))))))
  | 10 => (.quiet 0 (.quiet 1 (.quiet 2 (.quiet 3 (.quiet 4 (.quiet 5 (.quiet 6 (.quiet 7 (.quiet 8 (.quiet 9 (.quiet 10 (.quiet 11 (.quiet 12 (.eff 13 [] (.quiet 14 (.eff 15 [] .done))))))))))))))))
  | 13 => (.quiet 0 (.quiet 1 (.quiet 2 (.quiet 3 (.quiet 4 (.quiet 5 (.quiet 6 (.quiet 7 (.quiet 8 (.quiet 9 (.quiet 10 (.quiet 11 (.eff 12 [] (.quiet 13 .done))))))))))))))
  | 15 => (.quiet 0 (.quiet 1 (.quiet 2 (.quiet 3 (.quiet 4 (.quiet 5 (.quiet 6 (.quiet 7 (.quiet 8 (.quiet 9 (.quiet 10 (.quiet 11 (.eff 12 [] (.quiet 13 (.quiet 14 .done)))))))))))))))
  | 18 => (.quiet 0 (.quiet 1 (.quiet 2 (.quiet 3 (.quiet 4 (.quiet 5 (.quiet 6 (.quiet 7 (.quiet 8 (.quiet 9 (.quiet 10 (.quiet 11 (.quiet 12 (.eff 13 [] (.quiet 14 (.eff 15 [] .done))))))))))))))))
  | 21 => (.quiet 0 (.quiet 1 (.quiet 2 (.quiet 3 (.quiet 4 (.quiet 5 (.quiet 6 (.quiet 7 (.quiet 8 (.quiet 9 (.quiet 10 (.quiet 11 (.quiet 12 (.eff 13 [] (.quiet 14 (.eff 15 [] .done))))))))))))))))
  | _ => .done
def ls114 : Nat → List (Nat × LT)
  | 3 => [(0, .agg []), (10, (.one (.int .i64)))]
  | 4 => [(10, (.one (.int .i64)))]
  | 7 => [(0, .agg []), (11, (.one (.int .i64)))]
  | 8 => [(11, (.one (.int .i64)))]
  | 19 => [(10, (.one (.int .i64))), (11, (.one (.int .i64)))]
  | 20 => [(0, .agg []), (10, (.one (.int .i64)))]
  | 21 => [(10, (.one (.int .i64)))]
  | 24 => [(0, .agg []), (11, (.one (.int .i64)))]
  | 25 => [(11, (.one (.int .i64)))]
  | _ => []
def W114 (dataa : Option Addr) (datal : Nat) (_datac : Nat) (a_ : Int) (b : Int) (pivot : Int) (w : World) (R : Value → World → Prop) : Prop :=
  (atW (drew w) (fun w0 =>
(∃ a1 : Addr, ((dataa = some a1) ∧ (((0 : Int) ≤ pivot) ∧ (((pivot : Int) < (↑datal : Int)) ∧ (∃ x2 : Int, ((cell? w0 (add a1 (Int.toNat pivot * 1)) = some (int i64 x2)) ∧ (∃ a3 : Addr, ((dataa = some a3) ∧ (((0 : Int) ≤ a_) ∧ (((a_ : Int) < (↑datal : Int)) ∧ (∃ x4 : Int, ((cell? w0 (add a3 (Int.toNat a_ * 1)) = some (int i64 x4)) ∧ (∃ a5 : Addr, ((dataa = some a5) ∧ (((0 : Int) ≤ a_) ∧ (((a_ : Int) < (↑datal : Int)) ∧ (st1 (add (add a5 (Int.toNat a_ * 1)) 0) (int i64 x2) w0 (fun w7 =>
(∃ a8 : Addr, ((dataa = some a8) ∧ (((0 : Int) ≤ pivot) ∧ (((pivot : Int) < (↑datal : Int)) ∧ (st1 (add (add a8 (Int.toNat pivot * 1)) 0) (int i64 x4) w7 (fun w10 =>
(∃ z11 : Int → World → Prop, ((∃ z12 : Int → World → Prop, (∃ z13 : Int → World → Nat, ((z12 (wrap i64 (a_ + 1)) (w10)) ∧ (∀ (_ : Nat → Value), (∀ (x15 : Int), (∀ (w16 : World), ((z12 (x15) (w16)) → (atW (drew w16) (fun w17 =>
(ifK (decide (x15 ≤ wrap i64 (b - 1)))
(∃ a18 : Addr, ((dataa = some a18) ∧ (((0 : Int) ≤ x15) ∧ (((x15 : Int) < (↑datal : Int)) ∧ (∃ x19 : Int, ((cell? w17 (add a18 (Int.toNat x15 * 1)) = some (int i64 x19)) ∧ (∃ a20 : Addr, ((dataa = some a20) ∧ (((0 : Int) ≤ a_) ∧ (((a_ : Int) < (↑datal : Int)) ∧ (∃ x21 : Int, ((cell? w17 (add a20 (Int.toNat a_ * 1)) = some (int i64 x21)) ∧ (Ca Tryz.prog (112) (Array.mk [int i64 x19, int i64 x21]) (w17) (fun v22 => (fun w23 =>
(∃ b24 : Bool, ((v22 = bool b24) ∧ (ifK (b24)
((z12 (wrap i64 (x15 + 1)) (w23)) ∧ (z13 (wrap i64 (x15 + 1)) w23 < z13 x15 w16))
(z11 (x15) (w23))))))))))))))))))))
(z11 (x15) (w17)))))))))))) ∧ (∀ (_ : Nat → Value), (∀ (x26 : Int), (∀ (w27 : World), ((z11 (x26) (w27)) → (∃ z28 : Int → World → Prop, ((∃ z29 : Int → World → Prop, (∃ z30 : Int → World → Nat, ((z29 (wrap i64 (b - 1)) (w27)) ∧ (∀ (_ : Nat → Value), (∀ (x32 : Int), (∀ (w33 : World), ((z29 (x32) (w33)) → (atW (drew w33) (fun w34 =>
(ifK (decide (x26 ≤ x32))
(∃ a35 : Addr, ((dataa = some a35) ∧ (((0 : Int) ≤ x32) ∧ (((x32 : Int) < (↑datal : Int)) ∧ (∃ x36 : Int, ((cell? w34 (add a35 (Int.toNat x32 * 1)) = some (int i64 x36)) ∧ (∃ a37 : Addr, ((dataa = some a37) ∧ (((0 : Int) ≤ a_) ∧ (((a_ : Int) < (↑datal : Int)) ∧ (∃ x38 : Int, ((cell? w34 (add a37 (Int.toNat a_ * 1)) = some (int i64 x38)) ∧ (Ca Tryz.prog (112) (Array.mk [int i64 x36, int i64 x38]) (w34) (fun v39 => (fun w40 =>
(∃ b41 : Bool, ((v39 = bool b41) ∧ (ifK (!b41)
((z29 (wrap i64 (x32 - 1)) (w40)) ∧ (z30 (wrap i64 (x32 - 1)) w40 < z30 x32 w33))
(z28 (x32) (w40))))))))))))))))))))
(z28 (x32) (w34)))))))))))) ∧ (∀ (_ : Nat → Value), (∀ (x43 : Int), (∀ (w44 : World), ((z28 (x43) (w44)) → (ifK (decide (x26 > x43))
(atW (drew w44) (fun w45 =>
(∃ a46 : Addr, ((dataa = some a46) ∧ (((0 : Int) ≤ a_) ∧ (((a_ : Int) < (↑datal : Int)) ∧ (∃ x47 : Int, ((cell? w45 (add a46 (Int.toNat a_ * 1)) = some (int i64 x47)) ∧ (∃ a48 : Addr, ((dataa = some a48) ∧ (((0 : Int) ≤ x43) ∧ (((x43 : Int) < (↑datal : Int)) ∧ (∃ x49 : Int, ((cell? w45 (add a48 (Int.toNat x43 * 1)) = some (int i64 x49)) ∧ (∃ a50 : Addr, ((dataa = some a50) ∧ (((0 : Int) ≤ x43) ∧ (((x43 : Int) < (↑datal : Int)) ∧ (st1 (add (add a50 (Int.toNat x43 * 1)) 0) (int i64 x47) w45 (fun w52 =>
(∃ a53 : Addr, ((dataa = some a53) ∧ (((0 : Int) ≤ a_) ∧ (((a_ : Int) < (↑datal : Int)) ∧ (st1 (add (add a53 (Int.toNat a_ * 1)) 0) (int i64 x49) w52 (fun w55 =>
(R (tuple (Array.mk [int i64 x43, bool true])) (w55))))))))))))))))))))))))))))
(atW (drew w44) (fun w56 =>
(∃ a57 : Addr, ((dataa = some a57) ∧ (((0 : Int) ≤ x43) ∧ (((x43 : Int) < (↑datal : Int)) ∧ (∃ x58 : Int, ((cell? w56 (add a57 (Int.toNat x43 * 1)) = some (int i64 x58)) ∧ (∃ a59 : Addr, ((dataa = some a59) ∧ (((0 : Int) ≤ x26) ∧ (((x26 : Int) < (↑datal : Int)) ∧ (∃ x60 : Int, ((cell? w56 (add a59 (Int.toNat x26 * 1)) = some (int i64 x60)) ∧ (∃ a61 : Addr, ((dataa = some a61) ∧ (((0 : Int) ≤ x26) ∧ (((x26 : Int) < (↑datal : Int)) ∧ (st1 (add (add a61 (Int.toNat x26 * 1)) 0) (int i64 x58) w56 (fun w63 =>
(∃ a64 : Addr, ((dataa = some a64) ∧ (((0 : Int) ≤ x43) ∧ (((x43 : Int) < (↑datal : Int)) ∧ (st1 (add (add a64 (Int.toNat x43 * 1)) 0) (int i64 x60) w63 (fun w66 =>
(∃ z67 : Int → Int → World → Prop, (∃ z68 : Int → Int → World → Nat, ((z67 (wrap i64 (x26 + 1)) (wrap i64 (x43 - 1)) (w66)) ∧ (∀ (_ : Nat → Value), (∀ (x70 : Int), (∀ (x71 : Int), (∀ (w72 : World), ((z67 (x70) (x71) (w72)) → (∃ z73 : Int → World → Prop, ((∃ z74 : Int → World → Prop, (∃ z75 : Int → World → Nat, ((z74 (x70) (w72)) ∧ (∀ (_ : Nat → Value), (∀ (x77 : Int), (∀ (w78 : World), ((z74 (x77) (w78)) → (atW (drew w78) (fun w79 =>
(ifK (decide (x77 ≤ x71))
(∃ a80 : Addr, ((dataa = some a80) ∧ (((0 : Int) ≤ x77) ∧ (((x77 : Int) < (↑datal : Int)) ∧ (∃ x81 : Int, ((cell? w79 (add a80 (Int.toNat x77 * 1)) = some (int i64 x81)) ∧ (∃ a82 : Addr, ((dataa = some a82) ∧ (((0 : Int) ≤ a_) ∧ (((a_ : Int) < (↑datal : Int)) ∧ (∃ x83 : Int, ((cell? w79 (add a82 (Int.toNat a_ * 1)) = some (int i64 x83)) ∧ (Ca Tryz.prog (112) (Array.mk [int i64 x81, int i64 x83]) (w79) (fun v84 => (fun w85 =>
(∃ b86 : Bool, ((v84 = bool b86) ∧ (ifK (b86)
((z74 (wrap i64 (x77 + 1)) (w85)) ∧ (z75 (wrap i64 (x77 + 1)) w85 < z75 x77 w78))
(z73 (x77) (w85))))))))))))))))))))
(z73 (x77) (w79)))))))))))) ∧ (∀ (_ : Nat → Value), (∀ (x88 : Int), (∀ (w89 : World), ((z73 (x88) (w89)) → (∃ z90 : Int → World → Prop, ((∃ z91 : Int → World → Prop, (∃ z92 : Int → World → Nat, ((z91 (x71) (w89)) ∧ (∀ (_ : Nat → Value), (∀ (x94 : Int), (∀ (w95 : World), ((z91 (x94) (w95)) → (atW (drew w95) (fun w96 =>
(ifK (decide (x88 ≤ x94))
(∃ a97 : Addr, ((dataa = some a97) ∧ (((0 : Int) ≤ x94) ∧ (((x94 : Int) < (↑datal : Int)) ∧ (∃ x98 : Int, ((cell? w96 (add a97 (Int.toNat x94 * 1)) = some (int i64 x98)) ∧ (∃ a99 : Addr, ((dataa = some a99) ∧ (((0 : Int) ≤ a_) ∧ (((a_ : Int) < (↑datal : Int)) ∧ (∃ x100 : Int, ((cell? w96 (add a99 (Int.toNat a_ * 1)) = some (int i64 x100)) ∧ (Ca Tryz.prog (112) (Array.mk [int i64 x98, int i64 x100]) (w96) (fun v101 => (fun w102 =>
(∃ b103 : Bool, ((v101 = bool b103) ∧ (ifK (!b103)
((z91 (wrap i64 (x94 - 1)) (w102)) ∧ (z92 (wrap i64 (x94 - 1)) w102 < z92 x94 w95))
(z90 (x94) (w102))))))))))))))))))))
(z90 (x94) (w96)))))))))))) ∧ (∀ (_ : Nat → Value), (∀ (x105 : Int), (∀ (w106 : World), ((z90 (x105) (w106)) → (ifK (decide (x88 > x105))
(atW (drew w106) (fun w107 =>
(∃ a108 : Addr, ((dataa = some a108) ∧ (((0 : Int) ≤ a_) ∧ (((a_ : Int) < (↑datal : Int)) ∧ (∃ x109 : Int, ((cell? w107 (add a108 (Int.toNat a_ * 1)) = some (int i64 x109)) ∧ (∃ a110 : Addr, ((dataa = some a110) ∧ (((0 : Int) ≤ x105) ∧ (((x105 : Int) < (↑datal : Int)) ∧ (∃ x111 : Int, ((cell? w107 (add a110 (Int.toNat x105 * 1)) = some (int i64 x111)) ∧ (∃ a112 : Addr, ((dataa = some a112) ∧ (((0 : Int) ≤ x105) ∧ (((x105 : Int) < (↑datal : Int)) ∧ (st1 (add (add a112 (Int.toNat x105 * 1)) 0) (int i64 x109) w107 (fun w114 =>
(∃ a115 : Addr, ((dataa = some a115) ∧ (((0 : Int) ≤ a_) ∧ (((a_ : Int) < (↑datal : Int)) ∧ (st1 (add (add a115 (Int.toNat a_ * 1)) 0) (int i64 x111) w114 (fun w117 =>
(R (tuple (Array.mk [int i64 x105, bool false])) (w117))))))))))))))))))))))))))))
(atW (drew w106) (fun w118 =>
(∃ a119 : Addr, ((dataa = some a119) ∧ (((0 : Int) ≤ x105) ∧ (((x105 : Int) < (↑datal : Int)) ∧ (∃ x120 : Int, ((cell? w118 (add a119 (Int.toNat x105 * 1)) = some (int i64 x120)) ∧ (∃ a121 : Addr, ((dataa = some a121) ∧ (((0 : Int) ≤ x88) ∧ (((x88 : Int) < (↑datal : Int)) ∧ (∃ x122 : Int, ((cell? w118 (add a121 (Int.toNat x88 * 1)) = some (int i64 x122)) ∧ (∃ a123 : Addr, ((dataa = some a123) ∧ (((0 : Int) ≤ x88) ∧ (((x88 : Int) < (↑datal : Int)) ∧ (st1 (add (add a123 (Int.toNat x88 * 1)) 0) (int i64 x120) w118 (fun w125 =>
(∃ a126 : Addr, ((dataa = some a126) ∧ (((0 : Int) ≤ x105) ∧ (((x105 : Int) < (↑datal : Int)) ∧ (st1 (add (add a126 (Int.toNat x105 * 1)) 0) (int i64 x122) w125 (fun w128 =>
((z67 (wrap i64 (x88 + 1)) (wrap i64 (x105 - 1)) (w128)) ∧ (z68 (wrap i64 (x88 + 1)) (wrap i64 (x105 - 1)) w128 < z68 x70 x71 w72))))))))))))))))))))))))))))))))))))))))))))))))))))))))))))))))))))))))))))))))))))))))))))))))))))))))))))))))))
theorem ca114 (dataa : Option Addr) (datal : Nat) (datac : Nat) (a_ : Int) (b : Int) (pivot : Int) (w : World) (R : Value → World → Prop) (h : W114 dataa datal datac a_ b pivot w R) : Ca Tryz.prog 114 ⟨[(.slice dataa datal datac), (.int .i64 a_), (.int .i64 b), (.int .i64 pivot)]⟩ w R :=
  caB (fn := Tryz.f114) (pl := pl114) (ls := ls114) Tryz.func114 (by kernel_rfl) (by kernel_rfl) h

/-- slices.partitionEqualOrdered[int] -/
noncomputable def C113 : Code := (Tryz.f113.body).getD .skip
def pl113 : Nat → Plan
  | 1 => (.quiet 0 (.quiet 1 (.quiet 2 (.quiet 3 (.quiet 4 (.quiet 5 (.quiet 6 (.quiet 7 (.quiet 8 (.quiet 9 (.quiet 10 (.quiet 11 (.quiet 12 (.eff 13 [] (.quiet 14 (.eff 15 [] .done))))))))))))))))
  | 3 => (.quiet 0 (.quiet 1 (.quiet 2 (.quiet 3 (.quiet 4 (.quiet 5 (.quiet 6 (.quiet 7 (.quiet 8 (.quiet 9 (.quiet 10 (.quiet 11 (.eff 12 [] (.quiet 13 (.quiet 14 .done)))))))))))))))
  | 5 => (.quiet 0 (.quiet 1 (.quiet 2 (.quiet 3 (.quiet 4 (.quiet 5 (.quiet 6 (.quiet 7 (.quiet 8 (.quiet 9 (.quiet 10 (.quiet 11 (.eff 12 [] (.quiet 13 .done))))))))))))))
  | 8 => (.quiet 0 (.quiet 1 (.quiet 2 (.quiet 3 (.quiet 4 (.quiet 5 (.quiet 6 (.quiet 7 (.quiet 8 (.quiet 9 (.quiet 10 (.quiet 11 (.quiet 12 (.eff 13 [] (.quiet 14 (.eff 15 [] .done))))))))))))))))
  | _ => .done
def ls113 : Nat → List (Nat × LT)
  | 4 => [(9, (.one (.int .i64))), (10, (.one (.int .i64)))]
  | 5 => [(0, .agg []), (9, (.one (.int .i64)))]
  | 6 => [(9, (.one (.int .i64)))]
  | 9 => [(0, .agg []), (10, (.one (.int .i64)))]
  | 10 => [(10, (.one (.int .i64)))]
  | _ => []
def W113 (dataa : Option Addr) (datal : Nat) (_datac : Nat) (a_ : Int) (b : Int) (pivot : Int) (w : World) (R : Value → World → Prop) : Prop :=
  (atW (drew w) (fun w0 =>
(∃ a1 : Addr, ((dataa = some a1) ∧ (((0 : Int) ≤ pivot) ∧ (((pivot : Int) < (↑datal : Int)) ∧ (∃ x2 : Int, ((cell? w0 (add a1 (Int.toNat pivot * 1)) = some (int i64 x2)) ∧ (∃ a3 : Addr, ((dataa = some a3) ∧ (((0 : Int) ≤ a_) ∧ (((a_ : Int) < (↑datal : Int)) ∧ (∃ x4 : Int, ((cell? w0 (add a3 (Int.toNat a_ * 1)) = some (int i64 x4)) ∧ (∃ a5 : Addr, ((dataa = some a5) ∧ (((0 : Int) ≤ a_) ∧ (((a_ : Int) < (↑datal : Int)) ∧ (st1 (add (add a5 (Int.toNat a_ * 1)) 0) (int i64 x2) w0 (fun w7 =>
(∃ a8 : Addr, ((dataa = some a8) ∧ (((0 : Int) ≤ pivot) ∧ (((pivot : Int) < (↑datal : Int)) ∧ (st1 (add (add a8 (Int.toNat pivot * 1)) 0) (int i64 x4) w7 (fun w10 =>
(∃ z11 : Int → Int → World → Prop, (∃ z12 : Int → Int → World → Nat, ((z11 (wrap i64 (a_ + 1)) (wrap i64 (b - 1)) (w10)) ∧ (∀ (_ : Nat → Value), (∀ (x14 : Int), (∀ (x15 : Int), (∀ (w16 : World), ((z11 (x14) (x15) (w16)) → (∃ z17 : Int → World → Prop, ((∃ z18 : Int → World → Prop, (∃ z19 : Int → World → Nat, ((z18 (x14) (w16)) ∧ (∀ (_ : Nat → Value), (∀ (x21 : Int), (∀ (w22 : World), ((z18 (x21) (w22)) → (atW (drew w22) (fun w23 =>
(ifK (decide (x21 ≤ x15))
(∃ a24 : Addr, ((dataa = some a24) ∧ (((0 : Int) ≤ a_) ∧ (((a_ : Int) < (↑datal : Int)) ∧ (∃ x25 : Int, ((cell? w23 (add a24 (Int.toNat a_ * 1)) = some (int i64 x25)) ∧ (∃ a26 : Addr, ((dataa = some a26) ∧ (((0 : Int) ≤ x21) ∧ (((x21 : Int) < (↑datal : Int)) ∧ (∃ x27 : Int, ((cell? w23 (add a26 (Int.toNat x21 * 1)) = some (int i64 x27)) ∧ (Ca Tryz.prog (112) (Array.mk [int i64 x25, int i64 x27]) (w23) (fun v28 => (fun w29 =>
(∃ b30 : Bool, ((v28 = bool b30) ∧ (ifK (!b30)
((z18 (wrap i64 (x21 + 1)) (w29)) ∧ (z19 (wrap i64 (x21 + 1)) w29 < z19 x21 w22))
(z17 (x21) (w29))))))))))))))))))))
(z17 (x21) (w23)))))))))))) ∧ (∀ (_ : Nat → Value), (∀ (x32 : Int), (∀ (w33 : World), ((z17 (x32) (w33)) → (∃ z34 : Int → World → Prop, ((∃ z35 : Int → World → Prop, (∃ z36 : Int → World → Nat, ((z35 (x15) (w33)) ∧ (∀ (_ : Nat → Value), (∀ (x38 : Int), (∀ (w39 : World), ((z35 (x38) (w39)) → (atW (drew w39) (fun w40 =>
(ifK (decide (x32 ≤ x38))
(∃ a41 : Addr, ((dataa = some a41) ∧ (((0 : Int) ≤ a_) ∧ (((a_ : Int) < (↑datal : Int)) ∧ (∃ x42 : Int, ((cell? w40 (add a41 (Int.toNat a_ * 1)) = some (int i64 x42)) ∧ (∃ a43 : Addr, ((dataa = some a43) ∧ (((0 : Int) ≤ x38) ∧ (((x38 : Int) < (↑datal : Int)) ∧ (∃ x44 : Int, ((cell? w40 (add a43 (Int.toNat x38 * 1)) = some (int i64 x44)) ∧ (Ca Tryz.prog (112) (Array.mk [int i64 x42, int i64 x44]) (w40) (fun v45 => (fun w46 =>
(∃ b47 : Bool, ((v45 = bool b47) ∧ (ifK (b47)
((z35 (wrap i64 (x38 - 1)) (w46)) ∧ (z36 (wrap i64 (x38 - 1)) w46 < z36 x38 w39))
(z34 (x38) (w46))))))))))))))))))))
(z34 (x38) (w40)))))))))))) ∧ (∀ (_ : Nat → Value), (∀ (x49 : Int), (∀ (w50 : World), ((z34 (x49) (w50)) → (ifK (decide (x32 > x49))
(R (int i64 x32) (w50))
(atW (drew w50) (fun w51 =>
(∃ a52 : Addr, ((dataa = some a52) ∧ (((0 : Int) ≤ x49) ∧ (((x49 : Int) < (↑datal : Int)) ∧ (∃ x53 : Int, ((cell? w51 (add a52 (Int.toNat x49 * 1)) = some (int i64 x53)) ∧ (∃ a54 : Addr, ((dataa = some a54) ∧ (((0 : Int) ≤ x32) ∧ (((x32 : Int) < (↑datal : Int)) ∧ (∃ x55 : Int, ((cell? w51 (add a54 (Int.toNat x32 * 1)) = some (int i64 x55)) ∧ (∃ a56 : Addr, ((dataa = some a56) ∧ (((0 : Int) ≤ x32) ∧ (((x32 : Int) < (↑datal : Int)) ∧ (st1 (add (add a56 (Int.toNat x32 * 1)) 0) (int i64 x53) w51 (fun w58 =>
(∃ a59 : Addr, ((dataa = some a59) ∧ (((0 : Int) ≤ x49) ∧ (((x49 : Int) < (↑datal : Int)) ∧ (st1 (add (add a59 (Int.toNat x49 * 1)) 0) (int i64 x55) w58 (fun w61 =>
((z11 (wrap i64 (x32 + 1)) (wrap i64 (x49 - 1)) (w61)) ∧ (z12 (wrap i64 (x32 + 1)) (wrap i64 (x49 - 1)) w61 < z12 x14 x15 w16)))))))))))))))))))))))))))))))))))))))))))))))))))))))))))))))))))))))))))
theorem ca113 (dataa : Option Addr) (datal : Nat) (datac : Nat) (a_ : Int) (b : Int) (pivot : Int) (w : World) (R : Value → World → Prop) (h : W113 dataa datal datac a_ b pivot w R) : Ca Tryz.prog 113 ⟨[(.slice dataa datal datac), (.int .i64 a_), (.int .i64 b), (.int .i64 pivot)]⟩ w R :=
  caB (fn := Tryz.f113) (pl := pl113) (ls := ls113) Tryz.func113 (by kernel_rfl) (by kernel_rfl) h

/-- slices.siftDownOrdered[int] -/
noncomputable def C126 : Code := (Tryz.f126.body).getD .skip
def pl126 : Nat → Plan
  | 3 => (.quiet 0 (.quiet 1 (.quiet 2 (.quiet 3 (.quiet 4 (.quiet 5 (.quiet 6 (.quiet 7 (.quiet 8 (.quiet 9 (.quiet 10 (.quiet 11 (.quiet 12 (.quiet 13 (.quiet 14 (.quiet 15 (.quiet 16 (.quiet 17 (.eff 18 [] (.quiet 19 .done))))))))))))))))))))
  | 5 => (.quiet 0 (.quiet 1 (.quiet 2 (.quiet 3 (.quiet 4 (.quiet 5 (.quiet 6 (.quiet 7 (.quiet 8 (.quiet 9 (.quiet 10 (.quiet 11 (.eff 12 [] (.quiet 13 .done))))))))))))))
  | 6 => (.quiet 0 (.quiet 1 (.quiet 2 (.quiet 3 (.quiet 4 (.quiet 5 (.quiet 6 (.quiet 7 (.quiet 8 (.quiet 9 (.quiet 10 (.quiet 11 (.quiet 12 (.quiet 13 (.quiet 14 (.quiet 15 (.quiet 16 (.quiet 17 (.quiet 18 (.quiet 19 (.quiet 20 (.eff 21 [] (.quiet 22 (.eff 23 [] .done))))))))))))))))))))))))
  | _ => .done
def ls126 : Nat → List (Nat × LT)
  | 1 => [(8, (.one (.int .i64)))]
  | 5 => [(0, .agg []), (9, (.one (.int .i64)))]
  | _ => []
def W126 (dataa : Option Addr) (datal : Nat) (_datac : Nat) (lo : Int) (hi : Int) (first : Int) (w : World) (R : Value → World → Prop) : Prop :=
  (∃ z0 : Int → World → Prop, (∃ z1 : Int → World → Nat, ((z0 (lo) (w)) ∧ (∀ (_ : Nat → Value), (∀ (x3 : Int), (∀ (w4 : World), ((z0 (x3) (w4)) → (ifK (decide (wrap i64 (wrap i64 (2 * x3) + 1) ≥ hi))
(R (tuple (Array.mk (List.reverse []))) (w4))
(∃ z5 : Int → World → Prop, ((atW (drew w4) (fun w6 =>
(ifK (decide (wrap i64 (wrap i64 (wrap i64 (2 * x3) + 1) + 1) < hi))
(∃ a7 : Addr, ((dataa = some a7) ∧ (((0 : Int) ≤ wrap i64 (first + wrap i64 (wrap i64 (2 * x3) + 1))) ∧ (((wrap i64 (first + wrap i64 (wrap i64 (2 * x3) + 1)) : Int) < (↑datal : Int)) ∧ (∃ x8 : Int, ((cell? w6 (add a7 (Int.toNat (wrap i64 (first + wrap i64 (wrap i64 (2 * x3) + 1))) * 1)) = some (int i64 x8)) ∧ (∃ a9 : Addr, ((dataa = some a9) ∧ (((0 : Int) ≤ wrap i64 (wrap i64 (first + wrap i64 (wrap i64 (2 * x3) + 1)) + 1)) ∧ (((wrap i64 (wrap i64 (first + wrap i64 (wrap i64 (2 * x3) + 1)) + 1) : Int) < (↑datal : Int)) ∧ (∃ x10 : Int, ((cell? w6 (add a9 (Int.toNat (wrap i64 (wrap i64 (first + wrap i64 (wrap i64 (2 * x3) + 1)) + 1)) * 1)) = some (int i64 x10)) ∧ (Ca Tryz.prog (112) (Array.mk [int i64 x8, int i64 x10]) (w6) (fun v11 => (fun w12 =>
(∃ b13 : Bool, ((v11 = bool b13) ∧ (ifK (b13)
(z5 (wrap i64 (wrap i64 (wrap i64 (2 * x3) + 1) + 1)) (w12))
(z5 (wrap i64 (wrap i64 (2 * x3) + 1)) (w12))))))))))))))))))))
(z5 (wrap i64 (wrap i64 (2 * x3) + 1)) (w6))))) ∧ (∀ (_ : Nat → Value), (∀ (x15 : Int), (∀ (w16 : World), ((z5 (x15) (w16)) → (atW (drew w16) (fun w17 =>
(∃ a18 : Addr, ((dataa = some a18) ∧ (((0 : Int) ≤ wrap i64 (first + x3)) ∧ (((wrap i64 (first + x3) : Int) < (↑datal : Int)) ∧ (∃ x19 : Int, ((cell? w17 (add a18 (Int.toNat (wrap i64 (first + x3)) * 1)) = some (int i64 x19)) ∧ (∃ a20 : Addr, ((dataa = some a20) ∧ (((0 : Int) ≤ wrap i64 (first + x15)) ∧ (((wrap i64 (first + x15) : Int) < (↑datal : Int)) ∧ (∃ x21 : Int, ((cell? w17 (add a20 (Int.toNat (wrap i64 (first + x15)) * 1)) = some (int i64 x21)) ∧ (Ca Tryz.prog (112) (Array.mk [int i64 x19, int i64 x21]) (w17) (fun v22 => (fun w23 =>
(∃ b24 : Bool, ((v22 = bool b24) ∧ (ifK (!b24)
(R (tuple (Array.mk (List.reverse []))) (w23))
(atW (drew w23) (fun w25 =>
(∃ a26 : Addr, ((dataa = some a26) ∧ (((0 : Int) ≤ wrap i64 (first + x15)) ∧ (((wrap i64 (first + x15) : Int) < (↑datal : Int)) ∧ (∃ x27 : Int, ((cell? w25 (add a26 (Int.toNat (wrap i64 (first + x15)) * 1)) = some (int i64 x27)) ∧ (∃ a28 : Addr, ((dataa = some a28) ∧ (((0 : Int) ≤ wrap i64 (first + x3)) ∧ (((wrap i64 (first + x3) : Int) < (↑datal : Int)) ∧ (∃ x29 : Int, ((cell? w25 (add a28 (Int.toNat (wrap i64 (first + x3)) * 1)) = some (int i64 x29)) ∧ (∃ a30 : Addr, ((dataa = some a30) ∧ (((0 : Int) ≤ wrap i64 (first + x3)) ∧ (((wrap i64 (first + x3) : Int) < (↑datal : Int)) ∧ (st1 (add (add a30 (Int.toNat (wrap i64 (first + x3)) * 1)) 0) (int i64 x27) w25 (fun w32 =>
(∃ a33 : Addr, ((dataa = some a33) ∧ (((0 : Int) ≤ wrap i64 (first + x15)) ∧ (((wrap i64 (first + x15) : Int) < (↑datal : Int)) ∧ (st1 (add (add a33 (Int.toNat (wrap i64 (first + x15)) * 1)) 0) (int i64 x29) w32 (fun w35 =>
((z0 (x15) (w35)) ∧ (z1 x15 w35 < z1 x3 w4))))))))))))))))))))))))))))))))))))))))))))))))))))))))))))))
theorem ca126 (dataa : Option Addr) (datal : Nat) (datac : Nat) (lo : Int) (hi : Int) (first : Int) (w : World) (R : Value → World → Prop) (h : W126 dataa datal datac lo hi first w R) : Ca Tryz.prog 126 ⟨[(.slice dataa datal datac), (.int .i64 lo), (.int .i64 hi), (.int .i64 first)]⟩ w R :=
  caB (fn := Tryz.f126) (pl := pl126) (ls := ls126) Tryz.func126 (by kernel_rfl) (by kernel_rfl) h

/-- slices.heapSortOrdered[int] -/
noncomputable def C107 : Code := (Tryz.f107.body).getD .skip
def pl107 : Nat → Plan
  | 10 => (.quiet 0 (.quiet 1 (.quiet 2 (.quiet 3 (.quiet 4 (.quiet 5 (.quiet 6 (.quiet 7 (.quiet 8 (.quiet 9 (.quiet 10 (.quiet 11 (.quiet 12 (.quiet 13 (.quiet 14 (.quiet 15 (.quiet 16 (.eff 17 [] (.quiet 18 (.eff 19 [] .done))))))))))))))))))))
  | _ => .done
def ls107 : Nat → List (Nat × LT)
  | 5 => [(9, (.one (.int .i64)))]
  | 10 => [(10, (.one (.int .i64)))]
  | _ => []
def W107 (dataa : Option Addr) (datal : Nat) (datac : Nat) (a_ : Int) (b : Int) (w : World) (R : Value → World → Prop) : Prop :=
  (((2 : Int) ≠ 0) ∧ (∃ z0 : Int → World → Prop, (∃ z1 : Int → World → Nat, ((z0 (wrap i64 (Int.tdiv (wrap i64 (wrap i64 (b - a_) - 1)) 2)) (w)) ∧ (∀ (_ : Nat → Value), (∀ (x3 : Int), (∀ (w4 : World), ((z0 (x3) (w4)) → (ifK (decide (x3 ≥ 0))
(Ca Tryz.prog (126) (Array.mk [slice dataa datal datac, int i64 x3, int i64 (wrap i64 (b - a_)), int i64 a_]) (w4) (fun v5 => (fun w6 =>
((v5 = tuple (Array.mk (List.reverse []))) ∧ ((z0 (wrap i64 (x3 - 1)) (w6)) ∧ (z1 (wrap i64 (x3 - 1)) w6 < z1 x3 w4))))))
(∃ z7 : Int → World → Prop, (∃ z8 : Int → World → Nat, ((z7 (wrap i64 (wrap i64 (b - a_) - 1)) (w4)) ∧ (∀ (_ : Nat → Value), (∀ (x10 : Int), (∀ (w11 : World), ((z7 (x10) (w11)) → (ifK (decide (x10 ≥ 0))
(atW (drew w11) (fun w12 =>
(∃ a13 : Addr, ((dataa = some a13) ∧ (((0 : Int) ≤ wrap i64 (a_ + x10)) ∧ (((wrap i64 (a_ + x10) : Int) < (↑datal : Int)) ∧ (∃ x14 : Int, ((cell? w12 (add a13 (Int.toNat (wrap i64 (a_ + x10)) * 1)) = some (int i64 x14)) ∧ (∃ a15 : Addr, ((dataa = some a15) ∧ (((0 : Int) ≤ a_) ∧ (((a_ : Int) < (↑datal : Int)) ∧ (∃ x16 : Int, ((cell? w12 (add a15 (Int.toNat a_ * 1)) = some (int i64 x16)) ∧ (∃ a17 : Addr, ((dataa = some a17) ∧ (((0 : Int) ≤ a_) ∧ (((a_ : Int) < (↑datal : Int)) ∧ (st1 (add (add a17 (Int.toNat a_ * 1)) 0) (int i64 x14) w12 (fun w19 =>
(∃ a20 : Addr, ((dataa = some a20) ∧ (((0 : Int) ≤ wrap i64 (a_ + x10)) ∧ (((wrap i64 (a_ + x10) : Int) < (↑datal : Int)) ∧ (st1 (add (add a20 (Int.toNat (wrap i64 (a_ + x10)) * 1)) 0) (int i64 x16) w19 (fun w22 =>
(Ca Tryz.prog (126) (Array.mk [slice dataa datal datac, int i64 0, int i64 x10, int i64 a_]) (w22) (fun v23 => (fun w24 =>
((v23 = tuple (Array.mk (List.reverse []))) ∧ ((z7 (wrap i64 (x10 - 1)) (w24)) ∧ (z8 (wrap i64 (x10 - 1)) w24 < z8 x10 w11))))))))))))))))))))))))))))))))
(R (tuple (Array.mk (List.reverse []))) (w11)))))))))))))))))))
theorem ca107 (dataa : Option Addr) (datal : Nat) (datac : Nat) (a_ : Int) (b : Int) (w : World) (R : Value → World → Prop) (h : W107 dataa datal datac a_ b w R) : Ca Tryz.prog 107 ⟨[(.slice dataa datal datac), (.int .i64 a_), (.int .i64 b)]⟩ w R :=
  caB (fn := Tryz.f107) (pl := pl107) (ls := ls107) Tryz.func107 (by kernel_rfl) (by kernel_rfl) h

/-- slices.breakPatternsOrdered[int] -/
noncomputable def C108 : Code := (Tryz.f108.body).getD .skip
def pl108 : Nat → Plan
  | 10 => (.quiet 0 (.quiet 1 (.quiet 2 (.quiet 3 (.quiet 4 (.quiet 5 (.quiet 6 (.quiet 7 (.quiet 8 (.quiet 9 (.quiet 10 (.quiet 11 (.quiet 12 (.quiet 13 (.quiet 14 (.quiet 15 (.quiet 16 (.eff 17 [] (.quiet 18 (.eff 19 [] .done))))))))))))))))))))
  | _ => .done
def ls108 : Nat → List (Nat × LT)
  | 5 => [(9, (.one (.int .i64)))]
  | 10 => [(0, .agg []), (10, (.one (.int .i64)))]
  | _ => []
def W108 (dataa : Option Addr) (datal : Nat) (_datac : Nat) (a_ : Int) (b : Int) (w : World) (R : Value → World → Prop) : Prop :=
  (ifK (decide (wrap i64 (b - a_) ≥ 8))
(atW (alloc w (cells (Array.mk [int u64 0]) 153 (0, 0))) (fun w0 =>
(st1 (add (nw w) 0) (int u64 (wrap u64 (wrap i64 (b - a_)))) w0 (fun w2 =>
(Ca Tryz.prog (127) (Array.mk [int i64 (wrap i64 (b - a_))]) (w2) (fun v3 => (fun w4 =>
(∃ x5 : Int, ((v3 = int u64 x5) ∧ (((4 : Int) ≠ 0) ∧ (∃ z6 : Int → World → Prop, (∃ z7 : Int → World → Nat, ((z6 (wrap i64 (wrap i64 (a_ + wrap i64 (wrap i64 (Int.tdiv (wrap i64 (b - a_)) 4) * 2)) - 1)) (w4)) ∧ (∀ (_ : Nat → Value), (∀ (x9 : Int), (∀ (w10 : World), ((z6 (x9) (w10)) → (((4 : Int) ≠ 0) ∧ (ifK (decide (x9 ≤ wrap i64 (wrap i64 (a_ + wrap i64 (wrap i64 (Int.tdiv (wrap i64 (b - a_)) 4) * 2)) + 1)))
(Ca Tryz.prog (128) (Array.mk [pointer (some (nw w))]) (w10) (fun v11 => (fun w12 =>
(∃ x13 : Int, ((v11 = int u64 x13) ∧ (∃ z14 : Int → World → Prop, ((ifK (decide (wrap i64 (wrap u64 (↑(BitVec.toNat (BitVec.ofInt 64 x13 &&& BitVec.ofInt 64 (wrap u64 (x5 - 1)))) : Int)) ≥ wrap i64 (b - a_)))
(z14 (wrap i64 (wrap i64 (wrap u64 (↑(BitVec.toNat (BitVec.ofInt 64 x13 &&& BitVec.ofInt 64 (wrap u64 (x5 - 1)))) : Int)) - wrap i64 (b - a_))) (w12))
(z14 (wrap i64 (wrap u64 (↑(BitVec.toNat (BitVec.ofInt 64 x13 &&& BitVec.ofInt 64 (wrap u64 (x5 - 1)))) : Int))) (w12))) ∧ (∀ (_ : Nat → Value), (∀ (x16 : Int), (∀ (w17 : World), ((z14 (x16) (w17)) → (atW (drew w17) (fun w18 =>
(∃ a19 : Addr, ((dataa = some a19) ∧ (((0 : Int) ≤ wrap i64 (a_ + x16)) ∧ (((wrap i64 (a_ + x16) : Int) < (↑datal : Int)) ∧ (∃ x20 : Int, ((cell? w18 (add a19 (Int.toNat (wrap i64 (a_ + x16)) * 1)) = some (int i64 x20)) ∧ (∃ a21 : Addr, ((dataa = some a21) ∧ (((0 : Int) ≤ x9) ∧ (((x9 : Int) < (↑datal : Int)) ∧ (∃ x22 : Int, ((cell? w18 (add a21 (Int.toNat x9 * 1)) = some (int i64 x22)) ∧ (∃ a23 : Addr, ((dataa = some a23) ∧ (((0 : Int) ≤ x9) ∧ (((x9 : Int) < (↑datal : Int)) ∧ (st1 (add (add a23 (Int.toNat x9 * 1)) 0) (int i64 x20) w18 (fun w25 =>
(∃ a26 : Addr, ((dataa = some a26) ∧ (((0 : Int) ≤ wrap i64 (a_ + x16)) ∧ (((wrap i64 (a_ + x16) : Int) < (↑datal : Int)) ∧ (st1 (add (add a26 (Int.toNat (wrap i64 (a_ + x16)) * 1)) 0) (int i64 x22) w25 (fun w28 =>
((z6 (wrap i64 (x9 + 1)) (w28)) ∧ (z7 (wrap i64 (x9 + 1)) w28 < z7 x9 w10)))))))))))))))))))))))))))))))))))))))
(R (tuple (Array.mk (List.reverse []))) (w10)))))))))))))))))))))
(R (tuple (Array.mk (List.reverse []))) (w)))
theorem ca108 (dataa : Option Addr) (datal : Nat) (datac : Nat) (a_ : Int) (b : Int) (w : World) (R : Value → World → Prop) (h : W108 dataa datal datac a_ b w R) : Ca Tryz.prog 108 ⟨[(.slice dataa datal datac), (.int .i64 a_), (.int .i64 b)]⟩ w R :=
  caB (fn := Tryz.f108) (pl := pl108) (ls := ls108) Tryz.func108 (by kernel_rfl) (by kernel_rfl) h

/-- slices.partialInsertionSortOrdered[int] -/
noncomputable def C111 : Code := (Tryz.f111.body).getD .skip
def pl111 : Nat → Plan
  | 5 => (.quiet 0 (.quiet 1 (.quiet 2 (.quiet 3 (.quiet 4 (.quiet 5 (.quiet 6 (.quiet 7 (.quiet 8 (.quiet 9 (.quiet 10 (.quiet 11 (.quiet 12 (.eff 13 [] (.quiet 14 (.quiet 15 .done))))))))))))))))
  | 11 => (.quiet 0 (.quiet 1 (.quiet 2 (.quiet 3 (.quiet 4 (.quiet 5 (.quiet 6 (.quiet 7 (.quiet 8 (.quiet 9 (.quiet 10 (.quiet 11 (.quiet 12 (.quiet 13 (.quiet 14 (.eff 15 [] (.quiet 16 (.eff 17 [] .done))))))))))))))))))
  | 16 => (.quiet 0 (.quiet 1 (.quiet 2 (.quiet 3 (.quiet 4 (.quiet 5 (.quiet 6 (.quiet 7 (.quiet 8 (.eff 9 [] (.quiet 10 .done)))))))))))
  | 17 => (.quiet 0 (.quiet 1 (.quiet 2 (.quiet 3 (.quiet 4 (.quiet 5 (.quiet 6 (.quiet 7 (.quiet 8 (.quiet 9 (.quiet 10 (.quiet 11 (.quiet 12 (.quiet 13 (.quiet 14 (.eff 15 [] (.quiet 16 (.eff 17 [] .done))))))))))))))))))
  | 22 => (.quiet 0 (.quiet 1 (.quiet 2 (.quiet 3 (.quiet 4 (.quiet 5 (.quiet 6 (.quiet 7 (.quiet 8 (.eff 9 [] (.quiet 10 .done)))))))))))
  | 23 => (.quiet 0 (.quiet 1 (.quiet 2 (.quiet 3 (.quiet 4 (.quiet 5 (.quiet 6 (.quiet 7 (.quiet 8 (.quiet 9 (.quiet 10 (.quiet 11 (.quiet 12 (.quiet 13 (.quiet 14 (.eff 15 [] (.quiet 16 (.eff 17 [] .done))))))))))))))))))
  | _ => .done
def ls111 : Nat → List (Nat × LT)
  | 4 => [(7, (.one (.int .i64))), (8, (.one (.int .i64)))]
  | 8 => [(0, .agg []), (7, (.one (.int .i64)))]
  | 9 => [(7, (.one (.int .i64)))]
  | 19 => [(0, .agg [])]
  | 22 => [(9, (.one (.int .i64)))]
  | 30 => [(10, (.one (.int .i64)))]
  | _ => []
def W111 (dataa : Option Addr) (datal : Nat) (_datac : Nat) (a_ : Int) (b : Int) (w : World) (R : Value → World → Prop) : Prop :=
  (∃ z0 : Int → Int → World → Prop, (∃ z1 : Int → Int → World → Nat, ((z0 (wrap i64 (a_ + 1)) (0) (w)) ∧ (∀ (_ : Nat → Value), (∀ (x3 : Int), (∀ (x4 : Int), (∀ (w5 : World), ((z0 (x3) (x4) (w5)) → (ifK (decide (x4 < 5))
(∃ z6 : Int → World → Prop, ((∃ z7 : Int → World → Prop, (∃ z8 : Int → World → Nat, ((z7 (x3) (w5)) ∧ (∀ (_ : Nat → Value), (∀ (x10 : Int), (∀ (w11 : World), ((z7 (x10) (w11)) → (atW (drew w11) (fun w12 =>
(ifK (decide (x10 < b))
(∃ a13 : Addr, ((dataa = some a13) ∧ (((0 : Int) ≤ x10) ∧ (((x10 : Int) < (↑datal : Int)) ∧ (∃ x14 : Int, ((cell? w12 (add a13 (Int.toNat x10 * 1)) = some (int i64 x14)) ∧ (∃ a15 : Addr, ((dataa = some a15) ∧ (((0 : Int) ≤ wrap i64 (x10 - 1)) ∧ (((wrap i64 (x10 - 1) : Int) < (↑datal : Int)) ∧ (∃ x16 : Int, ((cell? w12 (add a15 (Int.toNat (wrap i64 (x10 - 1)) * 1)) = some (int i64 x16)) ∧ (Ca Tryz.prog (112) (Array.mk [int i64 x14, int i64 x16]) (w12) (fun v17 => (fun w18 =>
(∃ b19 : Bool, ((v17 = bool b19) ∧ (ifK (!b19)
((z7 (wrap i64 (x10 + 1)) (w18)) ∧ (z8 (wrap i64 (x10 + 1)) w18 < z8 x10 w11))
(z6 (x10) (w18))))))))))))))))))))
(z6 (x10) (w12)))))))))))) ∧ (∀ (_ : Nat → Value), (∀ (x21 : Int), (∀ (w22 : World), ((z6 (x21) (w22)) → (ifK (x21 == b)
(R (bool true) (w22))
(ifK (decide (wrap i64 (b - a_) < 50))
(R (bool false) (w22))
(atW (drew w22) (fun w23 =>
(∃ a24 : Addr, ((dataa = some a24) ∧ (((0 : Int) ≤ wrap i64 (x21 - 1)) ∧ (((wrap i64 (x21 - 1) : Int) < (↑datal : Int)) ∧ (∃ x25 : Int, ((cell? w23 (add a24 (Int.toNat (wrap i64 (x21 - 1)) * 1)) = some (int i64 x25)) ∧ (∃ a26 : Addr, ((dataa = some a26) ∧ (((0 : Int) ≤ x21) ∧ (((x21 : Int) < (↑datal : Int)) ∧ (∃ x27 : Int, ((cell? w23 (add a26 (Int.toNat x21 * 1)) = some (int i64 x27)) ∧ (∃ a28 : Addr, ((dataa = some a28) ∧ (((0 : Int) ≤ x21) ∧ (((x21 : Int) < (↑datal : Int)) ∧ (st1 (add (add a28 (Int.toNat x21 * 1)) 0) (int i64 x25) w23 (fun w30 =>
(∃ a31 : Addr, ((dataa = some a31) ∧ (((0 : Int) ≤ wrap i64 (x21 - 1)) ∧ (((wrap i64 (x21 - 1) : Int) < (↑datal : Int)) ∧ (st1 (add (add a31 (Int.toNat (wrap i64 (x21 - 1)) * 1)) 0) (int i64 x27) w30 (fun w33 =>
(∃ z34 : World → Prop, ((ifK (decide (wrap i64 (x21 - a_) ≥ 2))
(∃ z35 : Int → World → Prop, (∃ z36 : Int → World → Nat, ((z35 (wrap i64 (x21 - 1)) (w33)) ∧ (∀ (_ : Nat → Value), (∀ (x38 : Int), (∀ (w39 : World), ((z35 (x38) (w39)) → (ifK (decide (x38 ≥ 1))
(atW (drew w39) (fun w40 =>
(∃ a41 : Addr, ((dataa = some a41) ∧ (((0 : Int) ≤ x38) ∧ (((x38 : Int) < (↑datal : Int)) ∧ (∃ x42 : Int, ((cell? w40 (add a41 (Int.toNat x38 * 1)) = some (int i64 x42)) ∧ (∃ a43 : Addr, ((dataa = some a43) ∧ (((0 : Int) ≤ wrap i64 (x38 - 1)) ∧ (((wrap i64 (x38 - 1) : Int) < (↑datal : Int)) ∧ (∃ x44 : Int, ((cell? w40 (add a43 (Int.toNat (wrap i64 (x38 - 1)) * 1)) = some (int i64 x44)) ∧ (Ca Tryz.prog (112) (Array.mk [int i64 x42, int i64 x44]) (w40) (fun v45 => (fun w46 =>
(∃ b47 : Bool, ((v45 = bool b47) ∧ (ifK (!b47)
(z34 (w46))
(atW (drew w46) (fun w48 =>
(∃ a49 : Addr, ((dataa = some a49) ∧ (((0 : Int) ≤ wrap i64 (x38 - 1)) ∧ (((wrap i64 (x38 - 1) : Int) < (↑datal : Int)) ∧ (∃ x50 : Int, ((cell? w48 (add a49 (Int.toNat (wrap i64 (x38 - 1)) * 1)) = some (int i64 x50)) ∧ (∃ a51 : Addr, ((dataa = some a51) ∧ (((0 : Int) ≤ x38) ∧ (((x38 : Int) < (↑datal : Int)) ∧ (∃ x52 : Int, ((cell? w48 (add a51 (Int.toNat x38 * 1)) = some (int i64 x52)) ∧ (∃ a53 : Addr, ((dataa = some a53) ∧ (((0 : Int) ≤ x38) ∧ (((x38 : Int) < (↑datal : Int)) ∧ (st1 (add (add a53 (Int.toNat x38 * 1)) 0) (int i64 x50) w48 (fun w55 =>
(∃ a56 : Addr, ((dataa = some a56) ∧ (((0 : Int) ≤ wrap i64 (x38 - 1)) ∧ (((wrap i64 (x38 - 1) : Int) < (↑datal : Int)) ∧ (st1 (add (add a56 (Int.toNat (wrap i64 (x38 - 1)) * 1)) 0) (int i64 x52) w55 (fun w58 =>
((z35 (wrap i64 (x38 - 1)) (w58)) ∧ (z36 (wrap i64 (x38 - 1)) w58 < z36 x38 w39))))))))))))))))))))))))))))))))))))))))))))))))
(z34 (w39))))))))))
(z34 (w33))) ∧ (∀ (_ : Nat → Value), (∀ (w60 : World), ((z34 (w60)) → (ifK (decide (wrap i64 (b - x21) ≥ 2))
(∃ z61 : Int → World → Prop, (∃ z62 : Int → World → Nat, ((z61 (wrap i64 (x21 + 1)) (w60)) ∧ (∀ (_ : Nat → Value), (∀ (x64 : Int), (∀ (w65 : World), ((z61 (x64) (w65)) → (ifK (decide (x64 < b))
(atW (drew w65) (fun w66 =>
(∃ a67 : Addr, ((dataa = some a67) ∧ (((0 : Int) ≤ x64) ∧ (((x64 : Int) < (↑datal : Int)) ∧ (∃ x68 : Int, ((cell? w66 (add a67 (Int.toNat x64 * 1)) = some (int i64 x68)) ∧ (∃ a69 : Addr, ((dataa = some a69) ∧ (((0 : Int) ≤ wrap i64 (x64 - 1)) ∧ (((wrap i64 (x64 - 1) : Int) < (↑datal : Int)) ∧ (∃ x70 : Int, ((cell? w66 (add a69 (Int.toNat (wrap i64 (x64 - 1)) * 1)) = some (int i64 x70)) ∧ (Ca Tryz.prog (112) (Array.mk [int i64 x68, int i64 x70]) (w66) (fun v71 => (fun w72 =>
(∃ b73 : Bool, ((v71 = bool b73) ∧ (ifK (!b73)
((z0 (x21) (wrap i64 (x4 + 1)) (w72)) ∧ (z1 x21 (wrap i64 (x4 + 1)) w72 < z1 x3 x4 w5))
(atW (drew w72) (fun w74 =>
(∃ a75 : Addr, ((dataa = some a75) ∧ (((0 : Int) ≤ wrap i64 (x64 - 1)) ∧ (((wrap i64 (x64 - 1) : Int) < (↑datal : Int)) ∧ (∃ x76 : Int, ((cell? w74 (add a75 (Int.toNat (wrap i64 (x64 - 1)) * 1)) = some (int i64 x76)) ∧ (∃ a77 : Addr, ((dataa = some a77) ∧ (((0 : Int) ≤ x64) ∧ (((x64 : Int) < (↑datal : Int)) ∧ (∃ x78 : Int, ((cell? w74 (add a77 (Int.toNat x64 * 1)) = some (int i64 x78)) ∧ (∃ a79 : Addr, ((dataa = some a79) ∧ (((0 : Int) ≤ x64) ∧ (((x64 : Int) < (↑datal : Int)) ∧ (st1 (add (add a79 (Int.toNat x64 * 1)) 0) (int i64 x76) w74 (fun w81 =>
(∃ a82 : Addr, ((dataa = some a82) ∧ (((0 : Int) ≤ wrap i64 (x64 - 1)) ∧ (((wrap i64 (x64 - 1) : Int) < (↑datal : Int)) ∧ (st1 (add (add a82 (Int.toNat (wrap i64 (x64 - 1)) * 1)) 0) (int i64 x78) w81 (fun w84 =>
((z61 (wrap i64 (x64 + 1)) (w84)) ∧ (z62 (wrap i64 (x64 + 1)) w84 < z62 x64 w65))))))))))))))))))))))))))))))))))))))))))))))))
((z0 (x21) (wrap i64 (x4 + 1)) (w65)) ∧ (z1 x21 (wrap i64 (x4 + 1)) w65 < z1 x3 x4 w5))))))))))
((z0 (x21) (wrap i64 (x4 + 1)) (w60)) ∧ (z1 x21 (wrap i64 (x4 + 1)) w60 < z1 x3 x4 w5))))))))))))))))))))))))))))))))))))))))))
(R (bool false) (w5)))))))))))
theorem ca111 (dataa : Option Addr) (datal : Nat) (datac : Nat) (a_ : Int) (b : Int) (w : World) (R : Value → World → Prop) (h : W111 dataa datal datac a_ b w R) : Ca Tryz.prog 111 ⟨[(.slice dataa datal datac), (.int .i64 a_), (.int .i64 b)]⟩ w R :=
  caB (fn := Tryz.f111) (pl := pl111) (ls := ls111) Tryz.func111 (by kernel_rfl) (by kernel_rfl) h
end Go.Proofs.YtgjdandnncjegaaGreatDoor
