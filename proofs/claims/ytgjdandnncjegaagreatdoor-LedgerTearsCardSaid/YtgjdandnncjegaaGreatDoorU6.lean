/- Parts of the proof of LedgerTearsCard. -/
import Derived.Test.YtgjdandnncjegaaGreatDoorRows
import Derived.Stop.LaidErr
import Derived.Lib.LaidTab
import Derived.Test.YtgjdandnncjegaaGreatDoorU5
/- What the rows of the ledger's laws give: the variables that are read, and the arguments. -/
namespace Go.Proofs.YtgjdandnncjegaaGreatDoor
open Go Go.ChangeShapes Go.WideShapes Go.Deep Go.RowKit Go.Proofs.YtgjdandnncjegaaGreatDoor.St

theorem star_err : "*" ++ "errors.errorString" = "*errors.errorString" := by decide
/-- The one row of that name. -/
theorem row_err (u : TypeId) (h : Tryz.prog.typeName? 3 u = some "*errors.errorString") : u = 170 :=
  typeName_ptr_named (nm := "errors.errorString") (by rw [star_err]; kernel_rfl) (by kernel_rfl) (by decide) u (by rw [star_err]; exact h)
theorem vars_of_laid {W : World} (h : laidMetH Tryz.prog Rows.ledgerTearsRow.laid W) : Vars W := by
  have h : laidMet Tryz.prog [("math/bits.deBruijn32tab", Rows.laid_math_bits_deBruijn32tab), ("math/bits.deBruijn64tab", Rows.laid_math_bits_deBruijn64tab), ("internal/strconv.uint64pow10", Lib.tabData .u64 Lib.pow10Tab), ("staith/word.widths", Lib.tabData .i64 [1, 2, 4, 8]), ("strconv.ErrRange", Rows.laid_strconv_ErrRange), ("strconv.ErrSyntax", .iface "*errors.errorString" (.ptr (.agg [.lit (.string [105, 110, 118, 97, 108, 105, 100, 32, 115, 121, 110, 116, 97, 120])])))] W := h
  have h2 := h.tail.tail
  have h3 := h2.tail
  have h5 := h3.tail.tail
  have tw : Lib.TabIs Tryz.prog W "staith/word.widths" .i64 [1, 2, 4, 8] := Lib.tabIs_of_head (g := 0) (t := 121) (e := 3) (n := 4) (by kernel_rfl) (by kernel_rfl) Tryz.underlying121 Tryz.underlying3 (by kernel_rfl) (by kernel_rfl) h3
  refine ⟨⟨?_, ?_, ?_, ?_⟩, ?_, ?_⟩
  · exact tw.cell (g := 0) (by kernel_rfl) 0 (by decide)
  · exact tw.cell (g := 0) (by kernel_rfl) 1 (by decide)
  · exact tw.cell (g := 0) (by kernel_rfl) 2 (by decide)
  · exact tw.cell (g := 0) (by kernel_rfl) 3 (by decide)
  · exact Lib.tabIs_of_head (g := 3) (t := 161) (e := 73) (n := 20) (by kernel_rfl) (by kernel_rfl) Tryz.underlying161 Tryz.underlying73 (by kernel_rfl) (by kernel_rfl) h2
  · obtain ⟨a0, s0, hv0, -, -, -⟩ := laid_sentinel h5 (g := 1) (ti := 98) (by kernel_rfl) (by kernel_rfl) Tryz.underlying98 row_err Tryz.underlying170 Tryz.underlying172 rfl rfl Tryz.underlying9 (by kernel_rfl) (by kernel_rfl)
    exact ⟨_, _, hv0⟩
theorem laid_lt {P : Program} {n : String} {d : DataW Unit} {r : List (String × DataW Unit)} {W : World} {g : Nat} (h : laidMet P ((n, d) :: r) W) (hg : P.globalNamed n = some g) : g < W.heap.size := by
  obtain ⟨ps, ⟨g0, t0, cs0, f0, p0, q0, hg0, ht0, hv0, _⟩, _⟩ := h
  obtain rfl := Option.some.inj (hg.symm.trans hg0)
  simp only [World.var?, hg0, Option.bind_some] at hv0
  split at hv0
  · rename_i cs t z hc
    exact lt_of_heap hc
  · cases hv0
theorem size_of_laid {W : World} (h : laidMetH Tryz.prog Rows.ledgerTearsRow.laid W) : 6 ≤ W.heap.size := by
  have h : laidMet Tryz.prog [("math/bits.deBruijn32tab", Rows.laid_math_bits_deBruijn32tab), ("math/bits.deBruijn64tab", Rows.laid_math_bits_deBruijn64tab), ("internal/strconv.uint64pow10", Lib.tabData .u64 Lib.pow10Tab), ("staith/word.widths", Lib.tabData .i64 [1, 2, 4, 8]), ("strconv.ErrRange", Rows.laid_strconv_ErrRange), ("strconv.ErrSyntax", .iface "*errors.errorString" (.ptr (.agg [.lit (.string [105, 110, 118, 97, 108, 105, 100, 32, 115, 121, 110, 116, 97, 120])])))] W := h
  exact laid_lt (g := 5) h.tail (by kernel_rfl)

/-! ### Arguments -/
theorem add0 (ad : Addr) : Addr.add ad 0 = ad := by unfold Addr.add; split <;> simp_all
set_option maxRecDepth 100000 in
theorem leaf_bytes {w : World} {B n : Nat} {cs : List Value} (h : Leaf Tryz.prog w B (n + 2) 27 cs) : ∃ (a : Option Addr) (l c : Nat) (bs : Bs), cs = [.slice a l c] ∧ Rd w a l c bs ∧ c ≤ B := by
  obtain ⟨a, l, c, rfl, h1, h2, h3, h4, h5⟩ := leaf_slice Tryz.underlying27 h
  have hall : ∀ i, ∃ b : UInt8, i < l → ∃ ad, a = some ad ∧ w.cell? (Addr.add ad i) = some (u8v b) := by
    intro i
    by_cases hi : i < l
    · obtain ⟨ad, had, cs', hl, hc, hlf⟩ := h5 i hi
      obtain ⟨x, rfl, hwf⟩ := leaf_int (n := n) Tryz.underlying5 hlf
      have hwf : (0 : Int) ≤ x ∧ x ≤ 255 := by
        have hwf : (decide ((0 : Int) ≤ x) && decide (x ≤ 255)) = true := hwf
        rw [Bool.and_eq_true, decide_eq_true_iff, decide_eq_true_iff] at hwf
        exact hwf
      have hc0 := hc 0 _ rfl
      rw [cellsU8, Nat.mul_one, add0] at hc0
      refine ⟨UInt8.ofNat x.toNat, fun _ => ⟨ad, had, ?_⟩⟩
      rw [hc0, u8v, UInt8.toNat_ofNat']
      congr 2
      omega
    · exact ⟨0, fun h => absurd h hi⟩
  obtain ⟨f, hf⟩ := Classical.axiomOfChoice hall
  refine ⟨a, l, c, (List.range l).map f, rfl, ⟨by simp, h1, h2, fun ad had j v hj => ?_, fun hn => by have := h4 hn; omega⟩, by rw [bytesU8, Nat.mul_one] at h3; exact h3⟩
  rw [List.map_map, List.getElem?_map] at hj
  by_cases hjl : j < l
  · rw [List.getElem?_range hjl] at hj
    simp only [Option.map_some, Option.some.injEq] at hj
    obtain ⟨ad', had', hc⟩ := hf j hjl
    rw [had] at had'
    cases had'
    rw [hc, ← hj]; rfl
  · rw [List.getElem?_eq_none (by simpa using hjl)] at hj
    cases hj
theorem reach47 : reachBytes ≤ 140737488355328 := by decide
structure AS12 where
  kind : Int
  p : Option Addr
  n : Nat
  m : Nat
  s : ByteArray
  k1 : Int
  k2 : Int
  d : Bs
instance inhAS12 : Inhabited AS12 := ⟨⟨0, none, 0, 0, ByteArray.empty, 0, 0, []⟩⟩
def layA : Lay AS12 where
  cs x := [.int .i64 x.kind, .slice x.p x.n x.m, .string x.s, .int .i64 x.k1, .int .i64 x.k2]
  s := 5
  pos := by decide
  len _ := rfl
  one x v hv := by simp at hv; rcases hv with rfl | rfl | rfl | rfl | rfl <;> rfl
set_option maxRecDepth 100000 in
theorem args_acts {H : Type} {enc : TypeId × Value → H} {w : World} {v : Value} {d : DataW H} {p : List MemPlace} {base : Nat} {r : Reach} {b0 : Nat} (hv : Value.okWide Tryz.prog w r b0 51 v) (h : DataW.Trod enc Tryz.prog w base (fun _ => true) true 51 v d p)
    (hz : ∀ n ∈ d.weights Tryz.prog 51, n ≤ reachBytes) : ∃ a l c xs, v = .slice a l c ∧ ActsA w a l xs := by
  obtain ⟨a, l, c, ys, rfl, h1, h2, h3, _⟩ := row_arg (L := layA) (fun x => Rd w x.p x.n x.m x.d ∧ x.m ≤ reachBytes) 4 Tryz.underlying51 (by kernel_rfl) hv h hz (fun cs hl hlf => by
    obtain ⟨_, hf⟩ := leaf_struct Tryz.underlying54 hlf
    obtain ⟨x0, e0, _⟩ := leaf_int Tryz.underlying3 (field1 hf 0 rfl (o := 0) rfl rfl (k := 1) (by kernel_rfl))
    obtain ⟨p, n, m, bs, e1, hr, hm⟩ := leaf_bytes (field1 hf 1 rfl (o := 1) rfl rfl (k := 1) (by kernel_rfl))
    obtain ⟨s, e2, _⟩ := leaf_string Tryz.underlying9 (field1 hf 2 rfl (o := 2) rfl rfl (k := 1) (by kernel_rfl))
    obtain ⟨x3, e3, _⟩ := leaf_int Tryz.underlying3 (field1 hf 3 rfl (o := 3) rfl rfl (k := 1) (by kernel_rfl))
    obtain ⟨x4, e4, _⟩ := leaf_int Tryz.underlying3 (field1 hf 4 rfl (o := 4) rfl rfl (k := 1) (by kernel_rfl))
    have hl : cs.length = 5 := hl
    obtain ⟨c0, c1, c2, c3, c4, rfl⟩ : ∃ c0 c1 c2 c3 c4, cs = [c0, c1, c2, c3, c4] := by
      match cs, hl with
      | [c0, c1, c2, c3, c4], _ => exact ⟨c0, c1, c2, c3, c4, rfl⟩
    simp only [List.drop_zero, List.drop_succ_cons, List.take_succ_cons, List.take_zero, List.cons.injEq, and_true] at e0 e1 e2 e3 e4
    subst e0; subst e1; subst e2; subst e3; subst e4
    exact ⟨⟨x0, p, n, m, s, x3, x4, bs⟩, rfl, hr, hm⟩)
  have hb : reachBytes ≤ 140737488355328 := reach47
  have hbe : Tryz.prog.bytesOf 54 = 64 := by kernel_rfl
  rw [hbe] at h3
  refine ⟨a, l, c, ys.map fun y => ⟨y.kind, y.d⟩, rfl, ⟨by rw [List.length_map]; exact h1.len, fun i x hx => ?_⟩, by have := h1.lc; omega, fun x hx => ?_⟩
  · rw [List.getElem?_map] at hx
    obtain ⟨y, hy, rfl⟩ := Option.map_eq_some_iff.1 hx
    obtain ⟨hi, rfl⟩ := List.getElem?_eq_some_iff.1 hy
    obtain ⟨ad, had, hg⟩ := h1.get i hi
    exact ⟨ad, ys[i].p, ys[i].n, ys[i].m, ys[i].s, ys[i].k1, ys[i].k2, had, hg, (h2 _ (List.getElem_mem hi)).1⟩
  · obtain ⟨y, hy, rfl⟩ := List.mem_map.1 hx
    have := h2 y hy
    have h4 := this.1.len
    have h5 := this.1.le
    simp only
    omega
structure SlB where
  p : Option Addr
  n : Nat
  m : Nat
  d : Bs
instance inhSlB : Inhabited SlB := ⟨⟨none, 0, 0, []⟩⟩
def layB : Lay SlB where
  cs x := [.slice x.p x.n x.m]
  s := 1
  pos := by decide
  len _ := rfl
  one x v hv := by simp at hv; subst hv; rfl
set_option maxRecDepth 100000 in
theorem args_rowsB {H : Type} {enc : TypeId × Value → H} {w : World} {v : Value} {d : DataW H} {p : List MemPlace} {base : Nat} {r : Reach} {b0 : Nat} (hv : Value.okWide Tryz.prog w r b0 22 v) (h : DataW.Trod enc Tryz.prog w base (fun _ => true) true 22 v d p)
    (hz : ∀ n ∈ d.weights Tryz.prog 22, n ≤ reachBytes) : ∃ a l c xs, v = .slice a l c ∧ RowsA w a l c xs := by
  obtain ⟨a, l, c, ys, rfl, h1, h2, h3, _⟩ := row_arg (L := layB) (fun x => Rd w x.p x.n x.m x.d) 3 Tryz.underlying22 (by kernel_rfl) hv h hz (fun cs hl hlf => by
    obtain ⟨p, n, m, bs, rfl, hr, hm⟩ := leaf_bytes hlf
    exact ⟨⟨p, n, m, bs⟩, rfl, hr⟩)
  have hb : reachBytes ≤ 140737488355328 := reach47
  have hbe : Tryz.prog.bytesOf 27 = 24 := by kernel_rfl
  rw [hbe] at h3
  refine ⟨a, l, c, ys.map fun y => y.d, rfl, ⟨by rw [List.length_map]; exact h1.len, fun i x hx => ?_⟩, h1.lc, by omega⟩
  rw [List.getElem?_map] at hx
  obtain ⟨y, hy, rfl⟩ := Option.map_eq_some_iff.1 hx
  obtain ⟨hi, rfl⟩ := List.getElem?_eq_some_iff.1 hy
  obtain ⟨ad, had, hg⟩ := h1.get i hi
  have := hg 0 _ rfl
  rw [add0] at this
  exact ⟨ad, (ys[i].p, ys[i].n, ys[i].m), had, this, h2 _ (List.getElem_mem hi)⟩
/-- A cut, as an argument. -/
structure Cu where
  n : Int
  k : Int
def Cu.cs (x : Cu) : List Value := [.int .u64 x.n, .int .i64 x.k]
def CuOk (x : Cu) : Prop := 0 ≤ x.n ∧ x.n ≤ 18446744073709551615
theorem u64_wf {x : Int} (h : (Lit.int .u64 x).wf = true) : 0 ≤ x ∧ x ≤ 18446744073709551615 := by
  have h : (decide ((0 : Int) ≤ x) && decide (x ≤ 18446744073709551615)) = true := h
  rw [Bool.and_eq_true, decide_eq_true_iff, decide_eq_true_iff] at h
  exact h
set_option maxRecDepth 100000 in
theorem args_cut {H : Type} {enc : TypeId × Value → H} {w : World} {v : Value} {d : DataW H} {p : List MemPlace} {base : Nat} {r : Reach} {b0 : Nat} (hv : Value.okWide Tryz.prog w r b0 57 v) (h : DataW.Trod enc Tryz.prog w base (fun _ => true) true 57 v d p)
    (hz : ∀ n ∈ d.weights Tryz.prog 57, n ≤ reachBytes) : ∃ x : Cu, v = .agg ⟨x.cs⟩ ∧ CuOk x := by
  obtain ⟨cs, rfl, hlf⟩ := struct_arg 3 Tryz.underlying57 hv h hz
  obtain ⟨hl, hf⟩ := leaf_struct Tryz.underlying57 hlf
  obtain ⟨x0, e0, w0⟩ := leaf_int Tryz.underlying23 (field1 hf 0 rfl (o := 0) rfl rfl (k := 1) (by kernel_rfl))
  obtain ⟨x1, e1, _⟩ := leaf_int Tryz.underlying3 (field1 hf 1 rfl (o := 1) rfl rfl (k := 1) (by kernel_rfl))
  have hl : cs.length = 2 := hl.trans (by kernel_rfl)
  obtain ⟨c0, c1, rfl⟩ : ∃ c0 c1, cs = [c0, c1] := by
    match cs, hl with
    | [c0, c1], _ => exact ⟨c0, c1, rfl⟩
  simp only [List.drop_zero, List.drop_succ_cons, List.take_succ_cons, List.take_zero, List.cons.injEq, and_true] at e0 e1
  subst e0; subst e1
  exact ⟨⟨x0, x1⟩, rfl, u64_wf w0⟩
end Go.Proofs.YtgjdandnncjegaaGreatDoor

/- The walks of the ledger's laws, as their rows call them. -/
namespace Go.Proofs.YtgjdandnncjegaaGreatDoor
open Go Go.Proofs.YtgjdandnncjegaaGreatDoor.St

abbrev ActsC (w : World) (a : Option Addr) (l _c : Nat) (xs : List LAct) : Prop := ActsA w a l xs
theorem w_names (a0 a1 : Int) (a2 : Option Addr) (l2 c2 : Nat) (x2 : List UInt8) (w : World) (hV : Vars w) (h6 : 6 ≤ w.heap.size) (_h0 : (Lit.int .i64 a0).wf = true) (_h1 : (Lit.int .i64 a1).wf = true) (h2 : RdA w a2 l2 c2 x2) (R : Value → World → Prop) (hR : ∀ w', Mod no w w' → R (.bool true) w') :
    Ca Tryz.prog 4 #[.int .i64 a0, .int .i64 a1, .slice a2 l2 c2] w R := names_walk a0 a1 a2 l2 c2 x2 w hV h6 h2.1 R hR
theorem w_none (a0 : Option Addr) (l0 c0 : Nat) (x0 : List UInt8) (a1 : Int) (w : World) (hV : Vars w) (h6 : 6 ≤ w.heap.size) (_h0 : RdA w a0 l0 c0 x0) (_h1 : (Lit.int .i64 a1).wf = true) (R : Value → World → Prop) (hR : ∀ w', Mod no w w' → R (.bool true) w') :
    Ca Tryz.prog 5 #[.slice a0 l0 c0, .int .i64 a1] w R := noneL_walk a0 l0 c0 a1 w hV h6 R hR
theorem w_tells (a0 : Option Addr) (l0 c0 : Nat) (x0 : List LAct) (a1 : Int) (w : World) (hV : Vars w) (h6 : 6 ≤ w.heap.size) (h0 : ActsC w a0 l0 c0 x0) (h1 : (Lit.int .u64 a1).wf = true) (R : Value → World → Prop) (hR : ∀ w', Mod no w w' → R (.bool true) w') :
    Ca Tryz.prog 6 #[.slice a0 l0 c0, .int .u64 a1] w R := tells_walk a0 l0 c0 a1 x0 w hV h6 h0 (u64_wf h1) R hR
theorem w_keeps (a0 : Option Addr) (l0 c0 : Nat) (x0 : List LAct) (x1 x2 : Cu) (w : World) (hV : Vars w) (h6 : 6 ≤ w.heap.size) (h0 : ActsC w a0 l0 c0 x0) (h1 : CuOk x1) (h2 : CuOk x2) (R : Value → World → Prop) (hR : ∀ w', Mod no w w' → R (.bool true) w') :
    Ca Tryz.prog 7 #[.slice a0 l0 c0, .agg ⟨x1.cs⟩, .agg ⟨x2.cs⟩] w R := keeps_walk a0 l0 c0 x0 x1.n x1.k x2.n x2.k w hV h6 h0 h1 h2 R hR
theorem w_tears (a0 : Option Addr) (l0 c0 : Nat) (x0 : List Bs) (a1 : Int) (w : World) (hV : Vars w) (h6 : 6 ≤ w.heap.size) (h0 : RowsA w a0 l0 c0 x0) (h1 : (Lit.int .u64 a1).wf = true) (R : Value → World → Prop) (hR : ∀ w', Mod no w w' → R (.bool true) w') :
    Ca Tryz.prog 3 #[.slice a0 l0 c0, .int .u64 a1] w R := tears_walk a0 l0 c0 x0 a1 w hV h6 h0 (u64_wf h1) R hR
end Go.Proofs.YtgjdandnncjegaaGreatDoor
