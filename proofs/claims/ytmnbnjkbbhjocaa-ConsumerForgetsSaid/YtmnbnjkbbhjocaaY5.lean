/- Parts of the proof of ConsumerForgetsSaid. -/
import Derived.Laws.MakeOwn
import Derived.Test.YtmnbnjkbbhjocaaCore9
import Derived.Test.YtmnbnjkbbhjocaaProg
import Derived.Deep.Slices
import Derived.Deep.Fields
import Derived.ChangeSame
import Derived.Below
import Derived.Test.YtmnbnjkbbhjocaaY4
/- Rows that make makes. It names no program. -/
namespace Go.Proofs.Ytmnbnjkbbhjocaa.St
open Go

section
variable {α : Type} {L : Lay α}
theorem made_cells {z : Array Value} {x0 : α} (hz : z.toList = L.cs x0) (n : Nat) : (madeCells z (n * L.s)).toList = (List.replicate n x0).flatMap L.cs := by
  have hzs : z.size = L.s := by rw [← L.len x0, ← hz, Array.length_toList]
  apply List.ext_getElem
  · rw [Array.length_toList, size_madeCells, L.length, List.length_replicate]
  · intro k h1 h2
    rw [L.length, List.length_replicate] at h2
    have hd : k / L.s < n := (Nat.div_lt_iff_lt_mul L.pos).2 h2
    have hm : k % L.s < L.s := Nat.mod_lt _ L.pos
    have hk : k / L.s * L.s + k % L.s = k := Nat.div_add_mod' k L.s
    have hv : (L.cs x0)[k % L.s]? = some (z[k % L.s]'(by rw [hzs]; exact hm)) := by
      rw [← hz, Array.getElem?_toList, Array.getElem?_eq_getElem]
    have hr : (List.replicate n x0)[k / L.s]'(by simpa using hd) = x0 := List.getElem_replicate ..
    have := L.at (xs := List.replicate n x0) (i := k / L.s) (by simpa using hd) (j := k % L.s) (by rw [hr]; exact hv)
    rw [hk] at this
    have h3 := List.getElem?_eq_some_iff.1 this
    obtain ⟨_, h3⟩ := h3
    rw [h3]
    have h1' : k < (madeCells z (n * L.s)).size := by rwa [Array.length_toList] at h1
    rw [Array.getElem_toList]
    simp only [madeCells, Array.getElem_map, Array.getElem_range]
    have e : k % z.size = k % L.s := by rw [hzs]
    rw [e, getElem!_pos z (k % L.s) (by rw [hzs]; exact hm)]

/-- make([]T, n). -/
theorem row_make {P : Program} {w : World} {t e : TypeId} (ho : laidOk P t e L.s = true) {x0 : α} (h0 : ∀ z, (P.info? e).bind (·.zero) = some z → z.cells.toList = L.cs x0) (kl kc : IntKind) (n : Nat) (hn : n ≤ 1099511627776) :
    ∃ w', (Instr.makeSlice t (.int kl (n : Int)) (.int kc (n : Int))).run P w = .ok (.slice (some ⟨w.heap.size, 0, none⟩) n n) w' ∧ Row L e w' (some ⟨w.heap.size, 0, none⟩) n n (List.replicate n x0) ∧ Mod no w w' := by
  obtain ⟨ht, i, z, hi, hz, hsize, hby, hzs⟩ := laidOk_of ho
  have hb : (i.bytes : Int) * (n : Int) ≤ 281474976710656 := by
    have h1 : i.bytes * n ≤ 128 * 1099511627776 := Nat.mul_le_mul hby hn
    have h2 : ((i.bytes * n : Nat) : Int) ≤ ((128 * 1099511627776 : Nat) : Int) := by exact_mod_cast h1
    rw [Int.natCast_mul] at h2
    omega
  have hr := run_make (P := P) w t e i z ht hi hz kl kc n n (Int.natCast_nonneg n) (Int.le_refl _) hb (by omega)
  simp only [Int.toNat_natCast] at hr
  refine ⟨_, hr, ?_, Mod.alloc _ _⟩
  have hc := made_cells (L := L) (h0 z (by rw [hi]; exact hz)) n
  have := Row.lit L (new_at w (.cells (madeCells z.cells (n * i.size)) e)) (List.replicate n x0) (by rw [hsize]; exact hc) (by simp [maxLen]; omega)
  simpa using this

/-- A cell of an element is written, where its address stands. -/
theorem row_wr {w : World} {e : TypeId} {g l c : Nat} {xs : List α} (h : Row L e w (some ⟨g, 0, none⟩) l c xs) {x : Int} (i : Nat) (hx : x = i) (hi : i < xs.length) {j s : Nat} (hs : L.s = s) (hj : j < L.s) (v : Value) (y : α) (hy : L.cs y = (L.cs xs[i]).set j v) {K : World → Prop}
    (hk : ∀ w', Mod (on g) w w' → Row L e w' (some ⟨g, 0, none⟩) l c (xs.set i y) → K w') :
    (∃ u : Value, w.cell? (Addr.add (Addr.add ⟨g, 0, none⟩ (Int.toNat x * s)) j) = some u) ∧ w.frozen? (Addr.add (Addr.add ⟨g, 0, none⟩ (Int.toNat x * s)) j) = false ∧ atW (w.setCell (Addr.add (Addr.add ⟨g, 0, none⟩ (Int.toNat x * s)) j) v) K := by
  subst hx
  obtain ⟨g', hg', hu, hf, hm, hr⟩ := h.put hi hs hj v y hy
  injection hg' with hg'; injection hg' with hg'; subst hg'
  have e0 : Addr.add (Addr.add (Addr.add ⟨g, 0, none⟩ (i * s)) j) 0 = Addr.add (Addr.add ⟨g, 0, none⟩ (i * s)) j := by rw [add_lit, add_lit, add_lit]; rfl
  rw [e0] at hu hf hm hr
  refine ⟨hu, hf, fun w' e => ?_⟩
  subst e
  exact hk _ hm hr
end
end Go.Proofs.Ytmnbnjkbbhjocaa.St

/- The formulas of functions, printed by a program of mine (gen.py) out of the translation. -/
namespace Go.Proofs.Ytmnbnjkbbhjocaa
open Go Go.Proofs.Ytmnbnjkbbhjocaa.St
set_option maxRecDepth 100000

/-- staith/staithlaw17.ConsumerForgets -/
noncomputable def C7 : Code := (Try.f7.body).getD .skip
def pl7 : Nat → Plan
  | 28 => (.quiet 0 (.quiet 1 (.quiet 2 (.quiet 3 (.quiet 4 (.quiet 5 (.quiet 6 (.quiet 7 (.quiet 8 (.quiet 9 (.quiet 10 (.quiet 11 (.quiet 12 (.quiet 13 (.quiet 14 (.quiet 15 (.eff 16 [] (.quiet 17 (.quiet 18 .done)))))))))))))))))))
  | _ => .done
def ls7 : Nat → List (Nat × LT)
  | 7 => [(35, (.one (.int .i64)))]
  | 16 => [(51, (.one (.int .i64)))]
  | 25 => [(14, (.one (.int .i64))), (71, (.one (.int .i64)))]
  | 28 => [(0, .agg []), (14, (.one (.int .i64)))]
  | _ => []
def W7 (actsa : Option Addr) (actsl : Nat) (actsc : Nat) (queue : ByteArray) (w : World) (R : Value → World → Prop) : Prop :=
  (Ca Try.prog (8) (Array.mk []) (w) (fun v0 => (fun w1 =>
    (∃ p2 : Option Addr, ((v0 = Value.pointer p2) ∧ (atW (World.alloc w1 (Obj.cells (Array.mk [Value.slice none 0 0]) 44 (0, 0))) (fun w3 =>
      (Ca Try.prog (15) (Array.mk [Value.slice actsa actsl actsc]) (w3) (fun v4 => (fun w5 =>
        (∃ b6 : Bool, ((v4 = Value.bool b6) ∧ (ifK (!b6)
          (Ca Try.prog (14) (Array.mk []) (w5) (fun v7 => (fun w8 =>
            (∃ b9 : Bool, ((v7 = Value.bool b9) ∧ (R (Value.bool b9) (w8)))))))
          (ifK (decide ((↑(ByteArray.size queue) : Int) > 500))
            (Ca Try.prog (14) (Array.mk []) (w5) (fun v10 => (fun w11 =>
              (∃ b12 : Bool, ((v10 = Value.bool b12) ∧ (R (Value.bool b12) (w11)))))))
            (∃ z13 : Int → World → Prop, (∃ z14 : Int → World → Nat, ((z13 (0) (w5)) ∧ (∀ (_ : Nat → Value), (∀ (x16 : Int), (∀ (w17 : World), ((z13 (x16) (w17)) → (ifK (decide (x16 < (↑actsl : Int)))
              (∃ a18 : Addr, ((actsa = some a18) ∧ (((0 : Int) ≤ x16) ∧ (((x16 : Int) < (↑actsl : Int)) ∧ (∃ x19 : Int, ((World.cell? w17 (Addr.add (Addr.add a18 (Int.toNat x16 * 5)) 0) = some (Value.int IntKind.i64 x19)) ∧ (∃ x20 : Int, ((World.cell? w17 (Addr.add (Addr.add a18 (Int.toNat x16 * 5)) 1) = some (Value.int IntKind.i64 x20)) ∧ (∃ s21 : ByteArray, ((World.cell? w17 (Addr.add (Addr.add a18 (Int.toNat x16 * 5)) 2) = some (Value.string s21)) ∧ (∃ x22 : Int, ((World.cell? w17 (Addr.add (Addr.add a18 (Int.toNat x16 * 5)) 3) = some (Value.int IntKind.i64 x22)) ∧ (∃ x23 : Int, ((World.cell? w17 (Addr.add (Addr.add a18 (Int.toNat x16 * 5)) 4) = some (Value.int IntKind.u64 x23)) ∧ (atW (World.alloc w17 (Obj.cells (Array.mk [Value.int IntKind.i64 0, Value.int IntKind.i64 0, Value.string (ByteArray.mk #[]), Value.int IntKind.i64 0, Value.int IntKind.u64 0]) 47 (0, 0))) (fun w24 =>
                ((∃ v25 : Value, (World.cell? w24 (Addr.add (Addr.mk (Array.size (World.heap w17)) 0 none) 0) = some v25)) ∧ ((World.frozen? w24 (Addr.add (Addr.mk (Array.size (World.heap w17)) 0 none) 0) = false) ∧ (atW (World.setCell w24 (Addr.add (Addr.mk (Array.size (World.heap w17)) 0 none) 0) (Value.int IntKind.i64 x19)) (fun w26 =>
                  ((∃ v27 : Value, (World.cell? w26 (Addr.add (Addr.mk (Array.size (World.heap w17)) 0 none) 1) = some v27)) ∧ ((World.frozen? w26 (Addr.add (Addr.mk (Array.size (World.heap w17)) 0 none) 1) = false) ∧ (atW (World.setCell w26 (Addr.add (Addr.mk (Array.size (World.heap w17)) 0 none) 1) (Value.int IntKind.i64 x20)) (fun w28 =>
                    ((∃ v29 : Value, (World.cell? w28 (Addr.add (Addr.mk (Array.size (World.heap w17)) 0 none) 2) = some v29)) ∧ ((World.frozen? w28 (Addr.add (Addr.mk (Array.size (World.heap w17)) 0 none) 2) = false) ∧ (atW (World.setCell w28 (Addr.add (Addr.mk (Array.size (World.heap w17)) 0 none) 2) (Value.string s21)) (fun w30 =>
                      ((∃ v31 : Value, (World.cell? w30 (Addr.add (Addr.mk (Array.size (World.heap w17)) 0 none) 3) = some v31)) ∧ ((World.frozen? w30 (Addr.add (Addr.mk (Array.size (World.heap w17)) 0 none) 3) = false) ∧ (atW (World.setCell w30 (Addr.add (Addr.mk (Array.size (World.heap w17)) 0 none) 3) (Value.int IntKind.i64 x22)) (fun w32 =>
                        ((∃ v33 : Value, (World.cell? w32 (Addr.add (Addr.mk (Array.size (World.heap w17)) 0 none) 4) = some v33)) ∧ ((World.frozen? w32 (Addr.add (Addr.mk (Array.size (World.heap w17)) 0 none) 4) = false) ∧ (atW (World.setCell w32 (Addr.add (Addr.mk (Array.size (World.heap w17)) 0 none) 4) (Value.int IntKind.u64 x23)) (fun w34 =>
                          (∃ x35 : Int, ((World.cell? w34 (Addr.add (Addr.mk (Array.size (World.heap w17)) 0 none) 0) = some (Value.int IntKind.i64 x35)) ∧ (∃ x36 : Int, ((World.cell? w34 (Addr.add (Addr.mk (Array.size (World.heap w17)) 0 none) 1) = some (Value.int IntKind.i64 x36)) ∧ (∃ s37 : ByteArray, ((World.cell? w34 (Addr.add (Addr.mk (Array.size (World.heap w17)) 0 none) 2) = some (Value.string s37)) ∧ (∃ x38 : Int, ((World.cell? w34 (Addr.add (Addr.mk (Array.size (World.heap w17)) 0 none) 3) = some (Value.int IntKind.i64 x38)) ∧ (∃ x39 : Int, ((World.cell? w34 (Addr.add (Addr.mk (Array.size (World.heap w17)) 0 none) 4) = some (Value.int IntKind.u64 x39)) ∧ (Ca Try.prog (16) (Array.mk [Value.pointer p2, Value.pointer (some (Addr.mk (Array.size (World.heap w1)) 0 none)), Value.agg (Array.mk (List.reverse [Value.int IntKind.u64 x39, Value.int IntKind.i64 x38, Value.string s37, Value.int IntKind.i64 x36, Value.int IntKind.i64 x35]))]) (w34) (fun v40 => (fun w41 =>
                            (∃ b42 : Bool, ((v40 = Value.bool b42) ∧ ((z13 (IntKind.wrap IntKind.i64 (x16 + 1)) (w41)) ∧ (z14 (IntKind.wrap IntKind.i64 (x16 + 1)) w41 < z14 x16 w17)))))))))))))))))))))))))))))))))))))))))))))))))))))
              (Ca Try.prog (13) (Array.mk [Value.pointer p2]) (w17) (fun v43 => (fun w44 =>
                (∃ p45 : Option Addr, (∃ n46 : Nat, (∃ n47 : Nat, ((v43 = Value.slice p45 n46 n47) ∧ (∃ v48 : Value, (∃ w49 : World, ((Sem.run Try.prog (Instr.makeSlice 65 (Value.int IntKind.i64 (↑n46 : Int)) (Value.int IntKind.i64 (↑n46 : Int))) w44 = Result.ok v48 w49) ∧ (∃ p50 : Option Addr, (∃ n51 : Nat, (∃ n52 : Nat, ((v48 = Value.slice p50 n51 n52) ∧ (∃ z53 : Int → World → Prop, (∃ z54 : Int → World → Nat, ((z53 (0) (w49)) ∧ (∀ (_ : Nat → Value), (∀ (x56 : Int), (∀ (w57 : World), ((z53 (x56) (w57)) → (ifK (decide (x56 < (↑n46 : Int)))
                  (∃ a58 : Addr, ((p45 = some a58) ∧ (((0 : Int) ≤ x56) ∧ (((x56 : Int) < (↑n46 : Int)) ∧ (∃ x59 : Int, ((World.cell? w57 (Addr.add a58 (Int.toNat x56 * 1)) = some (Value.int IntKind.i64 x59)) ∧ (Ca Try.prog (19) (Array.mk [Value.pointer p2, Value.int IntKind.i64 x59]) (w57) (fun v60 => (fun w61 =>
                    (∃ s62 : ByteArray, (∃ p63 : Option Addr, (∃ n64 : Nat, (∃ n65 : Nat, (∃ b66 : Bool, ((v60 = Value.tuple (Array.mk (List.reverse [Value.bool b66, Value.agg (Array.mk (List.reverse [Value.slice p63 n64 n65, Value.string s62]))]))) ∧ (∃ a67 : Addr, ((p50 = some a67) ∧ (((0 : Int) ≤ x56) ∧ (((x56 : Int) < (↑n51 : Int)) ∧ ((∃ v68 : Value, (World.cell? w61 (Addr.add (Addr.add a67 (Int.toNat x56 * 2)) 0) = some v68)) ∧ ((World.frozen? w61 (Addr.add (Addr.add a67 (Int.toNat x56 * 2)) 0) = false) ∧ (atW (World.setCell w61 (Addr.add (Addr.add a67 (Int.toNat x56 * 2)) 0) (Value.string s62)) (fun w69 =>
                      ((∃ v70 : Value, (World.cell? w69 (Addr.add (Addr.add a67 (Int.toNat x56 * 2)) 1) = some v70)) ∧ ((World.frozen? w69 (Addr.add (Addr.add a67 (Int.toNat x56 * 2)) 1) = false) ∧ (atW (World.setCell w69 (Addr.add (Addr.add a67 (Int.toNat x56 * 2)) 1) (Value.slice p63 n64 n65)) (fun w71 =>
                        ((z53 (IntKind.wrap IntKind.i64 (x56 + 1)) (w71)) ∧ (z54 (IntKind.wrap IntKind.i64 (x56 + 1)) w71 < z54 x56 w57)))))))))))))))))))))))))))))
                  (Ca Try.prog (23) (Array.mk [Value.pointer p2, Value.string queue]) (w57) (fun v72 => (fun w73 =>
                    (∃ p74 : Option Addr, (∃ n75 : Nat, (∃ n76 : Nat, ((v72 = Value.slice p74 n75 n76) ∧ (∃ z77 : Int → Int → World → Prop, (∃ z78 : Int → Int → World → Nat, ((z77 (0) (0) (w73)) ∧ (∀ (_ : Nat → Value), (∀ (x80 : Int), (∀ (x81 : Int), (∀ (w82 : World), ((z77 (x80) (x81) (w82)) → (ifK (decide (x81 < (↑n46 : Int)))
                      (∃ z83 : Int → World → Prop, ((∃ a84 : Addr, ((p45 = some a84) ∧ (((0 : Int) ≤ x81) ∧ (((x81 : Int) < (↑n46 : Int)) ∧ (∃ x85 : Int, ((World.cell? w82 (Addr.add a84 (Int.toNat x81 * 1)) = some (Value.int IntKind.i64 x85)) ∧ (Ca Try.prog (19) (Array.mk [Value.pointer p2, Value.int IntKind.i64 x85]) (w82) (fun v86 => (fun w87 =>
                        (∃ s88 : ByteArray, (∃ p89 : Option Addr, (∃ n90 : Nat, (∃ n91 : Nat, (∃ b92 : Bool, ((v86 = Value.tuple (Array.mk (List.reverse [Value.bool b92, Value.agg (Array.mk (List.reverse [Value.slice p89 n90 n91, Value.string s88]))]))) ∧ (atW (World.alloc w87 (Obj.cells (Array.mk [Value.string (ByteArray.mk #[]), Value.slice none 0 0]) 33 (0, 0))) (fun w93 =>
                          ((∃ v94 : Value, (World.cell? w93 (Addr.add (Addr.mk (Array.size (World.heap w87)) 0 none) 0) = some v94)) ∧ ((World.frozen? w93 (Addr.add (Addr.mk (Array.size (World.heap w87)) 0 none) 0) = false) ∧ (atW (World.setCell w93 (Addr.add (Addr.mk (Array.size (World.heap w87)) 0 none) 0) (Value.string s88)) (fun w95 =>
                            ((∃ v96 : Value, (World.cell? w95 (Addr.add (Addr.mk (Array.size (World.heap w87)) 0 none) 1) = some v96)) ∧ ((World.frozen? w95 (Addr.add (Addr.mk (Array.size (World.heap w87)) 0 none) 1) = false) ∧ (atW (World.setCell w95 (Addr.add (Addr.mk (Array.size (World.heap w87)) 0 none) 1) (Value.slice p89 n90 n91)) (fun w97 =>
                              (∃ a98 : Addr, ((p50 = some a98) ∧ (((0 : Int) ≤ x81) ∧ (((x81 : Int) < (↑n51 : Int)) ∧ (∃ s99 : ByteArray, ((World.cell? w97 (Addr.add (Addr.add a98 (Int.toNat x81 * 2)) 0) = some (Value.string s99)) ∧ (ifK (b92 == (ByteArray.toList s99 == ByteArray.toList queue))
                                (R (Value.bool false) (w97))
                                (ifK (!b92)
                                  (ifK (decide (x80 ≥ (↑n75 : Int)))
                                    (R (Value.bool false) (w97))
                                    (∃ a100 : Addr, ((p74 = some a100) ∧ (((0 : Int) ≤ x80) ∧ (((x80 : Int) < (↑n75 : Int)) ∧ (∃ x101 : Int, ((World.cell? w97 (Addr.add a100 (Int.toNat x80 * 1)) = some (Value.int IntKind.i64 x101)) ∧ (ifK (x101 != x85)
                                      (R (Value.bool false) (w97))
                                      (z83 (IntKind.wrap IntKind.i64 (x80 + 1)) (w97))))))))))
                                  (atW (World.drew w97) (fun w102 =>
                                    (∃ s103 : ByteArray, ((World.cell? w102 (Addr.add (Addr.mk (Array.size (World.heap w87)) 0 none) 0) = some (Value.string s103)) ∧ (∃ a104 : Addr, ((p50 = some a104) ∧ (((0 : Int) ≤ x81) ∧ (((x81 : Int) < (↑n51 : Int)) ∧ (∃ s105 : ByteArray, ((World.cell? w102 (Addr.add (Addr.add a104 (Int.toNat x81 * 2)) 0) = some (Value.string s105)) ∧ (ifK (!ByteArray.toList s103 == ByteArray.toList s105)
                                      (R (Value.bool false) (w102))
                                      (∃ p106 : Option Addr, (∃ n107 : Nat, (∃ n108 : Nat, ((World.cell? w102 (Addr.add (Addr.mk (Array.size (World.heap w87)) 0 none) 1) = some (Value.slice p106 n107 n108)) ∧ (∃ a109 : Addr, ((p50 = some a109) ∧ (((0 : Int) ≤ x81) ∧ (((x81 : Int) < (↑n51 : Int)) ∧ (∃ p110 : Option Addr, (∃ n111 : Nat, (∃ n112 : Nat, ((World.cell? w102 (Addr.add (Addr.add a109 (Int.toNat x81 * 2)) 1) = some (Value.slice p110 n111 n112)) ∧ (Ca Try.prog (21) (Array.mk [Value.slice p106 n107 n108, Value.slice p110 n111 n112]) (w102) (fun v113 => (fun w114 =>
                                        (∃ b115 : Bool, ((v113 = Value.bool b115) ∧ (ifK (!b115)
                                          (R (Value.bool false) (w114))
                                          (z83 (x80) (w114)))))))))))))))))))))))))))))))))))))))))))))))))))))))))))))))) ∧ (∀ (_ : Nat → Value), (∀ (x117 : Int), (∀ (w118 : World), ((z83 (x117) (w118)) → ((z77 (x117) (IntKind.wrap IntKind.i64 (x81 + 1)) (w118)) ∧ (z78 x117 (IntKind.wrap IntKind.i64 (x81 + 1)) w118 < z78 x80 x81 w82))))))))
                      (Ca Try.prog (10) (Array.mk [Value.pointer p2, Value.string queue]) (w82) (fun v119 => (fun w120 =>
                        (∃ x121 : Int, (∃ b122 : Bool, ((v119 = Value.tuple (Array.mk (List.reverse [Value.bool b122, Value.int IntKind.i64 x121]))) ∧ (ifK (x80 == (↑n75 : Int))
                          (ifK (!b122)
                            (Ca Try.prog (23) (Array.mk [Value.pointer p2, Value.string queue]) (w120) (fun v123 => (fun w124 =>
                              (∃ p125 : Option Addr, (∃ n126 : Nat, (∃ n127 : Nat, ((v123 = Value.slice p125 n126 n127) ∧ (ifK ((↑n126 : Int) == 0)
                                (Ca Try.prog (14) (Array.mk []) (w124) (fun v128 => (fun w129 =>
                                  (∃ b130 : Bool, ((v128 = Value.bool b130) ∧ (R (Value.bool b130) (w129)))))))
                                (R (Value.bool false) (w124))))))))))
                            (R (Value.bool false) (w120)))
                          (R (Value.bool false) (w120)))))))))))))))))))))))))))))))))))))))))))))))))))))))))))))))))))))
theorem ca7 (actsa : Option Addr) (actsl : Nat) (actsc : Nat) (queue : ByteArray) (w : World) (R : Value → World → Prop) (h : W7 actsa actsl actsc queue w R) : Ca Try.prog 7 ⟨[(.slice actsa actsl actsc), (.string queue)]⟩ w R := by
  have h1 : Try.prog.follows .mixedOrders = true := by kernel_rfl
  have h2 : Try.f7.body = some C7 := by kernel_rfl
  have h3 : (Try.f7.name == "runtime.NumGoroutine") = false := by kernel_rfl
  have h6 : Try.f7.results.toList = [.tmp 4] := by kernel_rfl
  have h4 : Nat.ble 2 151 = true := by kernel_rfl
  have h5 : okCode 151 pl7 ls7 C7 0 = true := by kernel_rfl
  have e : W7 actsa actsl actsc queue w R = wpC none Try.prog 151 pl7 ls7 C7 0 (endP Try.prog [.tmp 4] R) (fr0 [(.slice actsa actsl actsc), (.string queue)]) [] w := by kernel_rfl
  exact ca_of' (P := Try.prog) (g := 7) (fn := Try.f7) (c := C7) (m := 151) (rs := [.tmp 4]) (args := [(.slice actsa actsl actsc), (.string queue)]) (pl := pl7) (ls := ls7) (w := w) (R := R) h1 Try.func7 h2 Try.ntmps7 h6 h3 h4 h5 (Eq.mp e h)
end Go.Proofs.Ytmnbnjkbbhjocaa

/- The law ConsumerForgets, walked: who forgets a queue drops just those that want it. -/
namespace Go.Proofs.Ytmnbnjkbbhjocaa
open Go Go.Proofs.Ytmnbnjkbbhjocaa.St

/-- What a client held, as it lies. -/
structure HeldC where
  queue : ByteArray
  ta : Option Addr
  tl : Nat
  tc : Nat
def heldL : Lay HeldC where
  cs x := [.string x.queue, .slice x.ta x.tl x.tc]
  s := 2
  pos := by decide
  len _ := rfl
  one x v hv := by simp at hv; rcases hv with rfl | rfl <;> rfl
theorem rowHeld : laidOk Try.prog 65 33 heldL.s = true := by kernel_rfl
theorem zeroHeld : (Try.prog.info? 33).bind (·.zero) = some (.agg #[.string (ByteArray.mk #[]), .slice none 0 0]) := by kernel_rfl

/-- h tells what the client n of the line l holds; its row is new since B. -/
structure HeldAt (l : List One) (B : Nat) (w : World) (h : HeldC) (n : Int) : Prop where
  ex : ∃ x ∈ l, x.client = n ∧ h.queue = x.queue ∧ ∃ zs, Ints .u64 27 w h.ta h.tl h.tc zs ∧ zs.Perm x.tags ∧ Srt zs 0 h.tl
  new : ∀ k, rowB h.ta k → B ≤ k
theorem HeldAt.mod {l : List One} {B : Nat} {S : Nat → Prop} {w w' : World} {h : HeldC} {n : Int} (hh : HeldAt l B w h n) (hm : Mod S w w') (hs : ∀ k, B ≤ k → k < w.heap.size → ¬ S k) : HeldAt l B w' h n := by
  obtain ⟨⟨x, hx, h1, h2, zs, h3, h4⟩, hn⟩ := hh
  exact ⟨⟨x, hx, h1, h2, zs, h3.mod hm fun k hk => hs k (hn k hk) (h3.blk k hk), h4⟩, hn⟩

theorem find_in {l : List One} (hU : (l.map (·.client)).Nodup) {x : One} (hx : x ∈ l) {n : Int} (hn : x.client = n) : l.find? (·.client == n) = some x := by
  cases hf : l.find? (·.client == n) with
  | none =>
    have := List.find?_eq_none.1 hf x hx
    simp [hn] at this
  | some y =>
    have h1 := List.mem_of_find?_eq_some hf
    have h2 := List.find?_some hf
    rw [uniq hU h1 hx (by rw [hn]; simpa using h2)]

theorem fout_append (l : List One) (q : ByteArray) (s t : List Int) : fout l q (s ++ t) = fout l q s ++ fout l q t := List.filter_append ..
theorem fout_one {l : List One} (hU : (l.map (·.client)).Nodup) (q : ByteArray) {x : One} (hx : x ∈ l) {n : Int} (hn : x.client = n) : fout l q [n] = if qIs q x = true then [n] else [] := by
  have : (l.any fun x => x.client == n && qIs q x) = qIs q x := by
    rw [Bool.eq_iff_iff, List.any_eq_true]
    constructor
    · rintro ⟨y, hy, hyn⟩
      simp only [Bool.and_eq_true, beq_iff_eq] at hyn
      rw [← uniq hU hy hx (by rw [hyn.1, hn])]
      exact hyn.2
    · intro h
      exact ⟨x, hx, by simp [hn, h]⟩
  rw [fout, List.filter_cons, this]
  cases qIs q x <;> rfl
theorem fout_none {l : List One} {q : ByteArray} (h : ∀ x ∈ l, qIs q x = false) (s : List Int) : fout l q s = [] := by
  rw [fout, List.filter_eq_nil_iff]
  intro n _
  have : (l.any fun x => x.client == n && qIs q x) = false := by
    rw [List.any_eq_false]
    intro x hx
    rw [h x hx, Bool.and_false]
    decide
  rw [this]
  decide

theorem forg_ok (a : Option Addr) (l c : Nat) (acs : List ActC) (queue : ByteArray) (w : World) (hr : ArgRow actL w a l c acs) (R : Value → World → Prop) (h : ∀ w', Mod no w w' → R (.bool true) w') :
    Ca Try.prog 7 #[.slice a l c, .string queue] w R := by
  have hal := hr.len
  have hlc := hr.lc
  have hcm := hr.cm
  refine ca7 a l c queue w R ?_
  refine new_dk w _ fun w1 m1 hd1 => ⟨_, rfl, ?_⟩
  intro w3 e3
  have m3 : Mod no w1 w3 := by subst e3; exact Mod.alloc _ _
  have b3 : w3.heap[w1.heap.size]? = some (.cells #[.slice none 0 0] 44 (0, 0)) := by subst e3; exact new_at _ _
  clear e3
  have t3 := two_new m1 hd1 m3 b3
  refine light_ok a l c acs w3 (hr.no t3.mod) _ fun w5 b m5 => ⟨b, rfl, ?_⟩
  have live : ∀ w', Mod no w w' → Ca Try.prog 14 #[] w' (fun v w'' => ∃ b : Bool, v = .bool b ∧ R (.bool b) w'') := fun w' m' => lives_ok w' _ fun w'' m'' => ⟨true, rfl, h w'' (m'.trans m'')⟩
  have t5 := t3.no m5
  refine ifK_not (fun _ => live w5 t5.mod) (fun _ => ifK_of (fun _ => live w5 t5.mod) (fun _ => ?_))
  refine ⟨fun x w' => ∃ (i : Nat) (F G : Nat → Prop) (ll rr : List One), x = i ∧ i ≤ l ∧ Two w no w' w.heap.size w1.heap.size F G ll rr ∧ Sync ll rr ∧ WF ll, fun x _ => ((l : Int) - x).toNat,
    ⟨0, _, _, [], [], rfl, Nat.zero_le _, t5, AllAt.nil, WF.nil⟩, ?_⟩
  clear t3 t5 m5 b3 m3 hd1
  rintro _ _ w6 ⟨i, F, G, ll, rr, rfl, hi, t6, hs, hw⟩
  refine ifK_dec (fun hlt => ?_) (fun _ => ?_)
  · have e1 : IntKind.i64.wrap ((i : Int) + 1) = ((i + 1 : Nat) : Int) := by rw [wrap64 (by omega) (by omega)]; rfl
    rw [e1]
    clear e1
    refine copyAct (hr.no t6.mod) i rfl (by omega) fun w7 b7 m7 => ?_
    have hi' : i < acs.length := by omega
    refine ⟨acs[i].kind, by rw [cl1 b7]; rfl, acs[i].client, by rw [cl1 b7]; rfl, acs[i].queue, by rw [cl1 b7]; rfl, acs[i].n, by rw [cl1 b7]; rfl, acs[i].tag, by rw [cl1 b7]; rfl, ?_⟩
    refine act_ok w no _ _ F G ll rr _ _ _ _ _ w7 (t6.no m7) hs hw _ fun w8 F8 G8 l8 r8 t8 hs8 hw8 => ⟨true, rfl, ?_⟩
    exact ⟨⟨i + 1, F8, G8, l8, r8, rfl, by omega, t8, hs8, hw8⟩, by simp only; omega⟩
  -- the desk, as it is now
  have hd6 := t6.dk
  have hfb : ∀ k, F k → w.heap.size ≤ k ∧ k < w6.heap.size := fun k hk => ⟨(t6.fb k hk).1.elim (fun h => h.elim) id, (t6.fb k hk).2.1⟩
  have m6 := t6.mod
  clear t6 hs
  have hl32 := hw.len
  have hU := hw.uniq
  have hwt := hw.tagsLt
  have hwt' : ∀ x ∈ ll, x.tags.length < 1099511627776 := fun x hx => by have := hwt x hx; omega
  refine clients_ok _ F ll w6 hd6 (by omega) _ fun w7 p n c' ys hy hyp hys m7 hyn => ⟨_, _, _, rfl, ?_⟩
  have hyl := hy.len.1
  have hyr := hyp.length_eq
  rw [List.length_map] at hyr
  have hn32 : n ≤ 32 := by omega
  obtain ⟨w8, hrun, hrow8, m8⟩ := row_make (P := Try.prog) (w := w7) (L := heldL) rowHeld (x0 := ⟨ByteArray.mk #[], none, 0, 0⟩) (fun z hz => by rw [zeroHeld] at hz; cases hz; rfl) .i64 .i64 n (by omega)
  refine ⟨_, w8, hrun, _, _, _, rfl, ?_⟩
  have hdk8 := (hd6.no m7).no m8
  have s7 := m7.size
  have s8 := m8.size
  have hB : w7.heap.size < w8.heap.size := hrow8.lt _ (by simp [rowB])
  generalize hBe : w7.heap.size = B at hrow8 hB
  -- what each holds
  refine ⟨fun x w' => ∃ (i : Nat) (hh : List HeldC), x = i ∧ i ≤ n ∧ Mod (on B) w8 w' ∧ Row heldL 33 w' (some ⟨B, 0, none⟩) n n hh ∧ ∀ (k : Nat) (h1 : k < hh.length) (h2 : k < ys.length), k < i → HeldAt ll w8.heap.size w' hh[k] ys[k], fun x _ => ((n : Int) - x).toNat,
    ⟨0, _, rfl, Nat.zero_le _, Mod.refl _ _, hrow8, fun k _ _ hk => by omega⟩, ?_⟩
  rintro _ _ w9 ⟨i, hh, rfl, hi, m9, hrow9, hall⟩
  have keep : ∀ {w'}, Mod (on B) w8 w' → Dk w' w.heap.size F ll := fun hm => hdk8.mod hm fun k hk hS => by cases hS; have := (hfb _ hk).2; omega
  have ykeep : ∀ {w'}, Mod (on B) w8 w' → Ints .i64 3 w' p n c' ys := fun hm => (hy.no m8).mod hm fun k hk hS => by cases hS; have := hy.blk _ hk; omega
  have hhl := hrow9.len.1
  have h1' : ∀ {i : Nat}, i < n → IntKind.i64.wrap ((i : Int) + 1) = ((i + 1 : Nat) : Int) := fun h => wSucc (by omega)
  have hxs : ∀ {i : Nat} (hiy : i < ys.length), ∃ x ∈ ll, x.client = ys[i] := fun hiy => by
    obtain ⟨x, hx, he⟩ := List.mem_map.1 (hyp.mem_iff.1 (List.getElem_mem hiy))
    exact ⟨x, hx, he⟩
  refine ifK_dec (fun hlt => ?_) (fun hge => ?_)
  · have hiy : i < ys.length := by omega
    rw [h1' (by omega)]
    refine (ykeep m9).rd i rfl (by omega) ?_
    rw [at0_eq hiy]
    obtain ⟨x, hx, hxc⟩ := hxs hiy
    refine hold_ok _ F ll _ w9 (keep m9) hwt' _ (fun hn => by rw [find_in hU hx hxc] at hn; cases hn) (fun y hfy w10 ra rl rc zs m10 hra hzp hzs hzn => ?_)
    have hyx : y = x := by rw [find_in hU hx hxc] at hfy; exact (Option.some.inj hfy).symm
    subst hyx
    refine ⟨_, _, _, _, _, rfl, ⟨B, 0, none⟩, rfl, by omega, hlt, ?_⟩
    have s9 := m9.size
    refine row_wr (hrow9.no m10) i rfl (by omega) rfl (by decide) (.string y.queue) { hh[i] with queue := y.queue } rfl fun w11 m11 hrow11 => ?_
    refine row_wr hrow11 i rfl (by simp; omega) rfl (by decide) (.slice ra rl rc) ⟨y.queue, ra, rl, rc⟩ (by simp [heldL]) fun w12 m12 hrow12 => ?_
    have m12' := m11.trans m12
    have m92 : Mod (on B) w9 w12 := m10.no_trans m12'
    refine ⟨⟨i + 1, _, rfl, by omega, m9.trans m92, hrow12, fun k h1 h2 hk => ?_⟩, by simp only; omega⟩
    by_cases e : k = i
    · subst e
      rw [List.getElem_set_self]
      exact ⟨⟨y, hx, hxc, rfl, zs, hra.mod m12' fun k hk hS => by cases hS; have := hzn _ hk; omega, hzp, hzs⟩, fun k hk => by have := hzn k hk; omega⟩
    · simp only [List.length_set] at h1
      rw [List.getElem_set_ne (fun h => e h.symm), List.getElem_set_ne (fun h => e h.symm)]
      exact (hall k h1 h2 (by omega)).mod m92 fun k h1 _ hS => by cases hS; omega
  -- the queue is forgotten
  have hin : i = n := by omega
  subst hin
  refine forget_ok _ F ll queue w9 (keep m9) hwt' (by omega) hU (fun k hk => by have := (hfb k hk).2; have := m9.size; omega) _ fun w10 p2 n2 c2 ys2 hyp2 hys2 hout hd10 m10 hn10 => ⟨_, _, _, rfl, ?_⟩
  have hyy : ys2 = ys := srt_eq hys2 (by rw [hyl]; exact hys) (hyp2.trans hyp.symm)
  subst hyy
  have s9 := m9.size
  have hFB : ∀ k, w8.heap.size ≤ k → ¬ F k := fun k h1 h2 => by have := (hfb k h2).2; omega
  have hrow10 : Row heldL 33 w10 (some ⟨B, 0, none⟩) i i hh := hrow9.mod m10 fun k hk hF => by simp [rowB] at hk; have := (hfb k hF).2; omega
  have hall10 : ∀ (k : Nat) (h1 : k < hh.length) (h2 : k < ys2.length), HeldAt ll w8.heap.size w10 hh[k] ys2[k] := fun k h1 h2 => (hall k h1 h2 (by omega)).mod m10 fun k h1 _ => hFB k h1
  have hy10 : Ints .i64 3 w10 p i c' ys2 := (ykeep m9).mod m10 fun k hk hF => by have := (hfb k hF).2; have := hyn k hk; omega
  have hm10 : Mod no w w10 := by
    have h1 : Mod (on B) w w9 := ((m6.trans m7).trans m8).no_trans m9
    have h2 : Mod no w w9 := ((m6.trans m7).trans m8).new m9 fun k hk => by cases hk; have := m6.size; omega
    exact h2.new m10 fun k hk => (hfb k hk).1
  clear hall hrow9
  have hoL := hout.len.1
  have hd10' := hd10
  generalize hlp : (ll.filter fun x => !(qIs queue x)) = lp at hd10
  have hlpm : ∀ x, x ∈ lp ↔ x ∈ ll ∧ qIs queue x = false := fun x => by rw [← hlp, List.mem_filter]; simp
  have hlpU : (lp.map (·.client)).Nodup := by rw [← hlp]; exact (List.Sublist.map _ List.filter_sublist).nodup hU
  have hlpt : ∀ x ∈ lp, x.tags.length < 1099511627776 := fun x hx => hwt' x ((hlpm x).1 hx).1
  have hlpl : lp.length ≤ 32 := by rw [← hlp]; exact Nat.le_trans (List.length_filter_le _ _) hl32
  refine ⟨fun k x w' => ∃ j : Nat, x = j ∧ j ≤ i ∧ k = ((fout ll queue (ys2.take j)).length : Int) ∧ Mod no w10 w', fun _ x _ => ((i : Int) - x).toNat, ⟨0, rfl, Nat.zero_le _, rfl, Mod.refl _ _⟩, ?_⟩
  rintro _ _ _ w11 ⟨j, rfl, hj, rfl, m11⟩
  refine ifK_dec (fun hlt => ?_) (fun hge => ?_)
  · have hjy : j < ys2.length := by omega
    rw [h1' (i := j) (by omega)]
    have htk : ys2.take (j + 1) = ys2.take j ++ [ys2[j]] := List.take_succ_eq_append_getElem hjy
    refine ⟨fun k w' => k = ((fout ll queue (ys2.take (j + 1))).length : Int) ∧ Mod no w10 w', ?_, ?_⟩
    · refine (hy10.no m11).rd j rfl (by omega) ?_
      rw [at0_eq hjy]
      obtain ⟨x, hx, hxc⟩ := hxs hjy
      obtain ⟨⟨x', hx', hxc', hxq, zs0, hz0, hzp0, hzs0⟩, hnew0⟩ := hall10 j (by omega) hjy
      have hxx : x' = x := uniq hU hx' hx (by rw [hxc', hxc])
      subst hxx
      have hfo := fout_one hU queue hx hxc
      have hrow11 := hrow10.no m11
      obtain ⟨g, hgB, hg⟩ := hrow11.getS (i := j) (by omega) (s := 2) rfl
      injection hgB with hgB; injection hgB with hgB; subst hgB
      cases hq : qIs queue x' with
      | true =>
        have hnone : lp.find? (·.client == ys2[j]) = none := by
          rw [List.find?_eq_none]
          intro y hy hyc
          have hy' := (hlpm y).1 hy
          have : y = x' := uniq hU hy'.1 hx (by rw [hxc]; simpa using hyc)
          subst this
          rw [hq] at hy'
          cases hy'.2
        refine hold_ok _ F lp _ w11 (hd10.no m11) hlpt _ (fun _ w12 m12 => ?_) (fun y hy => by rw [hnone] at hy; cases hy)
        refine ⟨_, _, _, _, _, rfl, ?_⟩
        intro w13 e13
        have m13 : Mod no w12 w13 := by subst e13; exact Mod.alloc _ _
        have b13 : w13.heap[w12.heap.size]? = some (.cells #[.string (ByteArray.mk #[]), .slice none 0 0] 33 (0, 0)) := by subst e13; exact new_at _ _
        clear e13
        refine fillC_ok (vs := [.string (ByteArray.mk #[]), .slice none 0 0]) b13 rfl fun w14 b14 m14 _ => ?_
        have m14' : Mod no w11 w14 := m12.trans (m13.new m14 fun k hk => by cases hk; exact Nat.le_refl _)
        obtain ⟨g', hgB', hg'⟩ := (hrow11.no m14').getS (i := j) (by omega) (s := 2) rfl
        injection hgB' with hgB'; injection hgB' with hgB'; subst hgB'
        refine ⟨_, rfl, by omega, by omega, _, hg' 0 _ rfl, ?_⟩
        have hqq : (hh[j].queue.toList == queue.toList) = true := by rw [hxq]; exact hq
        rw [hqq]
        refine (ifK_of (fun h => by cases h) (fun _ => ?_) : ifK (false == true) _ _)
        rw [hq, if_pos rfl] at hfo
        have hall : fout ll queue ys2 = fout ll queue (ys2.take j) ++ (ys2[j] :: fout ll queue (ys2.drop (j + 1))) := by
          conv => lhs; rw [← List.take_append_drop j ys2, List.drop_eq_getElem_cons hjy]
          rw [fout_append, show ys2[j] :: ys2.drop (j + 1) = [ys2[j]] ++ ys2.drop (j + 1) from rfl, fout_append, hfo]
          rfl
        have hklt : (fout ll queue (ys2.take j)).length < n2 := by rw [← hoL, hall]; simp
        have hat : at0 (fout ll queue ys2) (fout ll queue (ys2.take j)).length = ys2[j] := by
          rw [at0_eq (by rw [hoL]; exact hklt)]
          simp only [hall]
          rw [List.getElem_append_right (Nat.le_refl _)]
          simp
        refine (ifK_of (fun _ => ?_) (fun h => by cases h) : ifK (!false) _ _)
        refine ifK_dec (fun hge => by omega) (fun _ => ?_)
        refine ((hout.no m11).no m14').rd _ rfl hklt ?_
        rw [hat]
        refine ifK_of (fun h => by simp at h) (fun _ => ?_)
        refine ⟨?_, m11.trans m14'⟩
        have hkn : (fout ll queue (ys2.take (j + 1))).length = (fout ll queue (ys2.take j)).length + 1 := by rw [htk, fout_append, hfo]; simp
        rw [hkn]
        refine wSucc ?_
        have h1 : (fout ll queue (ys2.take j)).length ≤ (ys2.take j).length := List.length_filter_le _ _
        rw [List.length_take] at h1
        omega
      | false =>
        have hin : x' ∈ lp := (hlpm x').2 ⟨hx, hq⟩
        have hsome := find_in hlpU hin hxc
        refine hold_ok _ F lp _ w11 (hd10.no m11) hlpt _ (fun hn => by rw [hsome] at hn; cases hn) (fun y hfy w12 ra rl rc zs m12 hra hzp hzs hzn => ?_)
        have hyx : y = x' := by rw [hsome] at hfy; exact (Option.some.inj hfy).symm
        subst hyx
        refine ⟨_, _, _, _, _, rfl, ?_⟩
        intro w13 e13
        have m13 : Mod no w12 w13 := by subst e13; exact Mod.alloc _ _
        have b13 : w13.heap[w12.heap.size]? = some (.cells #[.string (ByteArray.mk #[]), .slice none 0 0] 33 (0, 0)) := by subst e13; exact new_at _ _
        clear e13
        refine fillC_ok (vs := [.string y.queue, .slice ra rl rc]) b13 rfl fun w14 b14 m14 _ => ?_
        have m14n : Mod no w12 w14 := m13.new m14 fun k hk => by cases hk; exact Nat.le_refl _
        have m14' : Mod no w11 w14 := m12.trans m14n
        obtain ⟨g', hgB', hg'⟩ := (hrow11.no m14').getS (i := j) (by omega) (s := 2) rfl
        injection hgB' with hgB'; injection hgB' with hgB'; subst hgB'
        refine ⟨_, rfl, by omega, by omega, _, hg' 0 _ rfl, ?_⟩
        have hqq : (hh[j].queue.toList == queue.toList) = false := by rw [hxq]; exact hq
        rw [hqq]
        refine (ifK_of (fun h => by cases h) (fun _ => ?_) : ifK (true == false) _ _)
        refine (ifK_of (fun h => by cases h) (fun _ => ?_) : ifK (!true) _ _)
        intro w15 e15
        have m15 : Mod no w14 w15 := by subst e15; exact Mod.drew _
        clear e15
        have m15' := m14'.trans m15
        have b15 := m15.at' b14
        obtain ⟨g', hgB', hg'⟩ := (hrow11.no m15').getS (i := j) (by omega) (s := 2) rfl
        injection hgB' with hgB'; injection hgB' with hgB'; subst hgB'
        refine ⟨_, by rw [cl1 b15]; rfl, _, rfl, by omega, by omega, _, hg' 0 _ rfl, ?_⟩
        rw [hxq]
        refine ifK_of (fun h => by simp at h) (fun _ => ?_)
        refine ⟨ra, rl, rc, by rw [cl1 b15]; rfl, _, rfl, by omega, by omega, _, _, _, hg' 1 _ rfl, ?_⟩
        have hzl := hra.len.1
        have hzl0 := hz0.len.1
        have heq : zs = zs0 := srt_eq (by rw [hzl]; exact hzs) (by rw [hzl0]; exact hzs0) (hzp.trans hzp0.symm)
        refine tags_ok _ _ _ _ _ _ _ _ w15 ((hra.no m14n).no m15) ((hz0.no m11).no m15') (by have := hwt _ hx; have := hzp.length_eq; omega) _ fun w16 m16 => ⟨_, rfl, ?_⟩
        rw [decide_eq_true heq]
        refine (ifK_of (fun h => by cases h) (fun _ => ?_) : ifK (!true) _ _)
        refine ⟨?_, (m11.trans m15').trans m16⟩
        rw [hq, if_neg (by decide)] at hfo
        rw [htk, fout_append, hfo, List.append_nil]
    · rintro _ _ w12 ⟨rfl, m12⟩
      exact ⟨⟨j + 1, rfl, by omega, rfl, m12⟩, by simp only; omega⟩
  · have hji : j = ys2.length := by omega
    rw [hji, List.take_length]
    have hqf : ∀ x ∈ lp, qIs queue x = false := fun x hx => ((hlpm x).1 hx).2
    have hnb : nextB lp queue = false := by
      have : lp.find? (roomO queue) = none := by
        rw [List.find?_eq_none]
        intro x hx
        have := hqf x hx
        rw [qIs] at this
        rw [roomO, this, Bool.false_and]
        decide
      rw [nextB, this]; rfl
    refine next_dk _ F lp queue w11 (hd10.no m11) _ fun w12 m12 => ⟨_, _, rfl, ?_⟩
    rw [hnb]
    refine ifK_eq (fun _ => ?_) (fun hne => absurd (by rw [hoL]) hne)
    refine (ifK_of (fun _ => ?_) (fun h => by cases h) : ifK (!false) _ _)
    have s10 := m10.size
    have s11 := m11.size
    have s12 := m12.size
    refine forget_ok _ F lp queue w12 ((hd10.no m11).no m12) hlpt (by omega) hlpU (fun k hk => by have := (hfb k hk).2; omega) _ fun w13 p3 n3 c3 ys3 _ _ hout3 _ m13 _ => ⟨_, _, _, rfl, ?_⟩
    have hn3 : n3 = 0 := by
      have := hout3.len.1
      rw [fout_none hqf] at this
      simpa using this.symm
    subst hn3
    refine ifK_eq (fun _ => ?_) (fun hne => absurd rfl hne)
    exact live w13 (((hm10.trans m11).trans m12).new m13 fun k hk => (hfb k hk).1)
end Go.Proofs.Ytmnbnjkbbhjocaa

/- An argument that is a list of the law's acts: it is read as it lies. -/
namespace Go.Proofs.Ytmnbnjkbbhjocaa
open Go Go.ChangeShapes Go.WideShapes Go.Deep Go.Proofs.Ytmnbnjkbbhjocaa.St

section
variable {H : Type} {enc : TypeId × Value → H} {P : Program} {w : World} {base : Nat} {spare : Nat → Bool} {held : Bool}
theorem open_slice_fields {t e : TypeId} {fs : Array Field} {fuel : Nat} {cs : List Value} {x : DataW H × List MemPlace} (ht : P.underlying t = some (.slice e)) (he : P.underlying e = some (.struct fs))
    (hone : oneCellFields P fs = true) (hC : P.cellsOf e = fs.size) (h : DataW.trod enc P w base spare held fuel t cs = some x) :
    (cs = [.slice none 0 0] ∧ x = (.nil, [])) ∨
    ∃ (a : Addr) (len cap m : Nat) (D : Nat → DataW H) (Pl : Nat → List MemPlace), cs = [.slice (some a) len cap] ∧ base ≤ a.block ∧ len ≤ cap ∧ cap ≤ maxLen ∧ m = (if spare a.block then cap else len) ∧
      x = (.slice ((List.range len).map D) ((List.range (m - len)).map fun j => D (len + j)), MemPlace.row a (m * fs.size) ++ (List.range m).flatMap Pl) ∧
      ∀ i, i < m → ∃ (ys : List (DataW H × List MemPlace)) (n : Nat), D i = .agg (ys.map (·.1)) ∧ Pl i = ys.flatMap (·.2) ∧ ys.length = fs.size ∧
        ∀ (j : Nat) (f : Field), fs[j]? = some f → ∃ (v : Value) (y : DataW H × List MemPlace), w.cell? (a.add (i * fs.size + j)) = some v ∧ ys[j]? = some y ∧ DataW.trod enc P w base spare held n f.type [v] = some y := by
  rcases open_slice ht h with h0 | ⟨a, len, cap, m, n, D, Pl, hcs, hb, hl, hm, hmm, hx, hi⟩
  · exact .inl h0
  · refine .inr ⟨a, len, cap, m, D, Pl, hcs, hb, hl, hm, hmm, by rw [hC] at hx; exact hx, fun i him => ?_⟩
    obtain ⟨cs', hc, ht'⟩ := hi i him
    rw [hC] at hc
    obtain ⟨ys, n', hn', hy, hlen, hyl, hf⟩ := DataW.trod_struct he ht'
    obtain ⟨_, hcl, hat⟩ := World.cells?_some hc
    simp only [Prod.mk.injEq] at hy
    refine ⟨ys, n', hy.1, hy.2, hyl, fun j f hj => ?_⟩
    obtain ⟨ho, hk⟩ := hone_of hone j f hj
    have hjl : j < fs.size := (Array.getElem?_eq_some_iff.1 hj).1
    have hcell := hat j hjl
    have hv : cs'[j]? = some (cs'[j]'(by omega)) := List.getElem?_eq_getElem (by omega)
    have h1 := hf j f hj
    rw [ho, hk] at h1
    have hone' : (cs'.drop j).take 1 = [cs'[j]'(by omega)] := by
      rw [List.drop_eq_getElem_cons (by omega)]
      rfl
    rw [hone'] at h1
    have hys : ys[j]? = some (ys[j]'(by omega)) := List.getElem?_eq_getElem (by omega)
    refine ⟨_, _, ?_, hys, h1.trans hys⟩
    rw [← Go.Deep.add_add, hcell, hv]
end

theorem cell_lt {w : World} {ad : Addr} {v : Value} (h : w.cell? ad = some v) : ad.block < w.heap.size := by
  unfold World.cell? at h
  cases hh : w.heap[ad.block]? with
  | none => rw [hh] at h; cases h
  | some o => exact lt_of_heap hh

theorem cellsAct : Try.prog.cellsOf 47 = 5 := by kernel_rfl
set_option maxRecDepth 100000 in
theorem args_acts {H : Type} {enc : TypeId × Value → H} {w : World} {v : Value} {d : DataW H} {p : List MemPlace} {base : Nat} {r : Reach} {b0 : Nat} (hv : Value.okWide Try.prog w r b0 40 v) (h : DataW.Trod enc Try.prog w base (fun _ => true) true 40 v d p) :
    ∃ a l c acs, v = .slice a l c ∧ ArgRow actL w a l c acs := by
  obtain ⟨a, l, c, rfl⟩ := okWide_slice Try.underlying40 hv
  obtain ⟨fuel, hf⟩ := h
  rcases open_slice_fields Try.underlying40 Try.underlying47 (by kernel_rfl) cellsAct hf with ⟨hcs, _⟩ | ⟨ad, len, cap, m, D, Pl, hcs, _, hl, hm, hmm, _, hi⟩
  · simp only [Value.cells, List.cons.injEq, and_true] at hcs
    injection hcs with h1 h2 h3
    subst h1; subst h2; subst h3
    exact ⟨none, 0, 0, [], rfl, rfl, Nat.le_refl _, by decide, fun ad h => (by cases h), fun i h => (by simp at h)⟩
  · simp only [Value.cells, List.cons.injEq, and_true] at hcs
    injection hcs with h1 h2 h3
    subst h1; subst h2; subst h3
    have hmc : m = c := by rw [hmm]; rfl
    have hone : ∀ i, i < l → ∃ x : ActC, ∀ j v, (actL.cs x)[j]? = some v → w.cell? (Addr.add ad (i * 5 + j)) = some v := by
      intro i hil
      obtain ⟨ys, n, _, _, _, hg⟩ := hi i (by omega)
      obtain ⟨v0, y0, hc0, _, ht0⟩ := hg 0 _ rfl
      obtain ⟨v1, y1, hc1, _, ht1⟩ := hg 1 _ rfl
      obtain ⟨v2, y2, hc2, _, ht2⟩ := hg 2 _ rfl
      obtain ⟨v3, y3, hc3, _, ht3⟩ := hg 3 _ rfl
      obtain ⟨v4, y4, hc4, _, ht4⟩ := hg 4 _ rfl
      obtain ⟨a0, e0, _, _⟩ := DataW.trod_int Try.underlying3 ht0
      obtain ⟨a1, e1, _, _⟩ := DataW.trod_int Try.underlying3 ht1
      obtain ⟨a2, e2, _, _⟩ := DataW.trod_string Try.underlying9 ht2
      obtain ⟨a3, e3, _, _⟩ := DataW.trod_int Try.underlying3 ht3
      obtain ⟨a4, e4, _, _⟩ := DataW.trod_int Try.underlying27 ht4
      simp only [List.cons.injEq, and_true] at e0 e1 e2 e3 e4
      subst e0 e1 e2 e3 e4
      refine ⟨⟨a0, a1, a2, a3, a4⟩, fun j v hj => ?_⟩
      match j, hj with
      | 0, hj => cases hj; exact hc0
      | 1, hj => cases hj; exact hc1
      | 2, hj => cases hj; exact hc2
      | 3, hj => cases hj; exact hc3
      | 4, hj => cases hj; exact hc4
      | j + 5, hj => simp [actL] at hj
    have hall : ∀ i, ∃ x : ActC, i < l → ∀ j v, (actL.cs x)[j]? = some v → w.cell? (Addr.add ad (i * 5 + j)) = some v := by
      intro i
      by_cases h : i < l
      · obtain ⟨x, hx⟩ := hone i h
        exact ⟨x, fun _ => hx⟩
      · exact ⟨⟨0, 0, ByteArray.mk #[], 0, 0⟩, fun h' => absurd h' h⟩
    obtain ⟨f, hf⟩ := Classical.axiomOfChoice hall
    refine ⟨some ad, l, c, (List.range l).map f, rfl, by simp, hl, by simpa [maxLen] using hm, fun ad' had hl0 => ?_, fun i h => ?_⟩
    · cases had
      have := cell_lt (hf 0 hl0 0 _ rfl)
      rwa [add_block] at this
    · refine ⟨ad, rfl, fun j v hj => ?_⟩
      rw [List.getElem_map, List.getElem_range] at hj
      have := hf i (by simpa using h) j v hj
      rwa [← Go.Deep.add_add] at this
end Go.Proofs.Ytmnbnjkbbhjocaa
