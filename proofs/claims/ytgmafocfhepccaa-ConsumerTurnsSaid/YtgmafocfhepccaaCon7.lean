/- The document's examples ('lives'): they are as it says. -/
import Derived.Test.YtgmafocfhepccaaCon6
import Derived.Laws.Strings
namespace Go.Proofs.Ytgmafocfhepccaa
open Go Go.Proofs.Ytgmafocfhepccaa.St

def roomO (queue : ByteArray) (x : One) : Bool := (x.queue.toList == queue.toList) && decide ((x.tags.length : Int) < x.most)
def nextC (l : List One) (queue : ByteArray) : Int := ((l.find? (roomO queue)).map (·.client)).getD 0
def nextB (l : List One) (queue : ByteArray) : Bool := (l.find? (roomO queue)).isSome

theorem next_dk (d : Nat) (F : Nat → Prop) (l : List One) (queue : ByteArray) (w : World) (hd : Dk w d F l) (R : Value → World → Prop)
    (h : ∀ w', Mod no w w' → R (.tuple #[.int .i64 (nextC l queue), .bool (nextB l queue)]) w') :
    Ca Try.prog 10 #[.pointer (some ⟨d, 0, none⟩), .string queue] w R := by
  obtain ⟨row, ws, hda, hl, hF⟩ := hd
  refine next_ok d row ws queue w hda R fun w' hm => ?_
  have h' := h w' hm
  have e : l.find? (roomO queue) = (ws.find? (roomy queue)).map Wish.one := by rw [← hl, ← find_one]; rfl
  rw [nextC, nextB, e, Option.map_map, Option.isSome_map] at h'
  exact h'

theorem Dk.mono {w : World} {d : Nat} {F G : Nat → Prop} {l : List One} (h : Dk w d F l) (hFG : ∀ k, F k → G k) : Dk w d G l :=
  let ⟨row, ws, hd, hl, hF⟩ := h
  ⟨row, ws, hd, hl, fun k hk => hFG k (hF k hk)⟩

/-- What is new since w0. -/
def new (w0 : World) : Nat → Prop := fun k => w0.heap.size ≤ k
theorem news {w0 w w' : World} (h : Mod no w0 w) (h' : Mod (new w0) w w') : Mod no w0 w' := h.new h' fun _ hk => hk

theorem new_dk (w : World) (R : Value → World → Prop) (h : ∀ w', Mod no w w' → Dk w' w.heap.size (new w) [] → R (.pointer (some ⟨w.heap.size, 0, none⟩)) w') : Ca Try.prog 8 #[] w R :=
  new_ok w R fun w' hm hd => h w' hm ⟨none, [], hd, rfl, fun k hk => by simp [fp, fpW] at hk; subst hk; exact Nat.le_refl _⟩

/-- Add, of a desk that is all new since w0. -/
theorem add_dk (w0 : World) (d : Nat) (l : List One) (client : Int) (queue : ByteArray) (most : Int) (w : World) (hm : Mod no w0 w) (hd : Dk w d (new w0) l) (R : Value → World → Prop)
    (h : ∀ w', Mod no w0 w' → Dk w' d (new w0) (addL l client queue most) → R (.int .i64 (addE l client queue most)) w') :
    Ca Try.prog 9 #[.pointer (some ⟨d, 0, none⟩), .int .i64 client, .string queue, .int .i64 most] w R :=
  add_ok d (new w0) l client queue most w hd R fun w' F' hd' hm' hF => h w' (news hm hm') (hd'.mono fun k hk => (hF k hk).elim id fun h => Nat.le_trans hm.size h)

theorem took_dk (w0 : World) (d : Nat) (l : List One) (client tag : Int) (w : World) (hm : Mod no w0 w) (hd : Dk w d (new w0) l) (R : Value → World → Prop)
    (h : ∀ w', Mod no w0 w' → Dk w' d (new w0) (tookL l client tag) → R (.int .i64 (tookE l client tag)) w') :
    Ca Try.prog 11 #[.pointer (some ⟨d, 0, none⟩), .int .i64 client, .int .u64 tag] w R :=
  took_ok d (new w0) l client tag w hd R fun w' hd' hm' => h w' (news hm hm') hd'

theorem settle_dk (w0 : World) (d : Nat) (l : List One) (client tag : Int) (w : World) (hm : Mod no w0 w) (hd : Dk w d (new w0) l) (R : Value → World → Prop)
    (h : ∀ w', Mod no w0 w' → Dk w' d (new w0) (settleL l client tag) → R (.tuple #[.string (settleQ l client tag), .int .i64 (settleE l client tag)]) w') :
    Ca Try.prog 22 #[.pointer (some ⟨d, 0, none⟩), .int .i64 client, .int .u64 tag] w R :=
  settle_ok d (new w0) l client tag w hd R fun w' hd' hm' => h w' (news hm hm') hd'

def qq : ByteArray := ByteArray.mk #[113]
theorem name_q : nameB qq = true := by
  have h1 : lettersB qq = true := by decide
  have h2 : (ByteArray.toList qq == ByteArray.toList (ByteArray.mk #[])) = false := by
    rw [ByteArray.toList_eq, ByteArray.toList_eq]; decide
  rw [nameB, plainB, h1, h2]; decide

theorem lives_ok (w : World) (R : Value → World → Prop) (h : ∀ w', Mod no w w' → R (.bool true) w') : Ca Try.prog 14 #[] w R := by
  refine ca14 w R ?_
  refine new_dk w _ fun w1 m1 d1 => ⟨_, rfl, ?_⟩
  have a1 : addE [] 1 qq 1 = 0 := by simp [addE, name_q]
  have b1 : addL [] 1 qq 1 = [⟨1, qq, 1, []⟩] := by simp [addL, a1]
  refine add_dk w _ _ 1 qq 1 w1 m1 d1 _ fun w4 m4 d4 => ⟨_, rfl, ?_⟩
  rw [a1]
  rw [b1] at d4
  show Ca _ _ _ _ _
  have a2 : addE [⟨1, qq, 1, []⟩] 2 qq 1 = 0 := by simp [addE, name_q]
  have b2 : addL [⟨1, qq, 1, []⟩] 2 qq 1 = [⟨1, qq, 1, []⟩, ⟨2, qq, 1, []⟩] := by simp [addL, a2]
  refine add_dk w _ _ 2 qq 1 w4 m4 d4 _ fun w7 m7 d7 => ⟨_, rfl, ?_⟩
  rw [a2]
  rw [b2] at d7
  show Ca _ _ _ _ _
  refine next_dk _ _ _ qq w7 d7 _ fun w10 m10 => ⟨_, _, rfl, ?_⟩
  have d10 := d7.no m10
  have m10 := m7.trans m10
  have a3 : tookE [⟨1, qq, 1, []⟩, ⟨2, qq, 1, []⟩] 1 5 = 0 := by simp [tookE, holdsB]
  have b3 : tookL [⟨1, qq, 1, []⟩, ⟨2, qq, 1, []⟩] 1 5 = [⟨2, qq, 1, []⟩, ⟨1, qq, 1, [5]⟩] := by simp [tookL, a3, toEnd, List.findIdx?_cons]
  refine took_dk w _ _ 1 5 w10 m10 d10 _ fun w14 m14 d14 => ⟨_, rfl, ?_⟩
  rw [b3] at d14
  refine next_dk _ _ _ qq w14 d14 _ fun w17 m17 => ⟨_, _, rfl, ?_⟩
  have d17 := d14.no m17
  have m17 := m14.trans m17
  refine settle_dk w _ _ 1 5 w17 m17 d17 _ fun w21 m21 d21 => ⟨_, _, rfl, ?_⟩
  have c1 : nextC [⟨1, qq, 1, []⟩, ⟨2, qq, 1, []⟩] qq = 1 := by simp [nextC, roomO]
  have c2 : nextC [⟨2, qq, 1, []⟩, ⟨1, qq, 1, [5]⟩] qq = 2 := by simp [nextC, roomO]
  have c3 : settleQ [⟨2, qq, 1, []⟩, ⟨1, qq, 1, [5]⟩] 1 5 = qq := by simp [settleQ]
  have c4 : settleE [⟨2, qq, 1, []⟩, ⟨1, qq, 1, [5]⟩] 1 5 = 0 := by simp [settleE]
  rw [c1, a3, c2, c3, c4]
  have c5 : (ByteArray.toList qq == ByteArray.toList (ByteArray.mk #[113])) = true := beq_self_eq_true _
  rw [c5]
  exact h w21 m21
end Go.Proofs.Ytgmafocfhepccaa
