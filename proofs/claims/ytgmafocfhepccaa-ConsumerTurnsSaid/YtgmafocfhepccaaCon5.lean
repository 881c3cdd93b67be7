/- Contracts of the program's consumer functions: Settle; and what a desk that no call made answers. -/
import Derived.Test.YtgmafocfhepccaaCon4
namespace Go.Proofs.Ytgmafocfhepccaa
open Go Go.Proofs.Ytgmafocfhepccaa.St

def settleE (l : List One) (client tag : Int) : Int :=
  match l.find? (·.client == client) with
  | none => 3
  | some x => if !x.tags.contains tag then 10 else 0
def settleQ (l : List One) (client tag : Int) : ByteArray :=
  match l.find? (·.client == client) with
  | none => ByteArray.mk #[]
  | some x => if !x.tags.contains tag then ByteArray.mk #[] else x.queue
/-- One changes where it stands. -/
def inPlace (l : List One) (φ : One → Bool) (f : One → One) : List One :=
  match l.findIdx? φ with
  | none => l
  | some i => l.take i ++ (((l.drop i).take 1).map f ++ l.drop (i + 1))
theorem inPlace_at {l a b : List One} {y : One} {φ : One → Bool} (f : One → One) (hl : l = a ++ y :: b) (hi : l.findIdx? φ = some a.length) : inPlace l φ f = a ++ f y :: b := by
  rw [inPlace, hi, hl]
  simp only []
  rw [drop_mid]
  simp
def settleL (l : List One) (client tag : Int) : List One :=
  if settleE l client tag = 0 then inPlace l (·.client == client) fun x => { x with tags := x.tags.erase tag } else l

theorem settle_ok (d : Nat) (F : Nat → Prop) (l : List One) (client tag : Int) (w : World) (hd : Dk w d F l) (R : Value → World → Prop)
    (h : ∀ w', Dk w' d F (settleL l client tag) → Mod F w w' → R (.tuple #[.string (settleQ l client tag), .int .i64 (settleE l client tag)]) w') :
    Ca Try.prog 22 #[.pointer (some ⟨d, 0, none⟩), .int .i64 client, .int .u64 tag] w R := by
  have same : ∀ w' e q, Mod no w w' → settleE l client tag = e → settleQ l client tag = q → e ≠ 0 → R (.tuple #[.string q, .int .i64 e]) w' := by
    intro w' e q hm he hq hne
    have h' := h w' (by rw [settleL, he, if_neg hne]; exact hd.no hm) hm.of_no
    rwa [he, hq] at h'
  obtain ⟨row, ws, hda, hl, hF⟩ := hd
  obtain ⟨sl, sc, hc, hr⟩ := hda.cell
  refine ca22 _ client tag w R ?_
  refine made_of d w _ hc rfl ⟨true, rfl, ?_⟩
  refine ifK_of (fun hb => by cases hb) (fun _ => ?_)
  refine of_ok d row ws client w hda _ fun w4 m4 => ⟨_, rfl, ?_⟩
  have hfl : l.find? (·.client == client) = (ws.find? (·.client == client)).map Wish.one := by rw [← hl, ← find_one]; rfl
  cases hf : ws.find? (·.client == client) with
  | none =>
    rw [hf] at hfl
    exact same _ _ _ m4 (by simp only [settleE, hfl]; rfl) (by simp only [settleQ, hfl]; rfl) (by decide)
  | some x =>
  rw [hf] at hfl
  have hx : x ∈ ws := List.mem_of_find?_eq_some hf
  have hw4 := (hda.wish x hx).mod m4 id id
  refine ⟨some x.m, by rw [cl1 hw4.cell]; rfl, _, _, set_has set70 hw4.tags tag, _, rfl, ?_⟩
  refine ifK_of (fun h1 => same _ _ _ m4 (by simp only [settleE, hfl, Option.map_some]; exact if_pos h1) (by simp only [settleQ, hfl, Option.map_some]; exact if_pos h1) (by decide)) (fun h1 => ?_)
  have hE : settleE l client tag = 0 := by simp only [settleE, hfl, Option.map_some]; exact if_neg (by rw [show (!x.one.tags.contains tag) = false from h1]; decide)
  have hQ : settleQ l client tag = x.queue := by simp only [settleQ, hfl, Option.map_some]; exact if_neg (by rw [show (!x.one.tags.contains tag) = false from h1]; decide)
  obtain ⟨w14, hrun, m14, t14⟩ := set_del (u := 27) (ty := 0) set70 hw4.tags tag
  obtain ⟨a, b, hab, hidx, hcl⟩ := find_split hf
  have hap := fun y hy => fpW_apart (a := a) (b := b) (x := x) (y := y) (by rw [← hab]; exact hda.nd) hy
  have hpm : x.p ≠ x.m := by
    have hn := hda.nd
    rw [hab, fpW_append] at hn
    have := (List.nodup_append.1 hn).2.1
    simp only [fpW, List.flatMap_cons] at this
    have := (List.nodup_append.1 this).1
    simpa using this
  have mAll := m4.no_trans m14
  have hc14 := mAll.at (hda.wish x hx).cell hpm
  refine ⟨some x.m, by rw [cl1 hw4.cell]; rfl, _, w14, hrun, rfl, x.queue, by rw [cl1 hc14]; rfl, ?_⟩
  obtain ⟨hdrow, hnr⟩ := hda.ne_row
  have hsx := hnr x hx
  have h' := h w14 ?_ (mAll.mono fun k _ hk => hF k (by cases hk; exact mem_fp_m hx))
  · rw [hE, hQ] at h'; exact h'
  · have hfp : fpW (a ++ { x with tags := x.tags.erase tag } :: b) = fpW ws := by rw [hab]; simp [fpW]
    have hfp' : ∀ k, fp d row (a ++ { x with tags := x.tags.erase tag } :: b) k ↔ fp d row ws k := by intro k; simp only [fp, hfp]
    have hlen : (a ++ { x with tags := x.tags.erase tag } :: b).length = ws.length := by rw [hab]; simp
    refine ⟨row, a ++ { x with tags := x.tags.erase tag } :: b, ⟨⟨sl, sc, mAll.at hc (fun e => hsx.2.1 e.symm), ?_⟩, ?_, ?_⟩, ?_, ?_⟩
    · rw [hlen]
      have e : (a ++ { x with tags := x.tags.erase tag } :: b).map Wish.ptr = ws.map Wish.ptr := by rw [hab]; simp [Wish.ptr]
      rw [e]
      exact row_mod hr mAll fun k hk e => by cases e; exact hsx.2.2.2 hk
    · intro y hy
      rcases List.mem_append.1 hy with h | h
      · exact (hda.wish y (by rw [hab]; simp [h])).mod mAll (fun e => (hap y (List.mem_append_left _ h)).1 e.symm) (fun e => (hap y (List.mem_append_left _ h)).2.1 e.symm)
      · rcases List.mem_cons.1 h with rfl | h
        · exact ⟨hc14, t14⟩
        · exact (hda.wish y (by rw [hab]; simp [h])).mod mAll (fun e => (hap y (List.mem_append_right _ h)).1 e.symm) (fun e => (hap y (List.mem_append_right _ h)).2.1 e.symm)
    · rw [hfp]; exact hda.apart
    · have hi' : l.findIdx? (·.client == client) = some (a.map Wish.one).length := by rw [← hl, ← findIdx_one, List.length_map]; exact hidx
      rw [settleL, if_pos hE, inPlace_at _ (a := a.map Wish.one) (b := b.map Wish.one) (y := x.one) (by rw [← hl, hab]; simp) hi']
      simp [Wish.one]
    · intro k hk; exact hF k ((hfp' k).1 hk)
end Go.Proofs.Ytgmafocfhepccaa
