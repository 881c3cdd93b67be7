/- My own walk: a code's walk out of 'wpC'. It names no program. -/
import Derived.Test.YtbmcbbmgdcbhjaaGreatDoorCore7
namespace Go.Proofs.YtbmcbbmgdcbhjaaGreatDoor.St
open Go
section
variable {P : Program} {ops : Array Oper} {n : Nat} {A : List Nat}

theorem opIn_eff {r : Option Nat} {Qe : Exit → Act → World → Prop} {i : Nat} {o : Oper} {a : Act} {w : World} {K : Act → World → Prop} (ho : ops[i]? = some o) (hg : Region.wanted o (yielded ops a.tmps) = true)
    (h : o.wpIn (wide r) 0 P a w K Qe) : wpOpIn (wide r) 0 P ops Qe i K a w := by
  unfold wpOpIn
  simp only [ho, hg, if_true]
  exact h

theorem opIn_val {r : Option Nat} {Qe : Exit → Act → World → Prop} {i : Nat} {o : Oper} {a : Act} {w : World} {K : Act → World → Prop} (ho : ops[i]? = some o)
    (hd : noDefer o.op = true) {v : Value} (hr : (Region.wanted o (yielded ops a.tmps) = true ∧ (execOp a.eval o).run P w = .ok (.value v) w) ∨ (Region.wanted o (yielded ops a.tmps) = false ∧ v = undef))
    (hk : K (a.put o.dst v) w) : wpOpIn (wide r) 0 P ops Qe i K a w := by
  rcases hr with ⟨hg, hr⟩ | ⟨hg, rfl⟩
  · refine opIn_eff ho hg ⟨fun _ _ => trivial, ?_⟩
    have hs : o.semAt (wide r).round a.eval = execOp a.eval o := Oper.semAt_eq _ _ _ fun c e => by rw [e] at hd; simp [noDefer] at hd
    rw [hs, hr]
    exact hk
  · unfold wpOpIn
    simp only [ho, hg, Bool.false_eq_true, if_false]
    exact ⟨fun _ _ => trivial, hk⟩

theorem plan_reach {r : Option Nat} {Q : Fr → World → Prop} {Qe : Exit → Act → World → Prop} {ds : List Deferred} {g : Fr} (fit : Fit n ops A) {listed : Array Bool} {a : Act} {w : World} {i : Nat} {o : Oper}
    {K : Act → World → Prop} (ho : ops[i]? = some o) (hl : listed.getD i false = false) (hdep : ∀ e ∈ o.after, Region.binds .any e = true → listed.getD e.on false = true)
    (hK : ∀ (a' : Act) (w' : World) (L : Nat) (pend : List Nat) (f : Fr) (p : Plan), Inv P n ops A ds g (listed.setIfInBounds i true) a' w' L pend f → okPlan ops.toList A p L pend [] = true → plW P ops Q p f w' → K a' w') :
    ∀ (p : Plan) (L : Nat) (pend alts : List Nat) (f : Fr), Inv P n ops A ds g listed a w L pend f → okPlan ops.toList A p L pend alts = true → i ∉ alts → plW P ops Q p f w →
      Nat.testBit L i = false → wpOpIn (wide r) 0 P ops Qe i K a w := by
  have hfr := fit.free i o ho
  have taken : ∀ (L : Nat) (pend : List Nat) (f : Fr) (p : Plan), Inv P n ops A ds g listed a w L pend f → okPlan ops.toList A p L pend [] = true → plW P ops Q p f w → Nat.testBit L i = true →
      wpOpIn (wide r) 0 P ops Qe i K a w := by
    intro L pend f p I hok hp hL
    obtain ⟨v, hr, I'⟩ := I.take fit ho hL hl (ready_anc fit ho hdep I.clo)
    exact opIn_val ho hfr.1 hr (hK _ _ _ _ _ _ I' hok hp)
  intro p
  induction p with
  | done =>
    intro L pend alts f I hok hia hp hLn
    have ho' : ops.toList[i]? = some o := by simpa using ho
    have := zipIdx_all hok ho'
    simp only at this
    rw [hLn] at this; cases this
  | quiet k p ih =>
    intro L pend alts f I hok hia hp hLn
    unfold okPlan at hok
    unfold plW at hp
    cases hok' : ops[k]? with
    | none =>
      have : ops.toList[k]? = none := by simpa using hok'
      rw [this] at hok; cases hok
    | some ok =>
      have hok2 : ops.toList[k]? = some ok := by simpa using hok'
      rw [hok2] at hok
      rw [hok'] at hp
      simp only [Bool.and_eq_true, Bool.not_eq_true'] at hok
      obtain ⟨⟨⟨h1, h2⟩, h3⟩, h4⟩ := hok
      have go : ∀ (pend' : List Nat) (v : Value), (∀ j, j ∈ pend → j ∈ pend') → okPlan ops.toList A p (L ||| 2 ^ k) pend' [] = true →
          Waits P ops pend' w f k ok v → plW P ops Q p (putF f ok.dst v) w → wpOpIn (wide r) 0 P ops Qe i K a w := by
        intro pend' v hsub hokp hv hp
        have I' := I.quiet fit hok' h1 h2 h3 hv hsub
        by_cases hL' : Nat.testBit (L ||| 2 ^ k) i = true
        · exact taken _ _ _ _ I' hokp hp hL'
        · exact ih _ _ [] _ I' hokp (by simp) hp (by simpa using hL')
      have hgo : ∀ pend' : List Nat, (∀ j, j ∈ pend → j ∈ pend') → okPlan ops.toList A p (L ||| 2 ^ k) pend' [] = true → plW P ops Q p (putF f ok.dst undef) w → wantF ops f ok = false →
          wpOpIn (wide r) 0 P ops Qe i K a w := fun pend' h1 h2 h3 h4 => go pend' undef h1 h2 (.inr ⟨h4, rfl⟩) h3
      by_cases hld : isLoad ok.op = true
      · obtain ⟨t, b, hop⟩ : ∃ t b, ok.op = .load t b := by
          cases hop : ok.op <;> first | exact ⟨_, _, rfl⟩ | (rw [hop] at hld; cases hld)
        rw [hld] at h4
        simp only [hop] at hp
        rcases ifWant_or hp with ⟨hw, hp⟩ | ⟨hw, hp⟩
        · obtain ⟨x, ad, had, hk, hrun, hagain⟩ := ldW_held hp
          have hex : ∀ w' : World, (Instr.loadAt t (ev f b)).run P w' = .ok x w' → (execOp (ev f) ok).run P w' = .ok (.value x) w' := by
            intro w' h
            obtain ⟨dst, op, ty, pos, after, guard⟩ := ok
            simp only at hop
            subst hop
            exact val_of h
          exact go (k :: pend) x (fun j hj => List.mem_cons_of_mem _ hj) h4 (.inl ⟨hw, .inr ⟨List.mem_cons_self, hex w hrun, t, b, ad, hop, had, fun w' hw => hex w' (hagain w' hw)⟩⟩) (partB_K hk)
        · exact hgo (k :: pend) (fun j hj => List.mem_cons_of_mem _ hj) h4 hp hw
      · have hld' : isLoad ok.op = false := by cases h : isLoad ok.op with | false => rfl | true => exact absurd h hld
        rw [hld'] at h4
        rcases ifWant_or hp with ⟨hw, hp⟩ | ⟨hw, hp⟩
        · have hp' : pureW P ok.op f fun v => partB (isSrc ops.toList k) v fun v => plW P ops Q p (putF f ok.dst v) w := by
            cases hop : ok.op <;> first | (simp only [hop] at hp; exact hp) | (rw [hop] at hld; exact absurd rfl hld)
          obtain ⟨v, hk, hrun⟩ := pureW_run hp'
          exact go pend v (fun j hj => hj) h4 (.inl ⟨hw, .inl hrun⟩) (partB_K hk)
        · exact hgo pend (fun j hj => hj) h4 hp hw
  | eff k hold p ih =>
    intro L pend alts f I hok hia hp hLn
    unfold okPlan at hok
    unfold plW at hp
    cases hok' : ops[k]? with
    | none =>
      have : ops.toList[k]? = none := by simpa using hok'
      rw [this] at hok; cases hok
    | some ok =>
      have hok2 : ops.toList[k]? = some ok := by simpa using hok'
      rw [hok2] at hok
      rw [hok'] at hp
      simp only [Bool.and_eq_true, Bool.not_eq_true'] at hok
      obtain ⟨⟨⟨⟨h1, h2⟩, h3⟩, h4⟩, h5⟩ := hok
      have ho' : ops.toList[i]? = some o := by simpa using ho
      have hdL : depsIn L o = true := depsIn_iff.2 fun e he hb => I.sub _ (hdep e he hb)
      have hik := zipIdx_all h3 ho'
      simp only [hLn, hdL, Bool.not_true, Bool.false_or, Bool.or_eq_true] at hik
      have hik : i = k := by
        rcases hik with h | h
        · exact Nat.eq_of_beq_eq_true h
        · exact absurd (hasN_iff.1 h) hia
      subst hik
      rw [ho] at hok'; cases hok'
      have hanc := ready_anc fit ho hdep I.clo
      have hslots : ∀ t, t ∈ opTmps ops.toList o → a.tmps.getD t undef = f t := by
        intro t ht
        refine I.agree t fun j o' hLj hlj hj hdj => ?_
        have hne : j ≠ i := fun e => by subst e; rw [hLn] at hLj; cases hLj
        obtain ⟨d', hd', hq', _⟩ := I.yields j o' hLj hlj hj
        rw [hdj] at hd'; cases hd'
        have := hanc j (quiet_named hq' hdj ho (fun h => hne h.symm) (List.mem_append_right _ ht))
        rw [this] at hlj; cases hlj
      have hex : execOp a.eval o = execOp (ev f) o := exec_same hfr.2.1 hslots (fun _ => rfl) (fun _ => rfl) (fun _ => rfl)
      have hwant := wantF_of (ops := ops) hslots
      have hcov : ∀ j ∈ pend, j ∈ hold ∨ anc A i j := by
        intro j hj
        have := (List.all_eq_true.1 h4) j hj
        rw [Bool.or_eq_true] at this
        exact this.imp hasN_iff.1 id
      rcases ifWant_or hp with ⟨hw, hp⟩ | ⟨hw, hp⟩
      · refine opIn_eff ho (hwant.trans hw) ?_
        refine opW_soundX hp hfr.1 hex fun v w' hv => ?_
        obtain ⟨hpl, _⟩ := heldL_all _ hv
        exact hK _ _ _ _ _ _ (I.eff fit ho hLn hanc hcov (.inr hv)) h5 (partB_K hpl)
      · exact opIn_val ho hfr.1 (.inr ⟨hwant.trans hw, rfl⟩) (hK _ _ _ _ _ _ (I.eff (X := True) fit ho hLn hanc hcov (.inl rfl)) h5 hp)
  | fork p q ihp ihq =>
    intro L pend alts f I hok hia hp hLn
    unfold okPlan at hok
    unfold plW at hp
    simp only [Bool.and_eq_true] at hok
    obtain ⟨⟨h1, h2⟩, h3⟩ := hok
    by_cases hq : i ∈ roots q
    · refine ihq L pend _ f I h3 (fun hm => ?_) hp.2 hLn
      rcases List.mem_append.1 hm with hm | hm
      · have := (List.all_eq_true.1 h1) i hm
        rw [hasN_iff.2 hq] at this; cases this
      · exact hia hm
    · refine ihp L pend _ f I h2 (fun hm => ?_) hp.1 hLn
      rcases List.mem_append.1 hm with hm | hm
      · exact hq hm
      · exact hia hm

theorem plan_any {r : Option Nat} {Q : Fr → World → Prop} {Qe : Exit → Act → World → Prop} {ds : List Deferred} {g : Fr} (fit : Fit n ops A)
    (hQ : ∀ a f w, Rl n a f ds → (∀ t, (∀ (j : Nat) (o : Oper), ops[j]? = some o → o.dst ≠ some t) → f t = g t) → Q f w → Qe .normal a w) : ∀ (fuel : Nat) (listed : Array Bool) (U : List Nat) (a : Act) (w : World) (L : Nat) (pend : List Nat) (f : Fr) (p : Plan),
      U.length ≤ fuel → (∀ j, j < ops.size → listed.getD j false = false → j ∈ U) → Inv P n ops A ds g listed a w L pend f → okPlan ops.toList A p L pend [] = true → plW P ops Q p f w →
      wpAnyIn (wide r) 0 P .any ops Qe fuel listed a w := by
  have ended : ∀ (listed : Array Bool) (a : Act) (w : World) (L : Nat) (pend : List Nat) (f : Fr) (p : Plan), Inv P n ops A ds g listed a w L pend f → okPlan ops.toList A p L pend [] = true → plW P ops Q p f w →
      Region.ready .any ops listed = [] → Qe .normal a w := by
    intro listed a w L pend f p I hok hp hr
    have all : ∀ k, k < ops.size → listed.getD k false = true := by
      intro k
      induction k using Nat.strongRecOn with
      | _ k ih =>
        intro hk
        cases hl : listed.getD k false with
        | true => rfl
        | false =>
          have hm : k ∈ Region.ready .any ops listed := by
            refine mem_ready.2 ⟨?_, ops[k], by simp [hk], fun e he hb => ?_⟩
            · have hks : k < listed.size := by rw [I.size]; exact hk
              simpa [hks] using hl
            · have := (fit.edge k _ e (by simp [hk]) he hb).1
              exact ih _ this (by omega)
          rw [hr] at hm; simp at hm
    have noPend : ∀ j o, Nat.testBit L j = true → listed.getD j false = false → ops[j]? = some o → False := by
      intro j o hL hl ho
      rw [all j (Array.getElem?_eq_some_iff.1 ho).1] at hl; cases hl
    have hagree : ∀ t, a.tmps.getD t undef = f t := fun t => I.agree t fun j o hL hl ho => (noPend j o hL hl ho).elim
    have allL : ∀ j, j < ops.size → Nat.testBit L j = true := fun j hj => I.sub j (all j hj)
    have : Q f w := by
      have key : ∀ (p : Plan) (alts : List Nat), okPlan ops.toList A p L pend alts = true → plW P ops Q p f w → Q f w := by
        intro p
        induction p with
        | done => exact fun _ _ h => h
        | quiet k p _ =>
          intro alts hok _
          unfold okPlan at hok
          cases hk : ops.toList[k]? with
          | none => rw [hk] at hok; cases hok
          | some o =>
            rw [hk] at hok
            have hk' : ops[k]? = some o := by simpa using hk
            have := allL k (Array.getElem?_eq_some_iff.1 hk').1
            rw [this] at hok; simp at hok
        | eff k hold p _ =>
          intro alts hok _
          unfold okPlan at hok
          cases hk : ops.toList[k]? with
          | none => rw [hk] at hok; cases hok
          | some o =>
            rw [hk] at hok
            have hk' : ops[k]? = some o := by simpa using hk
            have := allL k (Array.getElem?_eq_some_iff.1 hk').1
            rw [this] at hok; simp at hok
        | fork p q ihp _ =>
          intro alts hok h
          unfold okPlan at hok
          unfold plW at h
          simp only [Bool.and_eq_true] at hok
          exact ihp _ hok.1.2 h.1
      exact key p [] hok hp
    exact hQ a f w ⟨I.tsz, I.dfs, hagree⟩ I.same this
  intro fuel
  induction fuel with
  | zero =>
    intro listed U a w L pend f p hU hcov I hok hp
    have hU0 : U = [] := List.length_eq_zero_iff.1 (by omega)
    have hr : Region.ready .any ops listed = [] := by
      refine List.eq_nil_iff_forall_not_mem.2 fun j hj => ?_
      obtain ⟨h0, o, ho, _⟩ := mem_ready.1 hj
      have hlt := (Array.getElem?_eq_some_iff.1 ho).1
      have hjs : j < listed.size := by rw [I.size]; exact hlt
      have := hcov j hlt (by simpa [hjs] using h0)
      rw [hU0] at this; simp at this
    exact ⟨hr, ended listed a w L pend f p I hok hp hr⟩
  | succ fuel ih =>
    intro listed U a w L pend f p hU hcov I hok hp
    refine ⟨ended listed a w L pend f p I hok hp, fun i hi => ?_⟩
    obtain ⟨h0, o, ho, hdep⟩ := mem_ready.1 hi
    have hlt := (Array.getElem?_eq_some_iff.1 ho).1
    have his : i < listed.size := by rw [I.size]; exact hlt
    have hl : listed.getD i false = false := by simpa [his] using h0
    have hiU := hcov i hlt hl
    have hK : ∀ (a' : Act) (w' : World) (L : Nat) (pend : List Nat) (f : Fr) (p : Plan), Inv P n ops A ds g (listed.setIfInBounds i true) a' w' L pend f → okPlan ops.toList A p L pend [] = true → plW P ops Q p f w' →
        wpAnyIn (wide r) 0 P .any ops Qe fuel (listed.setIfInBounds i true) a' w' := by
      intro a' w' L' pend' f' p' I' hok' hp'
      refine ih _ (U.erase i) a' w' L' pend' f' p' (by rw [List.length_erase_of_mem hiU]; omega) (fun j hj hlj => ?_) I' hok' hp'
      rw [getD_set his] at hlj
      have hne : j ≠ i := fun e => by subst e; simp at hlj
      rw [if_neg hne] at hlj
      exact (List.mem_erase_of_ne hne).2 (hcov j hj hlj)
    cases hL : Nat.testBit L i with
    | true =>
      have hfr := fit.free i o ho
      obtain ⟨v, hr, I'⟩ := I.take fit ho hL hl (ready_anc fit ho hdep I.clo)
      exact opIn_val ho hfr.1 hr (hK _ _ _ _ _ _ I' hok hp)
    | false => exact plan_reach fit ho hl hdep hK p L pend [] f I hok (by simp) hp hL

theorem plan_region {r : Option Nat} {id : Nat} {Q : Fr → World → Prop} {Qe : Exit → Act → World → Prop} {ds : List Deferred} {p : Plan} {a : Act} {f : Fr} {w : World} (hm : P.follows .mixedOrders = true)
    (hok : okRegion n ops.toList p = true) (hR : Rl n a f ds) (hQ : ∀ a f' w, Rl n a f' ds → (∀ t, (∀ (j : Nat) (o : Oper), ops[j]? = some o → o.dst ≠ some t) → f' t = f t) → Q f' w → Qe .normal a w) (hp : plW P ops Q p f w.drew) :
    (Code.region id ops true).wpIn (wide r) 0 P Qe a w := by
  simp only [okRegion, Bool.and_eq_true] at hok
  obtain ⟨⟨⟨h1, h2⟩, h3⟩, h4⟩ := hok
  have fit := fit_of h1 h2 h3
  refine wpIn_region_any hm ?_
  have hrep : ∀ j, (Array.replicate ops.size false).getD j false = false := by
    intro j
    by_cases h : j < ops.size <;> simp [h]
  refine plan_any fit hQ ops.size _ (List.range ops.size) a w.drew 0 [] f p (by simp) (fun j hj _ => List.mem_range.2 hj) ?_ h4 hp
  refine ⟨by simp, fun j hj => ?_, fun k hk => ?_, fun k hk => ?_, hR.size, hR.defs, fun t _ => hR.get t, fun j o hj => ?_, fun j hj => ?_, fun _ _ => rfl⟩
  · rw [hrep] at hj; cases hj
  · simp at hk
  · rw [hrep] at hk; cases hk
  · simp at hj
  · simp at hj
end
end Go.Proofs.YtbmcbbmgdcbhjaaGreatDoor.St
