/- A region in the order of its text. -/
import Derived.Test.YtapfloegpaadgaaGreatSyEffOK
set_option linter.unusedVariables false
set_option linter.unusedSimpArgs false
namespace Go.Sy

section
variable {P : Program} {tb : Tab} {rec : Cmd → St → Ex} {X : Nat → Prop} {L : Loc} {w : World} {F : Frame} {cs : List Frame}

noncomputable def putA (t : T AV) (dst : Option Nat) (v : AV) : T AV :=
  match dst with
  | some d => t.set d (some v)
  | none => t
theorem put_rel {t : T AV} {ts : Array Value} (ht : TRel X L w t ts) {dst : Option Nat} (hd : ∀ d, dst = some d → d < ts.size) {v : AV} {x : Value} (hv : VRel X L w v x) :
    TRel X L w (putA t dst v) (putT ts dst x) := by
  cases dst with
  | none => exact ht
  | some d =>
    intro i u hi
    simp only [putA, T.get?_set] at hi
    simp only [putT]
    by_cases e : i = d
    · subst e
      rw [if_pos rfl] at hi
      cases hi
      exact ⟨x, by simp [hd i rfl], hv⟩
    · rw [if_neg e] at hi
      obtain ⟨y, hy, hu⟩ := ht i u hi
      exact ⟨y, by rw [Array.getElem?_setIfInBounds_ne (Ne.symm e)]; exact hy, hu⟩
theorem put_fr (fr : Fr) (dst : Option Nat) (v : AV) : (fr.put dst v).tmps = putA fr.tmps dst v ∧ (fr.put dst v).fn = fr.fn ∧ (fr.put dst v).defs = fr.defs ∧ (fr.put dst v).round = fr.round := by
  cases dst <;> exact ⟨rfl, rfl, rfl, rfl⟩

theorem wanted_ok {ops : Array Oper} {o : Oper} {fr : Fr} {ts : Array Value} {b : Bool} (h : wantedA o ops.toList fr = some b) (ht : ∀ g want d, o.guard = some (g, want) → (ops[g]?).bind (·.dst) = some d → ∀ v, fr.tmps.get? d = some v → ∃ x, ts[d]? = some x ∧ VRel X L w v x) :
    Region.wanted o (yielded ops ts) = b := by
  unfold wantedA at h
  unfold Region.wanted
  split at h
  · rename_i hg; cases h; rw [hg]
  · rename_i g want hg
    rw [hg]
    simp only
    rw [Array.getElem?_toList] at h
    split at h
    · rename_i d hd
      split at h
      · rename_i u hu
        cases h
        obtain ⟨x, hx, hv⟩ := ht g want d hg hd _ hu
        have := hv.bool_inv
        subst this
        simp [yielded, hd, hx]
      · rename_i hu
        cases h
        obtain ⟨x, hx, hv⟩ := ht g want d hg hd _ hu
        have e : yielded ops ts g = none := by
          unfold yielded
          rw [hd]
          simp only [Option.bind_some, hx]
          cases hv <;> rfl
        rw [e]; rfl
      · cases h
    · cases h

/-- the frame behind an operation -/
theorem FRel.done {fr : Fr} {dst : Option Nat} {v : AV} {x : Value} {ds : List Deferred} {td : List Item} (hfn : F.fn = fr.fn) (htm : TRel X L w fr.tmps F.tmps) (hds : DRels X L w fr.defs ds)
    (hrd : match fr.round with | none => F.roundOf = none | some l => ∃ c, F.roundOf = some c ∧ ((∃ o cap sz, L l = .live c o cap sz) ∨ L l = .dead))
    (hd : ∀ d, dst = some d → d < F.tmps.size) (hv : VRel X L w v x) : FRel X L w (fr.put dst v) { F with tmps := putT F.tmps dst x, todo := td, defers := ds } := by
  obtain ⟨e1, e2, e3, e4⟩ := put_fr fr dst v
  refine ⟨by rw [e2]; exact hfn, by rw [e1]; exact put_rel htm hd hv, by rw [e3]; exact hds, by rw [e4]; exact hrd⟩

theorem evOps_ok (ih : RecOK P rec) (hT : TabOK P tb) (hF : FieldsOK tb) (hS : SpecOK P tb) (hfun : ∀ f args b s r, rec (.call f args b) s = .ok r → ∃ fn, tb.funcs.get? f = some fn ∧ fn.body.isSome = true) {ops : Array Oper} {k : List Item} :
    ∀ (l : List Nat) (fr : Fr) (bel : Below) (st : St) (r : Res), evOps tb rec ops.toList l fr bel st = .ok r → ∀ (L : Loc) (w : World) (F : Frame) (cs : List Frame),
      HRel X L st.hp w → AllObl r.st.obl → FRel X L w fr F → F.mode = .run → F.todo = .inRegion ops l :: k → (∀ o ∈ ops.toList, ∀ d, o.dst = some d → d < F.tmps.size) → BelR X L w bel F.kind cs →
      ∃ L' w' F' cs', Lands P X L w F cs r.st L' w' F' cs' ∧ FRel X L' w' r.fr F' ∧ BelR X L' w' r.bel F.kind cs' ∧ OutR X L' w' F' k r.out := by
  intro l
  induction l with
  | nil =>
    intro fr bel st r h L w F cs H ho hf hm ht hd hb
    cases h
    have s : step P (lone F cs w) = .next (lone { F with todo := k } cs w) := step_lone_go (by simp [stepG, stepG.exec, hm, ht])
    exact ⟨L, w, { F with todo := k }, cs, ⟨.one s, .refl _ _, H, rfl, rfl, rfl, rfl, .refl _ _⟩, hf.todo k F.mode, hb, hm, rfl⟩
  | cons i rest ihl =>
    intro fr bel st r h L w F cs H ho hf hm ht hd hb
    simp only [evOps, opOne] at h
    split at h
    · cases h
    · rename_i o hoi
      rw [Array.getElem?_toList] at hoi
      have hmem : o ∈ ops.toList := by
        rw [← Array.getElem?_toList] at hoi
        exact List.mem_of_getElem? hoi
      -- on from behind the operation
      have go : ∀ {fr' : Fr} {bel' : Below} {st' : St} {L' : Loc} {w' : World} {x : Value} {ds : List Deferred} {cs' : List Frame} {v : AV}, evOps tb rec ops.toList rest (fr'.put o.dst v) bel' st'.tick = .ok r →
          Steps P (lone F cs w) (lone { F with tmps := putT F.tmps o.dst x, todo := .inRegion ops rest :: k, defers := ds } cs' w') → Ext L w L' w' → HRel X L' st'.hp w' → VRel X L' w' v x → DRels X L' w' fr'.defs ds → BelR X L' w' bel' F.kind cs' → Unders F.kind cs cs' →
          fr'.tmps = fr.tmps → fr'.fn = fr.fn → fr'.round = fr.round →
          ∃ L' w' F' cs', Lands P X L w F cs r.st L' w' F' cs' ∧ FRel X L' w' r.fr F' ∧ BelR X L' w' r.bel F.kind cs' ∧ OutR X L' w' F' k r.out := by
        intro fr' bel' st' L' w' x ds cs' v h s1 hE hH hv hds hb' hu e1 e2 e3
        have hf' := hf.mono hE
        have hfr : FRel X L' w' (fr'.put o.dst v) { F with tmps := putT F.tmps o.dst x, todo := .inRegion ops rest :: k, defers := ds } :=
          FRel.done (by rw [e2]; exact hf.fn) (by rw [e1]; exact hf'.tmps) hds (by rw [e3]; exact hf'.round) (hd o hmem) hv
        obtain ⟨L2, w2, F2, cs2, l2, hf2, hb2, o2⟩ := ihl _ _ _ _ h L' w' _ cs' (by rw [St.tick_eq]; exact hH) ho hfr hm rfl (fun o' ho' d hd' => by simp only [putT_size]; exact hd o' ho' d hd') hb'
        refine ⟨L2, w2, F2, cs2, ⟨s1.trans l2.steps, hE.trans l2.ext, l2.heap, l2.fn, l2.kind, l2.round, ?_, hu.trans l2.und⟩, hf2, hb2, o2⟩
        rw [l2.size]; exact putT_size _ _ _
      have hwant : ∀ b, wantedA o ops.toList fr = some b → Region.wanted o (yielded ops F.tmps) = b := fun b hb => wanted_ok hb fun g want d _ _ v hv => hf.tmps d v hv
      split at h
      · cases h
      · rename_i hw
        exact go (L' := L) (w' := w) h (.one (st_skipped hm ht hoi (hwant _ hw))) (.refl _ _) H undef_rel hf.defs hb (.refl _ _) rfl rfl rfl
      · rename_i hw
        have hww := hwant _ hw
        split at h
        · rename_i hkd
          have hnd : ∀ c, o.op ≠ .defer c := by intro c e; rw [e] at hkd; cases hkd
          unfold opV at h
          split at h
          · rename_i v st1 hask
            have hoo : AllObl st1.obl := by
              have := (evOps_adv (tb := tb) ih.adv _ _ _ _ _ _ h).all ho
              rw [St.tick_eq] at this
              exact this
            obtain ⟨a1, a2, a3, a4, a5, a6⟩ := askV_ok hask
            have hv := a1 hoo
            unfold aValS at hv
            rw [Bool.cond_eq_ite] at hv
            split at hv
            · rename_i hall
              obtain ⟨x, hx1, hx2⟩ := aVal_ok hT hF hf.evals (fun e he => memAt_of H (List.all_eq_true.1 hall e he)) hv
              exact go (L' := L) (w' := w) h (.one (st_val hm ht hoi hww (.inr hnd) hx1 (.inl rfl))) (.refl _ _) (by rw [hp_of_eq a3 a4]; exact H) hx2 hf.defs hb (.refl _ _) rfl rfl rfl
            · cases hv
          · cases h
        · rename_i hkd
          have hnd : ∀ c, o.op ≠ .defer c := by intro c e; rw [e] at hkd; cases hkd
          unfold opN at h
          split at h
          · rename_i blk mk hnew
            obtain ⟨x, obj, cap, sz, h1, h2⟩ := aNew_ok (P := P) (X := X) (L := L) (w := w) hT hf.evals hnew
            have hE := Ext.new H (next_none st) obj (cap := cap) (sz := sz)
            obtain ⟨h3, h4⟩ := h2 _ st.next (by simp [Loc.set]) hE
            have hal : blk.alive = true := by cases blk <;> first | rfl | exact h4.elim
            exact go h (.one (st_val hm ht hoi hww (.inr hnd) h1 (.inl rfl))) hE (by rw [St.new_hp]; exact H.new (next_none st) hal h4) h3 (hf.defs.mono hE) (hb.mono hE) (.refl _ _) rfl rfl rfl
          · cases h
        · rename_i hkd
          unfold opE at h
          split at h
          · rename_i v fr1 bel1 st1 he
            have hoo : AllObl st1.obl := by
              have := (evOps_adv (tb := tb) ih.adv _ _ _ _ _ _ h).all ho
              rw [St.tick_eq] at this
              exact this
            have := eff_ok ih hT hS he (fun s hs => by cases hs; exact hoo) hfun hm ht hoi hww H hf.defs (fun e => by have := hf.round; rw [e] at this; exact this) hb hf.evals
            obtain ⟨e1, e2, e3, x, L', w', ds, cs', s1, hE, hH, hv, hds, hb', hu⟩ := this
            exact go h s1 hE hH hv hds hb' hu e1 e2 e3
          · rename_i v bel1 st1 he
            cases h
            have := eff_ok ih hT hS he (fun s hs => by cases hs; exact ho) hfun hm ht hoi hww H hf.defs (fun e => by have := hf.round; rw [e] at this; exact this) hb hf.evals
            obtain ⟨ch, L', w', cs', s1, hE, hH, hv, hb', hu⟩ := this
            exact ⟨L', w', { F with mode := .panicking ch }, cs', ⟨s1, hE, hH, rfl, rfl, rfl, rfl, hu⟩, (hf.mono hE).todo F.todo _, hb', ch, rfl, hv⟩
          · cases h
end
end Go.Sy
