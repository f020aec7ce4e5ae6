/- All operations that have effects. -/
import Derived.Test.YtapfloegpaadgaaGreatSyYield
set_option linter.unusedVariables false
set_option linter.unusedSimpArgs false
namespace Go.Sy

section
variable {P : Program} {tb : Tab} {rec : Cmd → St → Ex} {X : Nat → Prop} {L : Loc} {w : World} {F : Frame} {cs : List Frame} {ρ : Operand → AV}

theorem eff_ok {ops : Array Oper} {i : Nat} {rest : List Nat} {k : List Item} {o : Oper} (ih : RecOK P rec) (hT : TabOK P tb) (hS : SpecOK P tb) {fr : Fr} {bel : Below} {st : St} {e : Eff} (he : evEff tb rec o fr bel st = e) (hobl : ∀ s, e.st? = some s → AllObl s.obl)
    (hfun : ∀ f args b s r, rec (.call f args b) s = .ok r → ∃ fn, tb.funcs.get? f = some fn ∧ fn.body.isSome = true)
    (hm : F.mode = .run) (ht : F.todo = .inRegion ops (i :: rest) :: k) (ho : ops[i]? = some o) (hw : Region.wanted o (yielded ops F.tmps) = true)
    (H : HRel X L st.hp w) (hds : DRels X L w fr.defs F.defers) (hrd : fr.round = none → F.roundOf = none) (hb : BelR X L w bel F.kind cs) (hρ : OpRel X L w fr.eval F.eval) : EffOut P X L w F cs ops o rest k fr e := by
  unfold evEff at he
  split at he
  · rename_i v st1 ha
    subst he
    have hnd := not_defer ha (by simp) (by simp)
    obtain ⟨nx, x, w', L', h1, h2, h3, h4, h5⟩ := eff_val hT H hρ ha (hobl _ rfl)
    exact ⟨rfl, rfl, rfl, x, L', w', F.defers, cs, .one (st_val hm ht ho hw (.inr hnd) h1 h2), h3, h4, h5, hds.mono h3, hb.mono h3, .refl _ _⟩
  · rename_i f args st1 ha
    have hnd' := not_defer ha (by simp) (by simp)
    obtain ⟨rfl, _, xs, hxs, hrun⟩ := enter_ok (P := P) hT hρ ha
    have call : ∀ e, evCall rec f args fr bel st1 = e → (∀ s, e.st? = some s → AllObl s.obl) → EffOut P X L w F cs ops o rest k fr e := by
      intro e he hobl
      have hc : (∃ l, e = .err l) ∨ ∃ fn, tb.funcs.get? f = some fn ∧ fn.body.isSome = true := by
        unfold evCall at he
        split at he
        · rename_i h1; exact .inr (hfun _ _ _ _ _ h1)
        · rename_i h1; exact .inr (hfun _ _ _ _ _ h1)
        · exact .inl ⟨_, he.symm⟩
        · exact .inl ⟨_, he.symm⟩
      rcases hc with ⟨l, rfl⟩ | ⟨fn, hfn, hbody⟩
      · trivial
      · exact eff_call ih he hobl hm ht ho H hds hb hxs (st_enter hm ht ho hw (.inr hnd') (hrun fn hfn hbody))
    split at he
    · rename_i c rho lend wr r post tp htp
      rw [Bool.cond_eq_ite] at he
      split at he
      · unfold toldCall at he
        split at he
        · rename_i pre rho' st2 htold
          have main : AllObl (tb.spec f (args.map (seeV { st1 with tape := tp } rho lend)) pre r post :: Unch rho.length wr pre post :: st2.obl) →
              ∃ L' w' F', Steps P (lone F cs w) (lone F' (F :: cs) w') ∧ Ext L w L' w' ∧ HRel X L' st2.hp w' ∧ F'.kind = .normal ∧ (∃ L0 X0, LeaveR P X0 L0 w' F' (endOut r) ∧ ∀ v x, v ∈ endVs r → VRel X0 L0 w' v x → VRel X L' w' (AV.ren rho' v) x) := by
            intro hob
            have hs := hob _ (List.mem_cons_self ..)
            have hun : Unch rho.length wr pre post := hob _ (List.mem_cons_of_mem _ (List.mem_cons_self ..))
            obtain ⟨⟨fn, hfn, hbody⟩, hp⟩ := hS.call _ _ _ _ _ hs
            obtain ⟨post', t1, t2, t3, t4, t5, t6, t7⟩ := told_inv htold
            obtain ⟨hnd, _, _, _⟩ := rhoOK_inv t3
            have H1 : HRel X L ({ st1 with tape := tp } : St).hp w := H
            have hlow := down H1 hnd t1
            have hxs' : VRels (lowX X L rho lend) (lowL L rho) w (args.map (seeV { st1 with tape := tp } rho lend)) xs.toList := by
              refine ⟨by rw [List.length_map]; exact hxs.1, fun j v x hj hx => ?_⟩
              rw [List.getElem?_map, Option.map_eq_some_iff] at hj
              obtain ⟨u, hu, rfl⟩ := hj
              exact see_rel H1 hnd (hxs.2 j u x hu hx)
            obtain ⟨L0', w', F', s1, hE, hH, hk, hl⟩ := hp _ _ w xs (F :: cs) hlow hxs'
            obtain ⟨L', u1, u2, u3⟩ := up H1 htold hun hE hH
            exact ⟨L', w', F', .head (st_enter hm ht ho hw (.inr hnd') (hrun fn hfn hbody)) s1, u1, u2, hk, L0', _, hl, u3⟩
          split at he
          · rename_i v
            subst he
            obtain ⟨L', w', F', s1, hE, hH, hk, L0, X0, hl, hv⟩ := main (hobl _ rfl)
            obtain ⟨x, hx, hvx⟩ := leave_done hl hk
            have s2 := step_leave_returned (c := F) (cs := cs) hx
            rw [finish_op ht ho] at s2
            exact ⟨rfl, rfl, rfl, x, L', w', F.defers, cs, s1.trans (.one s2), hE, hH, hv _ _ (by simp [endVs]) hvx, hds.mono hE, hb.mono hE, .refl _ _⟩
          · rename_i v
            subst he
            obtain ⟨L', w', F', s1, hE, hH, hk, L0, X0, hl, hv⟩ := main (hobl _ rfl)
            obtain ⟨ch, hx, y, older, e1, e2, e3⟩ := leave_pan hl
            have s2 := step_leave_panicked (c := F) (cs := cs) hx
            have e4 : F.raise ch = { F with mode := .panicking ch } := by simp [Frame.raise, hm]
            rw [e4] at s2
            exact ⟨ch, L', w', cs, s1.trans (.one s2), hE, hH, ⟨y, older, e1, e2, hv _ _ (by simp [endVs]) e3⟩, hb.mono hE, .refl _ _⟩
        · subst he; trivial
      · exact call e he hobl
    · exact call e he hobl
  · rename_i l args st1 ha
    have hst : st1 = st := aEff_st (by rw [ha]; rfl) (by rw [ha]; simp)
    subst hst
    exact eff_yield ih hT he hobl hm ht ho hw H hds hb hρ ha
  · rename_i d st1 ha
    obtain ⟨rfl, D, hrun, hD⟩ := defer_ok (P := P) hρ ha
    split at he
    · rename_i hr
      subst he
      exact ⟨rfl, rfl, rfl, undef, L, w, D :: F.defers, cs, .one (st_defer hm ht ho hw (hrd hr) hrun), .refl _ _, H, undef_rel, .cons hD hds, hb, .refl _ _⟩
    · subst he; trivial
  · rename_i st1 ha
    obtain ⟨rfl, _, hrun⟩ := recov_ok (P := P) (w := w) (ρc := F.eval) ha
    split at he
    · rename_i hr
      have hrn := hrd hr
      cases bel with
      | none =>
        subst he
        have hk : F.kind = .normal := hb
        have : tryRecover F cs = none := by unfold tryRecover; rw [hk]
        exact ⟨rfl, rfl, rfl, .nilIface, L, w, F.defers, cs, .one (st_recover hm ht ho hw hrn hrun (.inr ⟨this, rfl, rfl⟩)), .refl _ _, H, .nili, hds, hb, .refl _ _⟩
      | returning =>
        subst he
        obtain ⟨hk, c, r, rfl, hc⟩ := hb
        have : tryRecover F (c :: r) = none := by unfold tryRecover; rw [hk]; simp [hc]
        exact ⟨rfl, rfl, rfl, .nilIface, L, w, F.defers, c :: r, .one (st_recover hm ht ho hw hrn hrun (.inr ⟨this, rfl, rfl⟩)), .refl _ _, H, .nili, hds, ⟨hk, c, r, rfl, hc⟩, .refl _ _⟩
      | panicking v q =>
        obtain ⟨hk, c, r, ch, rfl, hc, x, older, rfl, hold, hv⟩ := hb
        cases q with
        | false =>
          subst he
          have : tryRecover F (c :: r) = some (x, { c with mode := .panicking ({ v := x, recovered := true } :: older) } :: r) := by unfold tryRecover; rw [hk]; simp [hc]
          exact ⟨rfl, rfl, rfl, x, L, w, F.defers, _, .one (st_recover hm ht ho hw hrn hrun (.inl this)), .refl _ _, H, hv, hds, ⟨hk, _, r, _, rfl, rfl, x, older, rfl, hold, hv⟩, .inr ⟨hk, c, r, _, rfl, rfl⟩⟩
        | true =>
          subst he
          have : tryRecover F (c :: r) = none := by unfold tryRecover; rw [hk]; simp [hc]
          exact ⟨rfl, rfl, rfl, .nilIface, L, w, F.defers, c :: r, .one (st_recover hm ht ho hw hrn hrun (.inr ⟨this, rfl, rfl⟩)), .refl _ _, H, .nili, hds, ⟨hk, c, r, _, rfl, hc, x, older, rfl, hold, hv⟩, .refl _ _⟩
    · subst he; trivial
  · rename_i v st1 ha
    subst he
    obtain ⟨rfl, hnd, x, hrun, hv⟩ := pan_ok (P := P) hρ ha
    exact ⟨_, L, w, cs, .one (st_panic hm ht ho hw (.inr hnd) hrun), .refl _ _, H, ⟨x, [], rfl, by simp, hv⟩, hb, .refl _ _⟩
  · subst he; trivial
end
end Go.Sy
