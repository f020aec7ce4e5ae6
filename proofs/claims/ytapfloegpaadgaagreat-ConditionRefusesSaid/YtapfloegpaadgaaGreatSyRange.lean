/- A loop over a function. -/
import Derived.Test.YtapfloegpaadgaaGreatSyLoop
set_option linter.unusedVariables false
set_option linter.unusedSimpArgs false
namespace Go.Sy

section
variable {P : Program} {F : Frame} {cs : List Frame} {w : World} {k : List Item} {g : Operand} {ps : Array Tmp} {a b : Code}

def rangeW (w : World) (F : Frame) (ps : Array Tmp) (a b : Code) : World :=
  (w.alloc (.deferred (some []))).alloc (.loop { state := .ready, pending := none, fn := F.fn, tmps := F.tmps, params := ps, assign := a, body := b, defers := w.heap.size })

theorem run_enter (hr : F.roundOf = none) : (Instr.enterLoop F.fn F.tmps ps a b F.roundOf).run P w = .ok (w.heap.size + 1, [{ target := .collected w.heap.size, args := #[] }]) (rangeW w F ps a b) := by
  have n1 : ∀ (o : Obj) (w : World), (newObj o).run P w = .ok w.heap.size (w.alloc o) := fun _ _ => rfl
  simp only [Instr.enterLoop, hr, Sem.run_bind, n1, Result.andThen_ok, Sem.run_pure, rangeW]
  simp

theorem st_range (hm : F.mode = .run) (ht : F.todo = .code (.rangeFunc g ps a b) :: k) (hr : F.roundOf = none) {f : Nat} {first cap : Array Value} (hg : F.eval g = .func (.func f) first cap)
    (hc : ∀ w, (callFunc f (first ++ #[.func (.yield (w.heap.size + 1)) #[] #[]] ++ cap)).run P (rangeW w F ps a b) = .ok (.enter f (first ++ #[.func (.yield (w.heap.size + 1)) #[] #[]] ++ cap)) (rangeW w F ps a b)) :
    step P (lone F cs w) = .next (lone (Frame.enter P f (first ++ #[.func (.yield (w.heap.size + 1)) #[] #[]] ++ cap) .normal) ({ F with todo := .inRangeFunc (w.heap.size + 1) :: k, defers := { target := .collected w.heap.size, args := #[] } :: F.defers } :: cs) (rangeW w F ps a b)) := by
  have he := run_enter (P := P) (w := w) (ps := ps) (a := a) (b := b) hr
  have hev : ∀ td ds m, ({ F with todo := td, defers := ds, mode := m } : Frame).eval g = .func (.func f) first cap := by
    intro td ds m; rw [← hg]; cases g <;> rfl
  have evc : ∀ (G : Frame) v, G.eval (.const v) = v := fun _ _ => rfl
  have hc' := hc w
  simp at hc'
  refine step_lone_go ?_
  simp [stepG, stepG.exec, stepG.apply, hm, ht, he, resolve, Deferred.ofValue, invoke, hev, hc', evc]

theorem run_endLoop {c : Nat} {r : Loop} (h : w.heap[c]? = some (.loop r)) (hs : r.state ≠ .busy) : (Instr.endLoop c).run P w = .ok r.pending (setLoop w c { r with state := .exhausted }) := by
  have hg : (getObj c).run P w = .ok (.loop r) w := by simp [getObj, Sem.run, h]
  have hse := run_setObj (P := P) (o2 := .loop { r with state := .exhausted }) h (by simp)
  have hb : (r.state == LoopState.busy) = false := by
    cases hh : r.state <;> first | rfl | exact absurd hh hs
  simp only [Instr.endLoop, Instr.getLoop, Sem.run_bind, hg, Result.andThen_ok, Sem.run_pure, hb, Bool.false_eq_true, if_false, hse]
  rfl
theorem st_endRange {c : Nat} {r : Loop} (hm : F.mode = .run) (ht : F.todo = .endRangeFunc c :: k) (h : w.heap[c]? = some (.loop r)) (hs : r.state ≠ .busy) :
    step P (lone F cs w) = .next (lone { F with todo := (r.pending.map Item.code).toList ++ k } cs (setLoop w c { r with state := .exhausted })) :=
  step_lone_go (by simp [stepG, stepG.exec, hm, ht, run_endLoop h hs])
end

section
variable {P : Program} {tb : Tab} {rec : Cmd → St → Ex}
theorem range_ok (ih : RecOK P rec) (hT : TabOK P tb) (hfun : ∀ f args b s r, rec (.call f args b) s = .ok r → ∃ fn, tb.funcs.get? f = some fn ∧ fn.body.isSome = true) {g : Operand} {ps : Array Tmp} {a b : Code} {fr : Fr} {bel : Below} {st : St} {r : Res}
    (h : evRange rec g ps a b fr bel st = .ok r) {X : Nat → Prop} {L : Loc} {w : World} {F : Frame} {k : List Item} {cs : List Frame}
    (H : HRel X L st.hp w) (ho : AllObl r.st.obl) (hf : FRel X L w fr F) (hm : F.mode = .run) (ht : F.todo = .code (.rangeFunc g ps a b) :: k) (hc : codeOK F.tmps.size (.rangeFunc g ps a b) = true) (hb : BelR X L w bel F.kind cs) :
    ∃ L' w' F' cs', Lands P X L w F cs r.st L' w' F' cs' ∧ FRel X L' w' r.fr F' ∧ BelR X L' w' r.bel F.kind cs' ∧ OutR X L' w' F' k r.out := by
  unfold evRange at h
  split at h
  · cases h
  · rename_i hrd
    have hr : F.roundOf = none := by have := hf.round; rw [hrd] at this; exact this
    split at h
    · rename_i f args st0 hcv
      obtain ⟨first, cap, hg, rfl⟩ := callV_enter hcv
      have hgv := hf.evals g
      rw [hg] at hgv
      obtain ⟨fs, cps, hx, h1, h2⟩ := hgv.func_inv
      simp only [codeOK, Bool.and_eq_true] at hc
      have hps : ∀ p ∈ ps.toList, p < F.tmps.size := by
        intro p hp
        have := List.all_eq_true.1 hc.1.1 p hp
        rw [blt_dec] at this
        simpa using this
      simp only [] at h
      -- the two new blocks
      have n0 := next_none st
      let L1 : Loc := Loc.set L st.next (.live w.heap.size 0 0 0)
      have hE1 : Ext L w L1 (w.alloc (.deferred (some []))) := Ext.new H n0 _
      have hH1 : HRel X L1 (st.new (.defd false)).hp (w.alloc (.deferred (some []))) := by
        rw [St.new_hp]
        exact H.new n0 rfl (by
          show (w.alloc (.deferred (some []))).heap[w.heap.size]? = some (.deferred (if false = true then none else some []))
          rw [alloc_get]; rfl)
      have n1 := next_none (st.new (.defd false))
      let L2 : Loc := Loc.set L1 (st.next + 1) (.live (w.heap.size + 1) 0 0 0)
      have hsz : (w.alloc (.deferred (some []))).heap.size = w.heap.size + 1 := by
        show (w.heap.push _).size = _
        simp
      have hE2 : Ext L1 (w.alloc (.deferred (some []))) L2 (rangeW w F ps a b) := by
        have := Ext.new hH1 n1 (.loop { state := .ready, pending := none, fn := F.fn, tmps := F.tmps, params := ps, assign := a, body := b, defers := w.heap.size }) (cap := 0) (sz := 0)
        rw [hsz] at this
        exact this
      have hE : Ext L w L2 (rangeW w F ps a b) := hE1.trans hE2
      have hL20 : L2 st.next = .live w.heap.size 0 0 0 := by simp [L2, L1, Loc.set]
      have hL21 : L2 (st.next + 1) = .live (w.heap.size + 1) 0 0 0 := by simp [L2, Loc.set]
      have hH2 : HRel X L2 ((st.new (.defd false)).new (.loop .ready none fr.fn fr.tmps ps.toList a b st.next)).hp (rangeW w F ps a b) := by
        rw [St.new_hp]
        have hget : (rangeW w F ps a b).heap[w.heap.size + 1]? = some (.loop { state := .ready, pending := none, fn := F.fn, tmps := F.tmps, params := ps, assign := a, body := b, defers := w.heap.size }) := by
          have := alloc_get (w.alloc (.deferred (some []))) (.loop { state := .ready, pending := none, fn := F.fn, tmps := F.tmps, params := ps, assign := a, body := b, defers := w.heap.size })
          rw [hsz] at this
          exact this
        have := HRel.new hH1 n1 (o := .loop { state := .ready, pending := none, fn := F.fn, tmps := F.tmps, params := ps, assign := a, body := b, defers := w.heap.size }) (cap := 0) (sz := 0) (x := .loop .ready none fr.fn fr.tmps ps.toList a b st.next) rfl (by
          rw [hsz]
          exact ⟨_, hget, rfl, rfl, hf.fn, by simp, rfl, rfl, hf.tmps.mono hE, ⟨0, 0, 0, .inl hL20⟩, hc.1.2, hc.2, hps⟩)
        rw [hsz] at this
        exact this
      have hxs : VRels X L2 (rangeW w F ps a b) (first ++ [.fn (.yield (st.next + 1)) [] []] ++ cap) (fs ++ #[Value.func (.yield (w.heap.size + 1)) #[] #[]] ++ cps).toList := by
        simp only [Array.toList_append]
        exact ((h1.mono hE).append (.one (.fnY hL21))).append (h2.mono hE)
      have hsn : ((st.new (.defd false)).new (.loop .ready none fr.fn fr.tmps ps.toList a b st.next)).next - 1 = st.next + 1 := rfl
      have hsn2 : ((st.new (.defd false)).new (.loop .ready none fr.fn fr.tmps ps.toList a b st.next)).next - 2 = st.next := rfl
      rw [hsn, hsn2] at h
      have step0 : ∀ rr, rec (.call f (first ++ [.fn (.yield (st.next + 1)) [] []] ++ cap) .none) ((st.new (.defd false)).new (.loop .ready none fr.fn fr.tmps ps.toList a b st.next)) = .ok rr →
          step P (lone F cs w) = .next (lone (Frame.enter P f (fs ++ #[.func (.yield (w.heap.size + 1)) #[] #[]] ++ cps) .normal) ({ F with todo := .inRangeFunc (w.heap.size + 1) :: k, defers := { target := .collected w.heap.size, args := #[] } :: F.defers } :: cs) (rangeW w F ps a b)) := by
        intro rr hrr
        obtain ⟨fn, hfn, hbody⟩ := hfun _ _ _ _ _ hrr
        exact st_range hm ht hr hx (fun w => hT.call f fn hfn hbody _ _)
      split at h
      · rename_i v frc belc st1 hrr
        split at h
        · rename_i s p f' t' ps' a' b' d' hl
          -- back in the caller
          have main : AllObl st1.obl → s ≠ .busy → ∃ L3 w3 r3 F3, Steps P (lone F cs w) (lone F3 cs (setLoop w3 (w.heap.size + 1) r3)) ∧ Ext L w L3 (setLoop w3 (w.heap.size + 1) r3) ∧
              HRel X L3 (st1.put (st.next + 1) (.loop .exhausted p f' t' ps' a' b' d') 0 whole).hp (setLoop w3 (w.heap.size + 1) r3) ∧ F3 = { F with todo := (p.map Item.code).toList ++ k, defers := { target := .collected w.heap.size, args := #[] } :: F.defers } ∧
              DRel X L3 (setLoop w3 (w.heap.size + 1) r3) { f := .junk, args := [], coll := some st.next } { target := .collected w.heap.size, args := #[] } := by
            intro ho1 hnb
            obtain ⟨L3, w3, F3, cs3, s1, hE3, hH3, hfn3, hk3, hu3, _, hl3⟩ := ih.call _ _ _ _ _ hrr X L2 _ _ .normal ({ F with todo := .inRangeFunc (w.heap.size + 1) :: k, defers := { target := .collected w.heap.size, args := #[] } :: F.defers } :: cs) hH2 ho1 hxs rfl
            have hcs := hu3.normal
            subst hcs
            obtain ⟨x, hx3, hv3⟩ := leave_done hl3 hk3
            have s2 := step_leave_returned (c := { F with todo := .inRangeFunc (w.heap.size + 1) :: k, defers := { target := .collected w.heap.size, args := #[] } :: F.defers }) (cs := cs) hx3
            have e2 : ({ F with todo := .inRangeFunc (w.heap.size + 1) :: k, defers := { target := .collected w.heap.size, args := #[] } :: F.defers } : Frame).finish x = { F with todo := .endRangeFunc (w.heap.size + 1) :: k, defers := { target := .collected w.heap.size, args := #[] } :: F.defers } := by simp [Frame.finish]
            rw [e2] at s2
            have hal : (st1.get (st.next + 1)).alive = true := by rw [hl]; rfl
            obtain ⟨c, oo, cp, sz, hL, hB⟩ := hH3.at (St.hp_some hal) hal
            rw [hl] at hB
            have e1 := hE3.loc (st.next + 1) (by rw [hL21]; simp)
            rw [hL, hL21] at e1
            have ec : c = w.heap.size + 1 := by rcases e1 with e1 | e1 <;> cases e1; rfl
            subst ec
            obtain ⟨r2, u1, u2, u3, u4, u5, u6, u7, u8, u9, u10, u11, u12⟩ := hB
            have s3 := st_endRange (P := P) (F := { F with todo := .endRangeFunc (w.heap.size + 1) :: k, defers := { target := .collected w.heap.size, args := #[] } :: F.defers }) (cs := cs) hm rfl u1 (by rw [u2]; exact hnb)
            have hE4 : Ext L3 w3 L3 (setLoop w3 (w.heap.size + 1) { r2 with state := .exhausted }) := Ext.put hL (by simp [setLoop]) (by intro k hk; simp [setLoop, Array.getElem?_setIfInBounds, Ne.symm hk]) rfl rfl rfl
            obtain ⟨_, H4⟩ := loop_put hH3 hL u1 { r2 with state := .exhausted } (x := .loop .exhausted p f' t' ps' a' b' d') rfl ⟨_, setLoop_get u1, rfl, u3, u4, u5, u6, u7, u8.mono hE4, u9, u10, u11, u12⟩
            have hD : DRel X L2 (rangeW w F ps a b) { f := .junk, args := [], coll := some st.next } { target := .collected w.heap.size, args := #[] } := .coll hL20
            refine ⟨L3, w3, { r2 with state := .exhausted }, _, .head (step0 _ hrr) (s1.trans (.head s2 (.one s3))), hE.trans (hE3.trans hE4), ?_, by rw [u3], (hD.mono hE3).mono hE4⟩
            rw [St.put_hp _ _ _ _ _ (St.alive_lt hal)]
            exact H4
          have fin : ∀ (out : Out), AllObl st1.obl → s ≠ .busy → (∀ F3 : Frame, F3.mode = .run → F3.todo = (p.map Item.code).toList ++ k → ∀ X L w, OutR X L w F3 k out) →
              ∃ L' w' F' cs', Lands P X L w F cs (st1.put (st.next + 1) (.loop .exhausted p f' t' ps' a' b' d') 0 whole) L' w' F' cs' ∧ FRel X L' w' { fr with defs := { f := .junk, args := [], coll := some st.next } :: fr.defs } F' ∧ BelR X L' w' bel F.kind cs' ∧ OutR X L' w' F' k out := by
            intro out ho1 hnb hout
            obtain ⟨L3, w3, r3, F3, t1, t2, t3, rfl, t5⟩ := main ho1 hnb
            have hf3 := hf.mono t2
            exact ⟨L3, _, { F with todo := (p.map Item.code).toList ++ k, defers := { target := .collected w.heap.size, args := #[] } :: F.defers }, cs, ⟨t1, t2, t3, rfl, rfl, rfl, rfl, .refl _ _⟩, ⟨hf3.fn, hf3.tmps, .cons t5 hf3.defs, hf3.round⟩, hb.mono t2, hout { F with todo := (p.map Item.code).toList ++ k, defers := { target := .collected w.heap.size, args := #[] } :: F.defers } hm rfl _ _ _⟩
          split at h
          · cases h
          · rename_i hnb
            split at h
            · cases h
              exact fin .norm ho (fun e => hnb (by rw [e])) fun F3 q1 q2 X L w => ⟨q1, by simpa using q2⟩
            · rename_i i
              cases h
              exact fin (.exit i) ho (fun e => hnb (by rw [e])) fun F3 q1 q2 X L w => ⟨q1, [], by simpa using q2, fun _ => rfl⟩
            · cases h
              exact fin .ret ho (fun e => hnb (by rw [e])) fun F3 q1 q2 X L w => ⟨q1, k, by simpa using q2⟩
            · cases h
        · cases h
      · rename_i v frc belc st1 hrr
        cases h
        obtain ⟨L3, w3, F3, cs3, s1, hE3, hH3, hfn3, hk3, hu3, _, hl3⟩ := ih.call _ _ _ _ _ hrr X L2 _ _ .normal ({ F with todo := .inRangeFunc (w.heap.size + 1) :: k, defers := { target := .collected w.heap.size, args := #[] } :: F.defers } :: cs) hH2 ho hxs rfl
        have hcs := hu3.normal
        subst hcs
        obtain ⟨ch, hx3, hv3⟩ := leave_pan hl3
        have s2 := step_leave_panicked (c := { F with todo := .inRangeFunc (w.heap.size + 1) :: k, defers := { target := .collected w.heap.size, args := #[] } :: F.defers }) (cs := cs) hx3
        have e2 : ({ F with todo := .inRangeFunc (w.heap.size + 1) :: k, defers := { target := .collected w.heap.size, args := #[] } :: F.defers } : Frame).raise ch = { F with todo := .inRangeFunc (w.heap.size + 1) :: k, defers := { target := .collected w.heap.size, args := #[] } :: F.defers, mode := .panicking ch } := by simp [Frame.raise, hm]
        rw [e2] at s2
        have hD : DRel X L2 (rangeW w F ps a b) { f := .junk, args := [], coll := some st.next } { target := .collected w.heap.size, args := #[] } := .coll hL20
        have hE' := hE.trans hE3
        have hf3 := hf.mono hE'
        exact ⟨L3, w3, { F with todo := .inRangeFunc (w.heap.size + 1) :: k, defers := { target := .collected w.heap.size, args := #[] } :: F.defers, mode := .panicking ch }, cs, ⟨.head (step0 _ hrr) (s1.trans (.one s2)), hE', hH3, rfl, rfl, rfl, rfl, .refl _ _⟩, ⟨hf3.fn, hf3.tmps, .cons (hD.mono hE3) hf3.defs, hf3.round⟩, hb.mono hE', ch, rfl, hv3⟩
      · cases h
      · cases h
    · cases h
end
end Go.Sy
