/- Unwinding. -/
import Derived.Test.YtapfloegpaadgaaGreatSyFn2
set_option linter.unusedVariables false
set_option linter.unusedSimpArgs false
namespace Go.Sy

section
variable {P : Program} {tb : Tab} {rec : Cmd → St → Ex} {F : Frame} {cs : List Frame} {w w' : World} {ds : List Deferred}

theorem st_take {c : Nat} {as : Array Value} (hm : F.mode ≠ .run) (hd : F.defers = { target := .collected c, args := as } :: ds) (h : w.heap[c]? = some (.deferred (some []))) :
    step P (lone F cs w) = .next (lone { F with defers := ds } cs { w with heap := w.heap.setIfInBounds c (.deferred none) }) := by
  have hg : (getObj c).run P w = .ok (.deferred (some [])) w := by simp [getObj, Sem.run, h]
  have hse := run_setObj (P := P) (o2 := .deferred none) h (by simp)
  have hr : (Instr.takeDeferred c).run P w = .ok [] { w with heap := w.heap.setIfInBounds c (.deferred none) } := by
    simp only [Instr.takeDeferred, Sem.run_bind, hg, Result.andThen_ok, hse, Sem.run_pure]
  refine step_lone_go ?_
  cases hmm : F.mode with
  | run => exact absurd hmm hm
  | _ => simp [stepG, unwind, hmm, hd, hr]
theorem st_defcall {g : Nat} {cap args : Array Value} (hm : F.mode ≠ .run) (hd : F.defers = { target := .fn (.func g) cap, args := args } :: ds) (hr : (callFunc g (args ++ cap)).run P w = .ok (.enter g (args ++ cap)) w) :
    step P (lone F cs w) = .next (lone (Frame.enter P g (args ++ cap) .deferred) ({ F with defers := ds } :: cs) w) := by
  refine step_lone_go ?_
  cases hmm : F.mode with
  | run => exact absurd hmm hm
  | _ => simp [stepG, unwind, callDeferred, invoke, hmm, hd, hr]
/-- a deferred call has returned -/
theorem st_defret {F' c : Frame} {x : Value} (h1 : F'.mode = .returning) (h2 : F'.defers = []) (h3 : F'.kind = .deferred) {fn : Func} (h4 : P.funcs[F'.fn]? = some fn) (h5 : (results fn F'.tmps).run P w = .ok x w) {m : FrameMode}
    (hm : (c.mode = .returning ∧ m = .returning) ∨ (∃ y older, c.mode = .panicking ({ v := y, recovered := true, goexit := false } :: older) ∧ (∀ e ∈ older, e.goexit = false) ∧ m = .returning) ∨ (∃ y older, c.mode = .panicking ({ v := y, recovered := false, goexit := false } :: older) ∧ m = c.mode)) :
    step P (lone F' (c :: cs) w) = .next (lone { c with mode := m } cs w) := by
  refine step_lone_go ?_
  rcases hm with ⟨e1, rfl⟩ | ⟨y, older, e1, e2, rfl⟩ | ⟨y, older, e1, rfl⟩
  · simp [stepG, unwind, doReturn, h1, h2, h3, h4, h5, e1]
    cases c; simp at e1; simp [e1]
  · have : older.dropWhile (fun e => !e.goexit) = [] := by
      clear e1
      induction older with
      | nil => rfl
      | cons a l ih =>
        rw [List.dropWhile_cons_of_pos (by simp [e2 a (List.mem_cons_self ..)])]
        exact ih fun e he => e2 e (List.mem_cons_of_mem _ he)
    simp [stepG, unwind, doReturn, h1, h2, h3, h4, h5, e1, this]
  · simp [stepG, unwind, doReturn, h1, h2, h3, h4, h5, e1]
    cases c; simp at e1; simp [e1]
end
section
variable {P : Program} {tb : Tab} {rec : Cmd → St → Ex}
theorem how_run {X : Nat → Prop} {L : Loc} {w : World} {F : Frame} {how : Below} (h : HowR X L w F how) : F.mode ≠ .run := by
  cases how with
  | none => exact h.elim
  | returning => intro e; have h' : F.mode = .returning := h; rw [e] at h'; cases h'
  | panicking v r => obtain ⟨ch, h1, _⟩ := h; rw [h1]; simp

theorem unwind_ok (ih : RecOK P rec) (hT : TabOK P tb) (hfun : ∀ f args b s r, rec (.call f args b) s = .ok r → ∃ fn, tb.funcs.get? f = some fn ∧ fn.body.isSome = true) {fr : Fr} {how : Below} {st : St} {r : Res} (h : evUnwind tb rec fr how st = .ok r)
    (X : Nat → Prop) (L : Loc) (w : World) (F : Frame) (cs : List Frame) (H : HRel X L st.hp w) (ho : AllObl r.st.obl) (hf : FRel X L w fr F) (hr : F.roundOf = none) (hh : HowR X L w F how) :
    ∃ L' w' F', Steps P (lone F cs w) (lone F' cs w') ∧ Ext L w L' w' ∧ HRel X L' r.st.hp w' ∧ F'.fn = F.fn ∧ F'.kind = F.kind ∧ LeaveR P X L' w' F' r.out := by
  have hnr := how_run hh
  unfold evUnwind at h
  split at h
  · rename_i hd0
    have hd : F.defers = [] := by
      have := hf.defs
      rw [hd0] at this
      generalize F.defers = ds at this
      cases this; rfl
    split at h
    · split at h
      · rename_i fn hfn
        split at h
        · rename_i v hv
          cases h
          obtain ⟨x, hx1, hx2⟩ := results_ok hT H hf.tmps hv
          exact ⟨L, w, F, .refl _ _, .refl _ _, H, rfl, rfl, hh, hd, hr, fn, by rw [hf.fn]; exact hT.funcs _ _ hfn, x, hx1, hx2⟩
        · cases h
      · cases h
    · split at h
      · rename_i fn hfn
        cases h
        obtain ⟨ch, h1, h2⟩ := hh
        exact ⟨L, w, F, .refl _ _, .refl _ _, H, rfl, rfl, ch, h1, hd, hr, ⟨fn, by rw [hf.fn]; exact hT.funcs _ _ hfn⟩, h2⟩
      · cases h
    · cases h
    · cases h
  · rename_i d ds hd0
    have hds := hf.defs
    rw [hd0] at hds
    generalize hFd : F.defers = Ds at hds
    cases hds with
    | @cons _ e _ es h1 h2 =>
    split at h
    · rename_i b hb
      split at h
      · rename_i hbl
        have hal : (st.get b).alive = true := by rw [hbl]; rfl
        have hbn := St.alive_lt hal
        obtain ⟨c, o, cap, sz, hL, hB⟩ := H.at (St.hp_some hal) hal
        rw [hbl] at hB
        have hB' : w.heap[c]? = some (.deferred (some [])) := hB
        cases h1 with
        | call _ _ => cases hb
        | collD hdd => cases hb; rw [hL] at hdd; cases hdd
        | coll hcc =>
          cases hb
          rw [hL] at hcc
          cases hcc
          have s1 := st_take (P := P) (cs := cs) hnr hFd hB'
          have hs : ({ w with heap := w.heap.setIfInBounds c (.deferred none) } : World).heap.size = w.heap.size := by simp
          have hoth : ∀ k, k ≠ c → ({ w with heap := w.heap.setIfInBounds c (.deferred none) } : World).heap[k]? = w.heap[k]? := by intro k hk; simp [Array.getElem?_setIfInBounds, Ne.symm hk]
          have hE := Ext.put (w := w) (w' := { w with heap := w.heap.setIfInBounds c (.deferred none) }) hL hs hoth rfl rfl rfl
          have hcl := (Array.getElem?_eq_some_iff.1 hB').1
          have hH := H.put (w' := { w with heap := w.heap.setIfInBounds c (.deferred none) }) hL hs hoth rfl rfl rfl (x := .defd true) rfl (by simp [BRel, hcl])
          have hf' := hf.mono hE
          have hh' : HowR X L { w with heap := w.heap.setIfInBounds c (.deferred none) } { F with defers := es } how := by
            cases how with
            | none => exact hh
            | returning => exact hh
            | panicking v q => obtain ⟨ch, q1, q2⟩ := hh; exact ⟨ch, q1, q2.mono hE⟩
          obtain ⟨L2, w2, F2, t1, t2, t3, t4, t5, t6⟩ := ih.unwind _ _ _ _ h X L _ { F with defers := es } cs (by rw [St.put_hp _ _ _ _ _ hbn]; exact hH) ho ⟨hf'.fn, hf'.tmps, h2.mono hE, hf'.round⟩ hr hh'
          exact ⟨L2, w2, F2, .head s1 t1, hE.trans t2, t3, t4, t5, t6⟩
      · cases h
    · rename_i hb
      cases h1 with
      | coll _ => cases hb
      | collD _ => cases hb
      | @call g cap args cap' args' k1 k2 =>
        simp only [aCallV, List.nil_append] at h
        have hxs : VRels X L w (args ++ cap) (args' ++ cap').toList := by rw [Array.toList_append]; exact k2.append k1
        have call : ∀ r1, rec (.call g (args ++ cap) how) st = .ok r1 → AllObl r1.st.obl → ∃ L' w' F' m, Steps P (lone F cs w) (lone F' ({ F with defers := es, mode := m } :: cs) w') ∧ Ext L w L' w' ∧ HRel X L' r1.st.hp w' ∧ F'.kind = .deferred ∧ HowR X L' w' { F with defers := es, mode := m } r1.bel ∧ LeaveR P X L' w' F' r1.out := by
          intro r1 hr1 ho1
          obtain ⟨fn, hfn, hbody⟩ := hfun _ _ _ _ _ hr1
          have s1 := st_defcall (P := P) (cs := cs) hnr hFd (hT.call g fn hfn hbody _ w)
          have hbel : BelR X L w how .deferred ({ F with defers := es } :: cs) := by
            cases how with
            | none => exact hh.elim
            | returning => exact ⟨rfl, _, _, rfl, hh⟩
            | panicking v q => obtain ⟨ch, q1, q2⟩ := hh; exact ⟨rfl, _, _, ch, rfl, q1, q2⟩
          obtain ⟨L', w', F', cs', t1, t2, t3, t4, t5, t6, t7, t8⟩ := ih.call _ _ _ _ _ hr1 X L w _ .deferred _ H ho1 hxs hbel
          have hcs : ∃ m, cs' = { F with defers := es, mode := m } :: cs := by
            rcases t6 with rfl | ⟨_, c, rr, m, q1, rfl⟩
            · exact ⟨F.mode, rfl⟩
            · cases q1; exact ⟨m, rfl⟩
          obtain ⟨m, rfl⟩ := hcs
          refine ⟨L', w', F', m, .head s1 t1, t2, t3, t5, ?_, t8⟩
          generalize r1.bel = bb at t7
          cases bb with
          | none => cases t7
          | returning => obtain ⟨_, c, rr, q1, q2⟩ := t7; cases q1; exact q2
          | panicking v q => obtain ⟨_, c, rr, ch, q1, q2, q3⟩ := t7; cases q1; exact ⟨ch, q2, q3⟩
        split at h
        · rename_i v fr1 how1 st1 hr1
          obtain ⟨L1, w1, F1, m, t1, t2, t3, t4, t5, t6⟩ := call _ hr1 ((ih.adv _ _ _ h).all ho)
          obtain ⟨g1, g2, g3, fn, g4, x, g5, g6⟩ := t6
          have fin : ∀ (m' : FrameMode) (how2 : Below), rec (.unwind { fr with defs := ds } how2) st1 = .ok r → HowR X L1 w1 { F with defers := es, mode := m' } how2 → Steps P (lone F1 ({ F with defers := es, mode := m } :: cs) w1) (lone { F with defers := es, mode := m' } cs w1) →
              ∃ L' w' F', Steps P (lone F cs w) (lone F' cs w') ∧ Ext L w L' w' ∧ HRel X L' r.st.hp w' ∧ F'.fn = F.fn ∧ F'.kind = F.kind ∧ LeaveR P X L' w' F' r.out := by
            intro m' how2 h hw2 s2
            have hf' := hf.mono t2
            obtain ⟨L2, w2, F2, v1, v2, v3, v4, v5, v6⟩ := ih.unwind _ _ _ _ h X L1 w1 { F with defers := es, mode := m' } cs t3 ho ⟨hf'.fn, hf'.tmps, h2.mono t2, hf'.round⟩ hr hw2
            exact ⟨L2, w2, F2, t1.trans (s2.trans v1), t2.trans v2, v3, v4, v5, v6⟩
          cases how1 with
          | none => exact t5.elim
          | returning => exact fin m .returning h t5 (.one (st_defret (c := { F with defers := es, mode := m }) g1 g2 t4 g4 g5 (.inl ⟨t5, t5⟩)))
          | panicking u q =>
            obtain ⟨ch, q1, y, older, rfl, q3, q4⟩ := t5
            have q1' : m = .panicking ({ v := y, recovered := q, goexit := false } :: older) := q1
            cases q with
            | true => exact fin .returning .returning h rfl (.one (st_defret (c := { F with defers := es, mode := m }) g1 g2 t4 g4 g5 (.inr (.inl ⟨y, older, q1, q3, rfl⟩))))
            | false => exact fin m (.panicking u false) h ⟨_, q1, y, older, rfl, q3, q4⟩ (.one (st_defret (c := { F with defers := es, mode := m }) g1 g2 t4 g4 g5 (.inr (.inr ⟨y, older, q1, rfl⟩))))
        · rename_i v fr1 how1 st1 hr1
          obtain ⟨L1, w1, F1, m, t1, t2, t3, t4, t5, t6⟩ := call _ hr1 ((ih.adv _ _ _ h).all ho)
          obtain ⟨ch, hlv, hch⟩ := leave_pan t6
          have s2 := step_leave_panicked (c := { F with defers := es, mode := m }) (cs := cs) hlv
          have hra : ∃ ch', ({ F with defers := es, mode := m } : Frame).raise ch = { F with defers := es, mode := .panicking ch' } ∧ ChainR X L1 w1 v false ch' := by
            cases how1 with
            | none => exact t5.elim
            | returning =>
              have e : m = .returning := t5
              subst e
              exact ⟨ch, rfl, hch⟩
            | panicking u q =>
              obtain ⟨ch0, q1, y, older, rfl, q3, q4⟩ := t5
              have e : m = .panicking ({ v := y, recovered := q, goexit := false } :: older) := q1
              subst e
              obtain ⟨x, old, rfl, z1, z2⟩ := hch
              refine ⟨_, rfl, x, old ++ ({ v := y, recovered := q, goexit := false } :: older), rfl, fun e he => ?_, z2⟩
              rcases List.mem_append.1 he with he | he
              · exact z1 e he
              · rcases List.mem_cons.1 he with rfl | he
                · rfl
                · exact q3 e he
          obtain ⟨ch', e1, hch'⟩ := hra
          rw [e1] at s2
          have hf' := hf.mono t2
          obtain ⟨L2, w2, F2, v1, v2, v3, v4, v5, v6⟩ := ih.unwind _ _ _ _ h X L1 w1 { F with defers := es, mode := .panicking ch' } cs t3 ho ⟨hf'.fn, hf'.tmps, h2.mono t2, hf'.round⟩ hr ⟨ch', rfl, hch'⟩
          exact ⟨L2, w2, F2, t1.trans (.head s2 v1), t2.trans v2, v3, v4, v5, v6⟩
        · cases h
        · cases h
end
end Go.Sy
