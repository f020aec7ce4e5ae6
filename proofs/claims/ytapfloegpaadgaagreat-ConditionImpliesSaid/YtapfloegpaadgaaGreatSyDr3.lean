import Derived.Test.YtapfloegpaadgaaGreatSyReg
import Derived.Orders
/- Functions: entered, left, unwound. -/
set_option linter.unusedVariables false
set_option linter.unusedSimpArgs false
namespace Go.Sy

theorem regionOK_mono {N M : Nat} (h : N ≤ M) {ops : List Oper} {draw : Bool} (k : regionOK N ops draw = true) : regionOK M ops draw = true := by
  unfold regionOK at *
  rw [Bool.and_eq_true] at *
  refine ⟨List.all_eq_true.2 fun o ho => ?_, k.2⟩
  have := List.all_eq_true.1 k.1 o ho
  split at this
  · rw [blt_dec] at *; simp at *; omega
  · rfl
theorem codeOK_mono {N M : Nat} (h : N ≤ M) : ∀ (c : Code), codeOK N c = true → codeOK M c = true := by
  intro c
  induction c with
  | region id ops draw => exact regionOK_mono h
  | seq a b iha ihb =>
    intro k
    simp only [codeOK, Bool.and_eq_true] at *
    refine ⟨?_, ihb k.2⟩
    have k1 := k.1
    split
    · rename_i hc
      rw [hc] at k1
      simp only at k1
      split at k1
      · refine List.all_eq_true.2 fun o ho => ?_
        have := List.all_eq_true.1 k1 o ho
        split at this
        · rw [blt_dec] at *; simp at *; omega
        · rfl
      · cases k1
    · rename_i hc
      rw [hc] at k1
      exact iha k1
  | cond c a b iha ihb =>
    intro k
    simp only [codeOK, Bool.and_eq_true] at *
    exact ⟨iha k.1, ihb k.2⟩
  | block id b ih => exact ih
  | loop b ih => exact ih
  | scope b ih => exact ih
  | rangeFunc f ps a b iha ihb =>
    intro k
    simp only [codeOK, Bool.and_eq_true] at *
    refine ⟨⟨List.all_eq_true.2 fun d hd => ?_, iha k.1.2⟩, ihb k.2⟩
    have := List.all_eq_true.1 k.1.1 d hd
    rw [blt_dec] at *; simp at *; omega
  | _ => intro k; rfl

theorem T.fill_get {α : Type} : ∀ (l : List α) (t : T α) (n i : Nat), (T.fill t n l).get? i = if n ≤ i ∧ i < n + l.length then l[i - n]? else t.get? i := by
  intro l
  induction l with
  | nil => intro t n i; simp [T.fill]; intro h1 h2; omega
  | cons x l ih =>
    intro t n i
    simp only [T.fill, ih, T.get?_set, List.length_cons]
    by_cases h : i = n
    · subst h; simp; intro h1; omega
    · by_cases h2 : n ≤ i ∧ i < n + (l.length + 1)
      · rw [if_pos h2, if_pos (by omega)]
        have : i - n = (i - (n + 1)) + 1 := by omega
        rw [this, List.getElem?_cons_succ]
      · rw [if_neg h2, if_neg (by omega), if_neg h]
theorem T.ofList_get {α : Type} (l : List α) (i : Nat) : (T.ofList l).get? i = l[i]? := by
  unfold T.ofList
  rw [T.fill_get]
  by_cases h : i < l.length
  · simp [h]
  · simp [h, T.get?_nil, List.getElem?_eq_none (Nat.le_of_not_lt h)]

section
variable {P : Program} {tb : Tab} {X : Nat → Prop} {L : Loc} {w : World} {F : Frame} {cs : List Frame} {st : St} {fr : Fr}

theorem one_result (hT : TabOK P tb) (H : HRel X L st.hp w) (hf : TRel X L w fr.tmps F.tmps) {r : ResultVar} {v : AV} (h : oneResult tb st fr r = some v) :
    ∃ x, (match r with | .tmp t => (pure (F.tmps.getD t undef) : Sem Value) | .cell a t => do loadVar t (← asAddr (F.tmps.getD a undef))).run P w = .ok x w ∧ VRel X L w v x := by
  have slot : ∀ t, VRel X L w (fr.slot t) (F.tmps.getD t undef) := by
    intro t
    simp only [Fr.slot]
    cases ht : fr.tmps.get? t with
    | none => exact .junk _
    | some v =>
      obtain ⟨y, hy, hv⟩ := hf t v ht
      simp only [Option.getD_some, Array.getD_eq_getD_getElem?, hy]
      exact hv
  cases r with
  | tmp t =>
    simp only [oneResult, Option.some.injEq] at h
    subst h
    exact ⟨_, by simp, slot t⟩
  | cell a t =>
    simp only [oneResult] at h
    split at h
    · rename_i agg size b off hsz ha
      split at h
      · rename_i cs hb
        have hal : (st.get b).alive = true := by rw [hb]; rfl
        obtain ⟨c, o, cap, sz, hL, hB⟩ := H.at (St.hp_some hal) hal
        rw [hb] at hB
        obtain ⟨arr, e, k1, k2, k3, k4⟩ := hB
        have hv := slot a
        rw [ha] at hv
        have hx := hv.ptr_live hL
        obtain ⟨x, hx1, hx2⟩ := run_loadAt hT hsz (c := c) (o := o) h (fun j u h1 h2 hj => by
          obtain ⟨x, hx1, hx2⟩ := k4.get hj
          rw [List.getElem?_take] at hx1
          split at hx1
          · rw [List.getElem?_drop, Array.getElem?_toList] at hx1
            exact ⟨x, by simp [World.cell?, k1, hx1], hx2⟩
          · cases hx1)
        refine ⟨x, ?_, hx2⟩
        simp only [hx]
        simpa [Instr.loadAt, Instr.sureAddr, asAddr] using hx1
      · cases h
    · cases h

theorem results_ok (hT : TabOK P tb) (H : HRel X L st.hp w) (hf : TRel X L w fr.tmps F.tmps) {fn : Func} {v : AV} (h : resultsA tb st fr fn.results.toList = some v) : ∃ x, (results fn F.tmps).run P w = .ok x w ∧ VRel X L w v x := by
  let g : ResultVar → Sem Value := fun r => match r with | .tmp t => pure (F.tmps.getD t undef) | .cell a t => do loadVar t (← asAddr (F.tmps.getD a undef))
  have key : ∀ (l : List ResultVar) (vs : List AV), resultsL tb st fr l = some vs → ∃ xs : List Value, (l.mapM g).run P w = .ok xs w ∧ VRels X L w vs xs := by
    intro l
    induction l with
    | nil => intro vs h; cases h; exact ⟨[], by simp, .nil⟩
    | cons r l ih =>
      intro vs h
      simp only [resultsL] at h
      split at h
      · rename_i u us h1 h2
        cases h
        obtain ⟨x, hx1, hx2⟩ := one_result hT H hf h1
        obtain ⟨xs, hxs1, hxs2⟩ := ih us h2
        refine ⟨x :: xs, ?_, hxs2.cons hx2⟩
        have hx1' : (g r).run P w = .ok x w := hx1
        simp only [List.mapM_cons, Sem.run_bind, hx1', Result.andThen_ok, hxs1, Sem.run_pure]
      · cases h
  unfold resultsA at h
  have fin : ∀ vs, resultsL tb st fr fn.results.toList = some vs → ∃ xs : List Value, (results fn F.tmps).run P w = .ok (if h : xs.toArray.size = 1 then xs.toArray[0] else .tuple xs.toArray) w ∧ VRels X L w vs xs := by
    intro vs hvs
    obtain ⟨xs, h1, h2⟩ := key _ _ hvs
    refine ⟨xs, ?_, h2⟩
    unfold results
    rw [Array.mapM_eq_mapM_toList]
    have h1' : (List.mapM g fn.results.toList).run P w = .ok xs w := h1
    have h1'' : (List.toArray <$> List.mapM g fn.results.toList).run P w = .ok xs.toArray w := by simp only [Sem.run_map, h1', Result.andThen_ok]
    refine (Sem.run_bind ..).trans ?_
    refine (congrArg (fun r => Result.andThen r _) h1'').trans ?_
    simp only [Result.andThen_ok, Sem.run_pure]
  split at h
  · rename_i u hu
    cases h
    obtain ⟨xs, h1, h2⟩ := fin _ hu
    obtain ⟨x, ys, rfl, h3, h4⟩ := h2.cons_inv
    have : ys = [] := by have := h4.1; simp at this; exact List.eq_nil_of_length_eq_zero this.symm
    subst this
    exact ⟨x, by simpa using h1, h3⟩
  · rename_i vs hne hvs
    cases h
    obtain ⟨xs, h1, h2⟩ := fin _ hvs
    have hx1 : ¬ xs.toArray.size = 1 := by
      intro e
      have hl := h2.1
      have : vs.length = 1 := by simp at e; omega
      obtain ⟨u, hu⟩ := List.length_eq_one_iff.1 this
      exact hne u hu
    rw [dif_neg hx1] at h1
    refine ⟨_, h1, VRel.tup_mk (by simpa using h2)⟩
  · cases h
end
end Go.Sy

/- Functions: a call, and the unwinding. -/
set_option linter.unusedVariables false
set_option linter.unusedSimpArgs false
namespace Go.Sy

section
variable {P : Program} {tb : Tab} {rec : Cmd → St → Ex}

theorem st_leaves {F : Frame} {cs : List Frame} {w : World} (hm : F.mode = .run) (hr : F.roundOf = none) (ht : F.todo = [] ∨ ∃ j, F.todo = .code .ret :: j) : step P (lone F cs w) = .next (lone { F with mode := .returning } cs w) := by
  rcases ht with ht | ⟨j, ht⟩ <;> exact step_lone_go (by simp [stepG, stepG.exec, hm, ht, hr])

theorem fn_ok (ih : RecOK P rec) (hT : TabOK P tb) (hC : ∀ f fn b, tb.funcs.get? f = some fn → fn.body = some b → codeOK fn.ntmps b = true) {f : Nat} {args : List AV} {bel : Below} {st : St} {r : Res} (h : evFn tb rec f args bel st = .ok r)
    (X : Nat → Prop) (L : Loc) (w : World) (xs : Array Value) (kd : CallKind) (cs : List Frame) (H : HRel X L st.hp w) (ho : AllObl r.st.obl) (hxs : VRels X L w args xs.toList) (hb : BelR X L w bel kd cs) :
    ∃ L' w' F' cs', Steps P (lone (Frame.enter P f xs kd) cs w) (lone F' cs' w') ∧ Ext L w L' w' ∧ HRel X L' r.st.hp w' ∧ F'.fn = f ∧ F'.kind = kd ∧ Unders kd cs cs' ∧ BelR X L' w' r.bel kd cs' ∧ LeaveR P X L' w' F' r.out := by
  unfold evFn at h
  split at h
  · cases h
  · rename_i fn hfn
    split at h
    · cases h
    · rename_i body hbody
      have hP := hT.funcs _ _ hfn
      generalize hF : Frame.enter P f xs kd = F
      have hFm : F.mode = .run := by rw [← hF]; rfl
      have hFt : F.todo = .code body :: [] := by rw [← hF]; simp [Frame.enter, hP, hbody]
      have hFk : F.kind = kd := by rw [← hF]; rfl
      have hFr : F.roundOf = none := by rw [← hF]; rfl
      have hFs : fn.ntmps ≤ F.tmps.size := by rw [← hF]; simp [Frame.enter, hP]; omega
      have hFf : F.fn = f := by rw [← hF]; rfl
      have hfr : FRel X L w { fn := f, tmps := T.ofList args, defs := [], round := none } F := by
        refine ⟨hFf, ?_, by rw [← hF]; exact .nil, hFr⟩
        intro i v hi
        rw [T.ofList_get] at hi
        obtain ⟨x, hx1, hx2⟩ := hxs.get hi
        refine ⟨x, ?_, hx2⟩
        have hl := (List.getElem?_eq_some_iff.1 hx1).1
        rw [Array.getElem?_toList] at hx1
        rw [← hF]
        simp only [Frame.enter]
        rw [Array.getElem?_append_left (by simpa using hl)]
        exact hx1
      have hc := codeOK_mono hFs body (hC f fn body hfn hbody)
      have body_ok : ∀ r1, rec (.code body { fn := f, tmps := T.ofList args, defs := [], round := none } bel) st = .ok r1 → AllObl r1.st.obl → ∃ L' w' F' cs', Lands P X L w F cs r1.st L' w' F' cs' ∧ FRel X L' w' r1.fr F' ∧ BelR X L' w' r1.bel F.kind cs' ∧ OutR X L' w' F' [] r1.out :=
        fun r1 h1 ho1 => ih.code _ _ _ _ _ h1 X L w F [] cs H ho1 hfr hFm hFt hc (by rw [hFk]; exact hb)
      -- to the unwinding
      have unw : ∀ (r1 : Res) (how : Below) (r2 : Res), rec (.code body { fn := f, tmps := T.ofList args, defs := [], round := none } bel) st = .ok r1 → rec (.unwind r1.fr how) r1.st = .ok r2 → AllObl r2.st.obl →
          (∀ L' w' F', F'.roundOf = none → OutR X L' w' F' [] r1.out → ∃ m, HowR X L' w' { F' with mode := m } how ∧ ∀ cs' , Steps P (lone F' cs' w') (lone { F' with mode := m } cs' w')) →
          ∃ L' w' F' cs', Steps P (lone F cs w) (lone F' cs' w') ∧ Ext L w L' w' ∧ HRel X L' r2.st.hp w' ∧ F'.fn = f ∧ F'.kind = kd ∧ Unders kd cs cs' ∧ BelR X L' w' r1.bel kd cs' ∧ LeaveR P X L' w' F' r2.out := by
        intro r1 how r2 h1 h2 ho2 hout
        obtain ⟨L1, w1, F1, cs1, l1, hf1, hb1, o1⟩ := body_ok r1 h1 ((ih.adv _ _ _ h2).all ho2)
        obtain ⟨m, q1, q2⟩ := hout L1 w1 F1 (l1.round.trans hFr) o1
        obtain ⟨L2, w2, F2, t1, t2, t3, t4, t5, t6⟩ := ih.unwind _ _ _ _ h2 X L1 w1 { F1 with mode := m } cs1 l1.heap ho2 ⟨hf1.fn, hf1.tmps, hf1.defs, hf1.round⟩ (l1.round.trans hFr) q1
        rw [hFk] at hb1
        exact ⟨L2, w2, F2, cs1, l1.steps.trans ((q2 cs1).trans t1), l1.ext.trans t2, t3, t4.trans (l1.fn.trans hFf), t5.trans (l1.kind.trans hFk), hFk ▸ l1.und, hb1.mono t2, t6⟩
      split at h
      · rename_i fr1 bel1 st1 h1
        split at h
        · rename_i r2 h2
          cases h
          exact unw ⟨.norm, fr1, bel1, st1⟩ .returning r2 h1 h2 ho fun L' w' F' hr ho' => ⟨.returning, rfl, fun cs' => .one (st_leaves ho'.1 hr (.inl ho'.2))⟩
        · rename_i hne
          exact absurd (at_ok h) (hne _)
      · rename_i fr1 bel1 st1 h1
        split at h
        · rename_i r2 h2
          cases h
          exact unw ⟨.ret, fr1, bel1, st1⟩ .returning r2 h1 h2 ho fun L' w' F' hr ho' => ⟨.returning, rfl, fun cs' => .one (st_leaves ho'.1 hr (.inr ho'.2))⟩
        · rename_i hne
          exact absurd (at_ok h) (hne _)
      · rename_i v fr1 bel1 st1 h1
        split at h
        · rename_i r2 h2
          cases h
          exact unw ⟨.pan v, fr1, bel1, st1⟩ (.panicking v false) r2 h1 h2 ho fun L' w' F' hr ho' => by
            obtain ⟨ch, q1, q2⟩ := ho'
            exact ⟨.panicking ch, ⟨ch, rfl, q2⟩, fun cs' => by rw [← q1]; exact .refl _ _⟩
        · rename_i hne
          exact absurd (at_ok h) (hne _)
      · cases h
      · cases h
end
end Go.Sy

/- Unwinding. -/
set_option linter.unusedVariables false
set_option linter.unusedSimpArgs false
namespace Go.Sy

section
variable {P : Program} {tb : Tab} {rec : Cmd → St → Ex} {F : Frame} {cs : List Frame} {w w' : World} {ds : List Deferred}

theorem st_take {c : Nat} {as : Array Value} (hm : F.mode ≠ .run) (hd : F.defers = { target := .collected c, args := as } :: ds) (h : w.heap[c]? = some (.deferred (some []))) :
    step P (lone F cs w) = .next (lone { F with defers := ds } cs { w with heap := w.heap.setIfInBounds c (.deferred none) }) := by
  have hg : (getObj c).run P w = .ok (.deferred (some [])) w := by simp [getObj, Sem.run, h]
  have hse := run_setObj (P := P) (o2 := .deferred none) h (by simp)
  have hr : (Instr.takeDeferred c).run P w = .ok [] { w with heap := w.heap.setIfInBounds c (.deferred none) } := by
    simp only [Instr.takeDeferred, Sem.run_bind, hg, Result.andThen_ok, hse, Sem.run_pure]
  refine step_lone_go ?_
  cases hmm : F.mode with
  | run => exact absurd hmm hm
  | _ => simp [stepG, unwind, hmm, hd, hr]
theorem st_defcall {g : Nat} {cap args : Array Value} (hm : F.mode ≠ .run) (hd : F.defers = { target := .fn (.func g) cap, args := args } :: ds) (hr : (callFunc g (args ++ cap)).run P w = .ok (.enter g (args ++ cap)) w) :
    step P (lone F cs w) = .next (lone (Frame.enter P g (args ++ cap) .deferred) ({ F with defers := ds } :: cs) w) := by
  refine step_lone_go ?_
  cases hmm : F.mode with
  | run => exact absurd hmm hm
  | _ => simp [stepG, unwind, callDeferred, invoke, hmm, hd, hr]
/-- a deferred call has returned -/
theorem st_defret {F' c : Frame} {x : Value} (h1 : F'.mode = .returning) (h2 : F'.defers = []) (h3 : F'.kind = .deferred) {fn : Func} (h4 : P.funcs[F'.fn]? = some fn) (h5 : (results fn F'.tmps).run P w = .ok x w) {m : FrameMode}
    (hm : (c.mode = .returning ∧ m = .returning) ∨ (∃ y older, c.mode = .panicking ({ v := y, recovered := true, goexit := false } :: older) ∧ (∀ e ∈ older, e.goexit = false) ∧ m = .returning) ∨ (∃ y older, c.mode = .panicking ({ v := y, recovered := false, goexit := false } :: older) ∧ m = c.mode)) :
    step P (lone F' (c :: cs) w) = .next (lone { c with mode := m } cs w) := by
  refine step_lone_go ?_
  rcases hm with ⟨e1, rfl⟩ | ⟨y, older, e1, e2, rfl⟩ | ⟨y, older, e1, rfl⟩
  · simp [stepG, unwind, doReturn, h1, h2, h3, h4, h5, e1]
    cases c; simp at e1; simp [e1]
  · have : older.dropWhile (fun e => !e.goexit) = [] := by
      clear e1
      induction older with
      | nil => rfl
      | cons a l ih =>
        rw [List.dropWhile_cons_of_pos (by simp [e2 a (List.mem_cons_self ..)])]
        exact ih fun e he => e2 e (List.mem_cons_of_mem _ he)
    simp [stepG, unwind, doReturn, h1, h2, h3, h4, h5, e1, this]
  · simp [stepG, unwind, doReturn, h1, h2, h3, h4, h5, e1]
    cases c; simp at e1; simp [e1]
end
section
variable {P : Program} {tb : Tab} {rec : Cmd → St → Ex}
theorem how_run {X : Nat → Prop} {L : Loc} {w : World} {F : Frame} {how : Below} (h : HowR X L w F how) : F.mode ≠ .run := by
  cases how with
  | none => exact h.elim
  | returning => intro e; have h' : F.mode = .returning := h; rw [e] at h'; cases h'
  | panicking v r => obtain ⟨ch, h1, _⟩ := h; rw [h1]; simp

theorem unwind_ok (ih : RecOK P rec) (hT : TabOK P tb) (hfun : ∀ f args b s r, rec (.call f args b) s = .ok r → ∃ fn, tb.funcs.get? f = some fn ∧ fn.body.isSome = true) {fr : Fr} {how : Below} {st : St} {r : Res} (h : evUnwind tb rec fr how st = .ok r)
    (X : Nat → Prop) (L : Loc) (w : World) (F : Frame) (cs : List Frame) (H : HRel X L st.hp w) (ho : AllObl r.st.obl) (hf : FRel X L w fr F) (hr : F.roundOf = none) (hh : HowR X L w F how) :
    ∃ L' w' F', Steps P (lone F cs w) (lone F' cs w') ∧ Ext L w L' w' ∧ HRel X L' r.st.hp w' ∧ F'.fn = F.fn ∧ F'.kind = F.kind ∧ LeaveR P X L' w' F' r.out := by
  have hnr := how_run hh
  unfold evUnwind at h
  split at h
  · rename_i hd0
    have hd : F.defers = [] := by
      have := hf.defs
      rw [hd0] at this
      generalize F.defers = ds at this
      cases this; rfl
    split at h
    · split at h
      · rename_i fn hfn
        split at h
        · rename_i v hv
          cases h
          obtain ⟨x, hx1, hx2⟩ := results_ok hT H hf.tmps hv
          exact ⟨L, w, F, .refl _ _, .refl _ _, H, rfl, rfl, hh, hd, hr, fn, by rw [hf.fn]; exact hT.funcs _ _ hfn, x, hx1, hx2⟩
        · cases h
      · cases h
    · split at h
      · rename_i fn hfn
        cases h
        obtain ⟨ch, h1, h2⟩ := hh
        exact ⟨L, w, F, .refl _ _, .refl _ _, H, rfl, rfl, ch, h1, hd, hr, ⟨fn, by rw [hf.fn]; exact hT.funcs _ _ hfn⟩, h2⟩
      · cases h
    · cases h
    · cases h
  · rename_i d ds hd0
    have hds := hf.defs
    rw [hd0] at hds
    generalize hFd : F.defers = Ds at hds
    cases hds with
    | @cons _ e _ es h1 h2 =>
    split at h
    · rename_i b hb
      split at h
      · rename_i hbl
        have hal : (st.get b).alive = true := by rw [hbl]; rfl
        have hbn := St.alive_lt hal
        obtain ⟨c, o, cap, sz, hL, hB⟩ := H.at (St.hp_some hal) hal
        rw [hbl] at hB
        have hB' : w.heap[c]? = some (.deferred (some [])) := hB
        cases h1 with
        | call _ _ => cases hb
        | collD hdd => cases hb; rw [hL] at hdd; cases hdd
        | coll hcc =>
          cases hb
          rw [hL] at hcc
          cases hcc
          have s1 := st_take (P := P) (cs := cs) hnr hFd hB'
          have hs : ({ w with heap := w.heap.setIfInBounds c (.deferred none) } : World).heap.size = w.heap.size := by simp
          have hoth : ∀ k, k ≠ c → ({ w with heap := w.heap.setIfInBounds c (.deferred none) } : World).heap[k]? = w.heap[k]? := by intro k hk; simp [Array.getElem?_setIfInBounds, Ne.symm hk]
          have hE := Ext.put (w := w) (w' := { w with heap := w.heap.setIfInBounds c (.deferred none) }) hL hs hoth rfl rfl rfl
          have hcl := (Array.getElem?_eq_some_iff.1 hB').1
          have hH := H.put (w' := { w with heap := w.heap.setIfInBounds c (.deferred none) }) hL hs hoth rfl rfl rfl (x := .defd true) rfl (by simp [BRel, hcl])
          have hf' := hf.mono hE
          have hh' : HowR X L { w with heap := w.heap.setIfInBounds c (.deferred none) } { F with defers := es } how := by
            cases how with
            | none => exact hh
            | returning => exact hh
            | panicking v q => obtain ⟨ch, q1, q2⟩ := hh; exact ⟨ch, q1, q2.mono hE⟩
          obtain ⟨L2, w2, F2, t1, t2, t3, t4, t5, t6⟩ := ih.unwind _ _ _ _ h X L _ { F with defers := es } cs (by rw [St.put_hp _ _ _ _ _ hbn]; exact hH) ho ⟨hf'.fn, hf'.tmps, h2.mono hE, hf'.round⟩ hr hh'
          exact ⟨L2, w2, F2, .head s1 t1, hE.trans t2, t3, t4, t5, t6⟩
      · cases h
    · rename_i hb
      cases h1 with
      | coll _ => cases hb
      | collD _ => cases hb
      | @call g cap args cap' args' k1 k2 =>
        simp only [aCallV, List.nil_append] at h
        have hxs : VRels X L w (args ++ cap) (args' ++ cap').toList := by rw [Array.toList_append]; exact k2.append k1
        have call : ∀ r1, rec (.call g (args ++ cap) how) st = .ok r1 → AllObl r1.st.obl → ∃ L' w' F' m, Steps P (lone F cs w) (lone F' ({ F with defers := es, mode := m } :: cs) w') ∧ Ext L w L' w' ∧ HRel X L' r1.st.hp w' ∧ F'.kind = .deferred ∧ HowR X L' w' { F with defers := es, mode := m } r1.bel ∧ LeaveR P X L' w' F' r1.out := by
          intro r1 hr1 ho1
          obtain ⟨fn, hfn, hbody⟩ := hfun _ _ _ _ _ hr1
          have s1 := st_defcall (P := P) (cs := cs) hnr hFd (hT.call g fn hfn hbody _ w)
          have hbel : BelR X L w how .deferred ({ F with defers := es } :: cs) := by
            cases how with
            | none => exact hh.elim
            | returning => exact ⟨rfl, _, _, rfl, hh⟩
            | panicking v q => obtain ⟨ch, q1, q2⟩ := hh; exact ⟨rfl, _, _, ch, rfl, q1, q2⟩
          obtain ⟨L', w', F', cs', t1, t2, t3, t4, t5, t6, t7, t8⟩ := ih.call _ _ _ _ _ hr1 X L w _ .deferred _ H ho1 hxs hbel
          have hcs : ∃ m, cs' = { F with defers := es, mode := m } :: cs := by
            rcases t6 with rfl | ⟨_, c, rr, m, q1, rfl⟩
            · exact ⟨F.mode, rfl⟩
            · cases q1; exact ⟨m, rfl⟩
          obtain ⟨m, rfl⟩ := hcs
          refine ⟨L', w', F', m, .head s1 t1, t2, t3, t5, ?_, t8⟩
          generalize r1.bel = bb at t7
          cases bb with
          | none => cases t7
          | returning => obtain ⟨_, c, rr, q1, q2⟩ := t7; cases q1; exact q2
          | panicking v q => obtain ⟨_, c, rr, ch, q1, q2, q3⟩ := t7; cases q1; exact ⟨ch, q2, q3⟩
        split at h
        · rename_i v fr1 how1 st1 hr1
          obtain ⟨L1, w1, F1, m, t1, t2, t3, t4, t5, t6⟩ := call _ hr1 ((ih.adv _ _ _ h).all ho)
          obtain ⟨g1, g2, g3, fn, g4, x, g5, g6⟩ := t6
          have fin : ∀ (m' : FrameMode) (how2 : Below), rec (.unwind { fr with defs := ds } how2) st1 = .ok r → HowR X L1 w1 { F with defers := es, mode := m' } how2 → Steps P (lone F1 ({ F with defers := es, mode := m } :: cs) w1) (lone { F with defers := es, mode := m' } cs w1) →
              ∃ L' w' F', Steps P (lone F cs w) (lone F' cs w') ∧ Ext L w L' w' ∧ HRel X L' r.st.hp w' ∧ F'.fn = F.fn ∧ F'.kind = F.kind ∧ LeaveR P X L' w' F' r.out := by
            intro m' how2 h hw2 s2
            have hf' := hf.mono t2
            obtain ⟨L2, w2, F2, v1, v2, v3, v4, v5, v6⟩ := ih.unwind _ _ _ _ h X L1 w1 { F with defers := es, mode := m' } cs t3 ho ⟨hf'.fn, hf'.tmps, h2.mono t2, hf'.round⟩ hr hw2
            exact ⟨L2, w2, F2, t1.trans (s2.trans v1), t2.trans v2, v3, v4, v5, v6⟩
          cases how1 with
          | none => exact t5.elim
          | returning => exact fin m .returning h t5 (.one (st_defret (c := { F with defers := es, mode := m }) g1 g2 t4 g4 g5 (.inl ⟨t5, t5⟩)))
          | panicking u q =>
            obtain ⟨ch, q1, y, older, rfl, q3, q4⟩ := t5
            have q1' : m = .panicking ({ v := y, recovered := q, goexit := false } :: older) := q1
            cases q with
            | true => exact fin .returning .returning h rfl (.one (st_defret (c := { F with defers := es, mode := m }) g1 g2 t4 g4 g5 (.inr (.inl ⟨y, older, q1, q3, rfl⟩))))
            | false => exact fin m (.panicking u false) h ⟨_, q1, y, older, rfl, q3, q4⟩ (.one (st_defret (c := { F with defers := es, mode := m }) g1 g2 t4 g4 g5 (.inr (.inr ⟨y, older, q1, rfl⟩))))
        · rename_i v fr1 how1 st1 hr1
          obtain ⟨L1, w1, F1, m, t1, t2, t3, t4, t5, t6⟩ := call _ hr1 ((ih.adv _ _ _ h).all ho)
          obtain ⟨ch, hlv, hch⟩ := leave_pan t6
          have s2 := step_leave_panicked (c := { F with defers := es, mode := m }) (cs := cs) hlv
          have hra : ∃ ch', ({ F with defers := es, mode := m } : Frame).raise ch = { F with defers := es, mode := .panicking ch' } ∧ ChainR X L1 w1 v false ch' := by
            cases how1 with
            | none => exact t5.elim
            | returning =>
              have e : m = .returning := t5
              subst e
              exact ⟨ch, rfl, hch⟩
            | panicking u q =>
              obtain ⟨ch0, q1, y, older, rfl, q3, q4⟩ := t5
              have e : m = .panicking ({ v := y, recovered := q, goexit := false } :: older) := q1
              subst e
              obtain ⟨x, old, rfl, z1, z2⟩ := hch
              refine ⟨_, rfl, x, old ++ ({ v := y, recovered := q, goexit := false } :: older), rfl, fun e he => ?_, z2⟩
              rcases List.mem_append.1 he with he | he
              · exact z1 e he
              · rcases List.mem_cons.1 he with rfl | he
                · rfl
                · exact q3 e he
          obtain ⟨ch', e1, hch'⟩ := hra
          rw [e1] at s2
          have hf' := hf.mono t2
          obtain ⟨L2, w2, F2, v1, v2, v3, v4, v5, v6⟩ := ih.unwind _ _ _ _ h X L1 w1 { F with defers := es, mode := .panicking ch' } cs t3 ho ⟨hf'.fn, hf'.tmps, h2.mono t2, hf'.round⟩ hr ⟨ch', rfl, hch'⟩
          exact ⟨L2, w2, F2, t1.trans (.head s2 v1), t2.trans v2, v3, v4, v5, v6⟩
        · cases h
        · cases h
end
end Go.Sy

/- Loops. -/
set_option linter.unusedVariables false
set_option linter.unusedSimpArgs false
namespace Go.Sy

theorem lone_frame {F G : Frame} {cs ds : List Frame} {w v : World} (h : lone F cs w = lone G ds v) : F = G := by
  simp only [lone, Machine.mk.injEq] at h
  have h2 := h.2.1
  simp at h2
  exact h2.1
/-- a run that begins one step later -/
theorem steps_later {P : Program} {A B Z : Machine} (h : Steps P A Z) (s : step P A = .next B) (hne : A ≠ Z) : Steps P B Z := by
  obtain ⟨n, hn⟩ := h
  cases n with
  | zero => simp [runN] at hn; exact absurd hn hne
  | succ n => exact ⟨n, by simpa [runN, s] using hn⟩

section
variable {P : Program} {rec : Cmd → St → Ex}
theorem loop_ok (ih : RecOK P rec) {b : Code} {fr : Fr} {bel : Below} {st : St} {r : Res}
    (h : evLoop' rec b fr bel st = .ok r) {X : Nat → Prop} {L : Loc} {w : World} {F : Frame} {k : List Item} {cs : List Frame}
    (H : HRel X L st.hp w) (ho : AllObl r.st.obl) (hf : FRel X L w fr F) (hm : F.mode = .run) (ht : F.todo = .code (.loop b) :: k) (hc : codeOK F.tmps.size (.loop b) = true) (hb : BelR X L w bel F.kind cs) :
    ∃ L' w' F' cs', Lands P X L w F cs r.st L' w' F' cs' ∧ FRel X L' w' r.fr F' ∧ BelR X L' w' r.bel F.kind cs' ∧ OutR X L' w' F' k r.out := by
  have s0 := st_loop (P := P) (cs := cs) (w := w) hm ht
  have hc' : codeOK F.tmps.size b = true := by simpa only [codeOK] using hc
  unfold evLoop' at h
  split at h
  · rename_i fr1 bel1 st1 h1
    obtain ⟨L1, w1, F1, cs1, l1, hf1, hb1, o1⟩ := ih.code _ _ _ _ _ h1 X L w { F with todo := .code b :: .inLoop b :: k } (.inLoop b :: k) cs H ((ih.adv _ _ _ h).all ho) (hf.todo _ _) hm rfl hc' hb
    obtain ⟨om, ot⟩ := o1
    obtain ⟨L2, w2, F2, cs2, l2, hf2, hb2, o2⟩ := ih.code _ _ _ _ _ h X L1 w1 { F1 with todo := .code (.loop b) :: k } k cs1 l1.heap ho (hf1.todo _ _) om rfl (by show codeOK F1.tmps.size (.loop b) = true; rw [l1.size]; exact hc) (by show BelR X L1 w1 bel1 F1.kind cs1; rw [l1.kind]; exact hb1)
    have hne : lone { F1 with todo := .code (.loop b) :: k } cs1 w1 ≠ lone F2 cs2 w2 := by
      intro e
      have e := lone_frame e
      rw [← e] at o2
      obtain ⟨out, fr', bel', st'⟩ := r
      cases out with
      | norm => have := congrArg List.length o2.2; simp at this
      | exit i => obtain ⟨_, j, q, _⟩ := o2; cases q
      | ret => obtain ⟨_, j, q⟩ := o2; cases q
      | pan v => obtain ⟨ch, q, _⟩ := o2; rw [show ({ F1 with todo := .code (.loop b) :: k } : Frame).mode = F1.mode from rfl, om] at q; cases q
      | done v => exact o2
    have sA := st_loop (P := P) (F := { F1 with todo := .code (.loop b) :: k }) (cs := cs1) (w := w1) om rfl
    have sB := st_inLoop (P := P) (cs := cs1) (w := w1) om ot
    have steps2 : Steps P (lone F1 cs1 w1) (lone F2 cs2 w2) := .head sB (steps_later l2.steps sA hne)
    have hk : F1.kind = F.kind := l1.kind
    have l3 : Lands P X L1 w1 F1 cs1 r.st L2 w2 F2 cs2 := ⟨steps2, l2.ext, l2.heap, l2.fn, l2.kind, l2.round, l2.size, l2.und⟩
    exact ⟨L2, w2, F2, cs2, (Lands.head s0 l1).trans l3, hf2, hk ▸ hb2, o2⟩
  · rename_i hne
    obtain ⟨L1, w1, F1, cs1, l1, hf1, hb1, o1⟩ := ih.code _ _ _ _ _ h X L w { F with todo := .code b :: .inLoop b :: k } (.inLoop b :: k) cs H ho (hf.todo _ _) hm rfl hc' hb
    refine ⟨L1, w1, F1, cs1, Lands.head s0 l1, hf1, hb1, ?_⟩
    obtain ⟨out, fr', bel', st'⟩ := r
    cases out with
    | norm => exact absurd h (by intro hh; exact hne _ _ _ hh)
    | exit i =>
      obtain ⟨q1, j, q2, q3⟩ := o1
      exact ⟨q1, j ++ [.inLoop b], by rw [q2]; simp, fun k => by rw [List.append_assoc, q3]; simp [exitTo]⟩
    | ret => exact o1
    | pan v => exact o1
    | done v => exact o1
end
end Go.Sy

/- A loop over a function. -/
set_option linter.unusedVariables false
set_option linter.unusedSimpArgs false
namespace Go.Sy

section
variable {P : Program} {F : Frame} {cs : List Frame} {w : World} {k : List Item} {g : Operand} {ps : Array Tmp} {a b : Code}

def rangeW (w : World) (F : Frame) (ps : Array Tmp) (a b : Code) : World :=
  (w.alloc (.deferred (some []))).alloc (.loop { state := .ready, pending := none, fn := F.fn, tmps := F.tmps, params := ps, assign := a, body := b, defers := w.heap.size })

theorem run_enter (hr : F.roundOf = none) : (Instr.enterLoop F.fn F.tmps ps a b F.roundOf).run P w = .ok (w.heap.size + 1, [{ target := .collected w.heap.size, args := #[] }]) (rangeW w F ps a b) := by
  have n1 : ∀ (o : Obj) (w : World), (newObj o).run P w = .ok w.heap.size (w.alloc o) := fun _ _ => rfl
  simp only [Instr.enterLoop, hr, Sem.run_bind, n1, Result.andThen_ok, Sem.run_pure, rangeW]
  simp

theorem st_range (hm : F.mode = .run) (ht : F.todo = .code (.rangeFunc g ps a b) :: k) (hr : F.roundOf = none) {f : Nat} {first cap : Array Value} (hg : F.eval g = .func (.func f) first cap)
    (hc : ∀ w, (callFunc f (first ++ #[.func (.yield (w.heap.size + 1)) #[] #[]] ++ cap)).run P (rangeW w F ps a b) = .ok (.enter f (first ++ #[.func (.yield (w.heap.size + 1)) #[] #[]] ++ cap)) (rangeW w F ps a b)) :
    step P (lone F cs w) = .next (lone (Frame.enter P f (first ++ #[.func (.yield (w.heap.size + 1)) #[] #[]] ++ cap) .normal) ({ F with todo := .inRangeFunc (w.heap.size + 1) :: k, defers := { target := .collected w.heap.size, args := #[] } :: F.defers } :: cs) (rangeW w F ps a b)) := by
  have he := run_enter (P := P) (w := w) (ps := ps) (a := a) (b := b) hr
  have hev : ∀ td ds m, ({ F with todo := td, defers := ds, mode := m } : Frame).eval g = .func (.func f) first cap := by
    intro td ds m; rw [← hg]; cases g <;> rfl
  have evc : ∀ (G : Frame) v, G.eval (.const v) = v := fun _ _ => rfl
  have hc' := hc w
  simp at hc'
  refine step_lone_go ?_
  simp [stepG, stepG.exec, stepG.apply, hm, ht, he, resolve, Deferred.ofValue, invoke, hev, hc', evc]

theorem run_endLoop {c : Nat} {r : Loop} (h : w.heap[c]? = some (.loop r)) (hs : r.state ≠ .busy) : (Instr.endLoop c).run P w = .ok r.pending (setLoop w c { r with state := .exhausted }) := by
  have hg : (getObj c).run P w = .ok (.loop r) w := by simp [getObj, Sem.run, h]
  have hse := run_setObj (P := P) (o2 := .loop { r with state := .exhausted }) h (by simp)
  have hb : (r.state == LoopState.busy) = false := by
    cases hh : r.state <;> first | rfl | exact absurd hh hs
  simp only [Instr.endLoop, Instr.getLoop, Sem.run_bind, hg, Result.andThen_ok, Sem.run_pure, hb, Bool.false_eq_true, if_false, hse]
  rfl
theorem st_endRange {c : Nat} {r : Loop} (hm : F.mode = .run) (ht : F.todo = .endRangeFunc c :: k) (h : w.heap[c]? = some (.loop r)) (hs : r.state ≠ .busy) :
    step P (lone F cs w) = .next (lone { F with todo := (r.pending.map Item.code).toList ++ k } cs (setLoop w c { r with state := .exhausted })) :=
  step_lone_go (by simp [stepG, stepG.exec, hm, ht, run_endLoop h hs])
end

section
variable {P : Program} {tb : Tab} {rec : Cmd → St → Ex}
theorem range_ok (ih : RecOK P rec) (hT : TabOK P tb) (hfun : ∀ f args b s r, rec (.call f args b) s = .ok r → ∃ fn, tb.funcs.get? f = some fn ∧ fn.body.isSome = true) {g : Operand} {ps : Array Tmp} {a b : Code} {fr : Fr} {bel : Below} {st : St} {r : Res}
    (h : evRange rec g ps a b fr bel st = .ok r) {X : Nat → Prop} {L : Loc} {w : World} {F : Frame} {k : List Item} {cs : List Frame}
    (H : HRel X L st.hp w) (ho : AllObl r.st.obl) (hf : FRel X L w fr F) (hm : F.mode = .run) (ht : F.todo = .code (.rangeFunc g ps a b) :: k) (hc : codeOK F.tmps.size (.rangeFunc g ps a b) = true) (hb : BelR X L w bel F.kind cs) :
    ∃ L' w' F' cs', Lands P X L w F cs r.st L' w' F' cs' ∧ FRel X L' w' r.fr F' ∧ BelR X L' w' r.bel F.kind cs' ∧ OutR X L' w' F' k r.out := by
  unfold evRange at h
  split at h
  · cases h
  · rename_i hrd
    have hr : F.roundOf = none := by have := hf.round; rw [hrd] at this; exact this
    split at h
    · rename_i f args st0 hcv
      obtain ⟨first, cap, hg, rfl⟩ := callV_enter hcv
      have hgv := hf.evals g
      rw [hg] at hgv
      obtain ⟨fs, cps, hx, h1, h2⟩ := hgv.func_inv
      simp only [codeOK, Bool.and_eq_true] at hc
      have hps : ∀ p ∈ ps.toList, p < F.tmps.size := by
        intro p hp
        have := List.all_eq_true.1 hc.1.1 p hp
        rw [blt_dec] at this
        simpa using this
      simp only [] at h
      -- the two new blocks
      have n0 := next_none st
      let L1 : Loc := Loc.set L st.next (.live w.heap.size 0 0 0)
      have hE1 : Ext L w L1 (w.alloc (.deferred (some []))) := Ext.new H n0 _
      have hH1 : HRel X L1 (st.new (.defd false)).hp (w.alloc (.deferred (some []))) := by
        rw [St.new_hp]
        exact H.new n0 rfl (by
          show (w.alloc (.deferred (some []))).heap[w.heap.size]? = some (.deferred (if false = true then none else some []))
          rw [alloc_get]; rfl)
      have n1 := next_none (st.new (.defd false))
      let L2 : Loc := Loc.set L1 (st.next + 1) (.live (w.heap.size + 1) 0 0 0)
      have hsz : (w.alloc (.deferred (some []))).heap.size = w.heap.size + 1 := by
        show (w.heap.push _).size = _
        simp
      have hE2 : Ext L1 (w.alloc (.deferred (some []))) L2 (rangeW w F ps a b) := by
        have := Ext.new hH1 n1 (.loop { state := .ready, pending := none, fn := F.fn, tmps := F.tmps, params := ps, assign := a, body := b, defers := w.heap.size }) (cap := 0) (sz := 0)
        rw [hsz] at this
        exact this
      have hE : Ext L w L2 (rangeW w F ps a b) := hE1.trans hE2
      have hL20 : L2 st.next = .live w.heap.size 0 0 0 := by simp [L2, L1, Loc.set]
      have hL21 : L2 (st.next + 1) = .live (w.heap.size + 1) 0 0 0 := by simp [L2, Loc.set]
      have hH2 : HRel X L2 ((st.new (.defd false)).new (.loop .ready none fr.fn fr.tmps ps.toList a b st.next)).hp (rangeW w F ps a b) := by
        rw [St.new_hp]
        have hget : (rangeW w F ps a b).heap[w.heap.size + 1]? = some (.loop { state := .ready, pending := none, fn := F.fn, tmps := F.tmps, params := ps, assign := a, body := b, defers := w.heap.size }) := by
          have := alloc_get (w.alloc (.deferred (some []))) (.loop { state := .ready, pending := none, fn := F.fn, tmps := F.tmps, params := ps, assign := a, body := b, defers := w.heap.size })
          rw [hsz] at this
          exact this
        have := HRel.new hH1 n1 (o := .loop { state := .ready, pending := none, fn := F.fn, tmps := F.tmps, params := ps, assign := a, body := b, defers := w.heap.size }) (cap := 0) (sz := 0) (x := .loop .ready none fr.fn fr.tmps ps.toList a b st.next) rfl (by
          rw [hsz]
          exact ⟨_, hget, rfl, rfl, hf.fn, by simp, rfl, rfl, hf.tmps.mono hE, ⟨0, 0, 0, .inl hL20⟩, hc.1.2, hc.2, hps⟩)
        rw [hsz] at this
        exact this
      have hxs : VRels X L2 (rangeW w F ps a b) (first ++ [.fn (.yield (st.next + 1)) [] []] ++ cap) (fs ++ #[Value.func (.yield (w.heap.size + 1)) #[] #[]] ++ cps).toList := by
        simp only [Array.toList_append]
        exact ((h1.mono hE).append (.one (.fnY hL21))).append (h2.mono hE)
      have hsn : ((st.new (.defd false)).new (.loop .ready none fr.fn fr.tmps ps.toList a b st.next)).next - 1 = st.next + 1 := rfl
      have hsn2 : ((st.new (.defd false)).new (.loop .ready none fr.fn fr.tmps ps.toList a b st.next)).next - 2 = st.next := rfl
      rw [hsn, hsn2] at h
      have step0 : ∀ rr, rec (.call f (first ++ [.fn (.yield (st.next + 1)) [] []] ++ cap) .none) ((st.new (.defd false)).new (.loop .ready none fr.fn fr.tmps ps.toList a b st.next)) = .ok rr →
          step P (lone F cs w) = .next (lone (Frame.enter P f (fs ++ #[.func (.yield (w.heap.size + 1)) #[] #[]] ++ cps) .normal) ({ F with todo := .inRangeFunc (w.heap.size + 1) :: k, defers := { target := .collected w.heap.size, args := #[] } :: F.defers } :: cs) (rangeW w F ps a b)) := by
        intro rr hrr
        obtain ⟨fn, hfn, hbody⟩ := hfun _ _ _ _ _ hrr
        exact st_range hm ht hr hx (fun w => hT.call f fn hfn hbody _ _)
      split at h
      · rename_i v frc belc st1 hrr
        split at h
        · rename_i s p f' t' ps' a' b' d' hl
          -- back in the caller
          have main : AllObl st1.obl → s ≠ .busy → ∃ L3 w3 r3 F3, Steps P (lone F cs w) (lone F3 cs (setLoop w3 (w.heap.size + 1) r3)) ∧ Ext L w L3 (setLoop w3 (w.heap.size + 1) r3) ∧
              HRel X L3 (st1.put (st.next + 1) (.loop .exhausted p f' t' ps' a' b' d') 0 whole).hp (setLoop w3 (w.heap.size + 1) r3) ∧ F3 = { F with todo := (p.map Item.code).toList ++ k, defers := { target := .collected w.heap.size, args := #[] } :: F.defers } ∧
              DRel X L3 (setLoop w3 (w.heap.size + 1) r3) { f := .junk, args := [], coll := some st.next } { target := .collected w.heap.size, args := #[] } := by
            intro ho1 hnb
            obtain ⟨L3, w3, F3, cs3, s1, hE3, hH3, hfn3, hk3, hu3, _, hl3⟩ := ih.call _ _ _ _ _ hrr X L2 _ _ .normal ({ F with todo := .inRangeFunc (w.heap.size + 1) :: k, defers := { target := .collected w.heap.size, args := #[] } :: F.defers } :: cs) hH2 ho1 hxs rfl
            have hcs := hu3.normal
            subst hcs
            obtain ⟨x, hx3, hv3⟩ := leave_done hl3 hk3
            have s2 := step_leave_returned (c := { F with todo := .inRangeFunc (w.heap.size + 1) :: k, defers := { target := .collected w.heap.size, args := #[] } :: F.defers }) (cs := cs) hx3
            have e2 : ({ F with todo := .inRangeFunc (w.heap.size + 1) :: k, defers := { target := .collected w.heap.size, args := #[] } :: F.defers } : Frame).finish x = { F with todo := .endRangeFunc (w.heap.size + 1) :: k, defers := { target := .collected w.heap.size, args := #[] } :: F.defers } := by simp [Frame.finish]
            rw [e2] at s2
            have hal : (st1.get (st.next + 1)).alive = true := by rw [hl]; rfl
            obtain ⟨c, oo, cp, sz, hL, hB⟩ := hH3.at (St.hp_some hal) hal
            rw [hl] at hB
            have e1 := hE3.loc (st.next + 1) (by rw [hL21]; simp)
            rw [hL, hL21] at e1
            have ec : c = w.heap.size + 1 := by rcases e1 with e1 | e1 <;> cases e1; rfl
            subst ec
            obtain ⟨r2, u1, u2, u3, u4, u5, u6, u7, u8, u9, u10, u11, u12⟩ := hB
            have s3 := st_endRange (P := P) (F := { F with todo := .endRangeFunc (w.heap.size + 1) :: k, defers := { target := .collected w.heap.size, args := #[] } :: F.defers }) (cs := cs) hm rfl u1 (by rw [u2]; exact hnb)
            have hE4 : Ext L3 w3 L3 (setLoop w3 (w.heap.size + 1) { r2 with state := .exhausted }) := Ext.put hL (by simp [setLoop]) (by intro k hk; simp [setLoop, Array.getElem?_setIfInBounds, Ne.symm hk]) rfl rfl rfl
            obtain ⟨_, H4⟩ := loop_put hH3 hL u1 { r2 with state := .exhausted } (x := .loop .exhausted p f' t' ps' a' b' d') rfl ⟨_, setLoop_get u1, rfl, u3, u4, u5, u6, u7, u8.mono hE4, u9, u10, u11, u12⟩
            have hD : DRel X L2 (rangeW w F ps a b) { f := .junk, args := [], coll := some st.next } { target := .collected w.heap.size, args := #[] } := .coll hL20
            refine ⟨L3, w3, { r2 with state := .exhausted }, _, .head (step0 _ hrr) (s1.trans (.head s2 (.one s3))), hE.trans (hE3.trans hE4), ?_, by rw [u3], (hD.mono hE3).mono hE4⟩
            rw [St.put_hp _ _ _ _ _ (St.alive_lt hal)]
            exact H4
          have fin : ∀ (out : Out), AllObl st1.obl → s ≠ .busy → (∀ F3 : Frame, F3.mode = .run → F3.todo = (p.map Item.code).toList ++ k → ∀ X L w, OutR X L w F3 k out) →
              ∃ L' w' F' cs', Lands P X L w F cs (st1.put (st.next + 1) (.loop .exhausted p f' t' ps' a' b' d') 0 whole) L' w' F' cs' ∧ FRel X L' w' { fr with defs := { f := .junk, args := [], coll := some st.next } :: fr.defs } F' ∧ BelR X L' w' bel F.kind cs' ∧ OutR X L' w' F' k out := by
            intro out ho1 hnb hout
            obtain ⟨L3, w3, r3, F3, t1, t2, t3, rfl, t5⟩ := main ho1 hnb
            have hf3 := hf.mono t2
            exact ⟨L3, _, { F with todo := (p.map Item.code).toList ++ k, defers := { target := .collected w.heap.size, args := #[] } :: F.defers }, cs, ⟨t1, t2, t3, rfl, rfl, rfl, rfl, .refl _ _⟩, ⟨hf3.fn, hf3.tmps, .cons t5 hf3.defs, hf3.round⟩, hb.mono t2, hout { F with todo := (p.map Item.code).toList ++ k, defers := { target := .collected w.heap.size, args := #[] } :: F.defers } hm rfl _ _ _⟩
          split at h
          · cases h
          · rename_i hnb
            split at h
            · cases h
              exact fin .norm ho (fun e => hnb (by rw [e])) fun F3 q1 q2 X L w => ⟨q1, by simpa using q2⟩
            · rename_i i
              cases h
              exact fin (.exit i) ho (fun e => hnb (by rw [e])) fun F3 q1 q2 X L w => ⟨q1, [], by simpa using q2, fun _ => rfl⟩
            · cases h
              exact fin .ret ho (fun e => hnb (by rw [e])) fun F3 q1 q2 X L w => ⟨q1, k, by simpa using q2⟩
            · cases h
        · cases h
      · rename_i v frc belc st1 hrr
        cases h
        obtain ⟨L3, w3, F3, cs3, s1, hE3, hH3, hfn3, hk3, hu3, _, hl3⟩ := ih.call _ _ _ _ _ hrr X L2 _ _ .normal ({ F with todo := .inRangeFunc (w.heap.size + 1) :: k, defers := { target := .collected w.heap.size, args := #[] } :: F.defers } :: cs) hH2 ho hxs rfl
        have hcs := hu3.normal
        subst hcs
        obtain ⟨ch, hx3, hv3⟩ := leave_pan hl3
        have s2 := step_leave_panicked (c := { F with todo := .inRangeFunc (w.heap.size + 1) :: k, defers := { target := .collected w.heap.size, args := #[] } :: F.defers }) (cs := cs) hx3
        have e2 : ({ F with todo := .inRangeFunc (w.heap.size + 1) :: k, defers := { target := .collected w.heap.size, args := #[] } :: F.defers } : Frame).raise ch = { F with todo := .inRangeFunc (w.heap.size + 1) :: k, defers := { target := .collected w.heap.size, args := #[] } :: F.defers, mode := .panicking ch } := by simp [Frame.raise, hm]
        rw [e2] at s2
        have hD : DRel X L2 (rangeW w F ps a b) { f := .junk, args := [], coll := some st.next } { target := .collected w.heap.size, args := #[] } := .coll hL20
        have hE' := hE.trans hE3
        have hf3 := hf.mono hE'
        exact ⟨L3, w3, { F with todo := .inRangeFunc (w.heap.size + 1) :: k, defers := { target := .collected w.heap.size, args := #[] } :: F.defers, mode := .panicking ch }, cs, ⟨.head (step0 _ hrr) (s1.trans (.one s2)), hE', hH3, rfl, rfl, rfl, rfl, .refl _ _⟩, ⟨hf3.fn, hf3.tmps, .cons (hD.mono hE3) hf3.defs, hf3.round⟩, hb.mono hE', ch, rfl, hv3⟩
      · cases h
      · cases h
    · cases h
end
end Go.Sy

/- The orders in which a region that draws its order may run. -/
set_option linter.unusedVariables false
set_option linter.unusedSimpArgs false
namespace Go.Sy

theorem binds_any (e : Edge) : Region.binds .any e = (match e.ground with | .textOnly _ | .gcOnly _ => false | _ => true) := by
  unfold Region.binds
  cases e.ground <;> rfl
theorem mem_edges {o : Oper} {j : Nat} : j ∈ edgesOf o ↔ ∃ e ∈ o.after, Region.binds .any e = true ∧ e.on = j := by
  unfold edgesOf
  simp only [List.mem_map, List.mem_filter, Array.mem_toList_iff]
  constructor
  · rintro ⟨e, ⟨h1, h2⟩, h3⟩; exact ⟨e, h1, by rw [binds_any]; exact h2, h3⟩
  · rintro ⟨e, h1, h2, h3⟩; exact ⟨e, ⟨h1, by rw [binds_any] at h2; exact h2⟩, h3⟩

theorem countP_lt {α : Type} {p q : α → Bool} : ∀ (l : List α), (∀ x, q x = true → p x = true) → (∃ x ∈ l, p x = true ∧ q x = false) → l.countP q < l.countP p := by
  intro l
  induction l with
  | nil => rintro _ ⟨x, hx, _⟩; cases hx
  | cons a l ih =>
    intro h ⟨x, hx, h1, h2⟩
    have hle : l.countP q ≤ l.countP p := List.countP_mono_left fun x _ => h x
    simp only [List.countP_cons]
    rcases List.mem_cons.1 hx with rfl | hx
    · rw [h1, h2]; simp; omega
    · have := ih h ⟨x, hx, h1, h2⟩
      by_cases hq : q a = true
      · rw [hq, h a hq]; simp; omega
      · have : (if q a = true then 1 else 0) ≤ (if p a = true then 1 else 0) := by rw [if_neg hq]; exact Nat.zero_le _
        omega

section
variable {ops : Array Oper} {an : List Nat}
def unl (ops : Array Oper) (listed : Array Bool) : Nat := (List.range ops.size).countP fun j => !listed.getD j true

theorem sched_go (h1 : ∀ i o, ops[i]? = some o → ∀ e ∈ edgesOf o, e < i) (h2 : ∀ i o j, ops[i]? = some o → j < ops.size → bit an i j = true → ∃ e ∈ edgesOf o, e = j ∨ bit an e j = true) :
    ∀ (fuel t : Nat) (listed : Array Bool), listed.size = ops.size → (∀ i j, listed.getD i false = true → j < ops.size → bit an i j = true → listed.getD j false = true) → unl ops listed ≤ fuel →
      (Region.linearise.go .any ops fuel t listed []).Nodup ∧ (Region.linearise.go .any ops fuel t listed []).Pairwise (fun a b => bit an a b = false) ∧
      ∀ j, j ∈ Region.linearise.go .any ops fuel t listed [] ↔ j < ops.size ∧ listed.getD j false = false := by
  have flip : ∀ (listed : Array Bool) (j : Nat), listed.size = ops.size → (listed.getD j true = false ↔ j < ops.size ∧ listed.getD j false = false) := by
    intro listed j hs
    by_cases hj : j < listed.size
    · simp [hj]; omega
    · simp [Array.getElem?_eq_none (Nat.le_of_not_lt hj)]; omega
  have none_ready : ∀ (listed : Array Bool), listed.size = ops.size → Region.ready .any ops listed = [] → ∀ j, j < ops.size → listed.getD j false = true := by
    intro listed hs hr j
    induction j using Nat.strongRecOn with
    | _ j ih =>
      intro hj
      cases hl : listed.getD j false with
      | true => rfl
      | false =>
        exfalso
        have : j ∈ Region.ready .any ops listed := by
          rw [mem_ready]
          refine ⟨(flip listed j hs).2 ⟨hj, hl⟩, ops[j], by simp [hj], fun e he hb => ?_⟩
          have hlt := h1 j ops[j] (by simp [hj]) e.on (mem_edges.2 ⟨e, he, hb, rfl⟩)
          exact ih _ hlt (by omega)
        rw [hr] at this
        cases this
  intro fuel
  induction fuel with
  | zero =>
    intro t listed hs hc hu
    have hall : ∀ j, j < ops.size → listed.getD j false = true := by
      intro j hj
      cases hl : listed.getD j false with
      | true => rfl
      | false =>
        exfalso
        have : 0 < unl ops listed := List.countP_pos_iff.2 ⟨j, List.mem_range.2 hj, by rw [(flip listed j hs).2 ⟨hj, hl⟩]; rfl⟩
        omega
    refine ⟨by simp [Region.linearise.go], by simp [Region.linearise.go], fun j => ?_⟩
    simp only [Region.linearise.go, List.reverse_nil, List.not_mem_nil, false_iff]
    rintro ⟨hj, hl⟩
    rw [hall j hj] at hl
    cases hl
  | succ fuel ih =>
    intro t listed hs hc hu
    have e : Region.linearise.go .any ops (fuel + 1) t listed [] = (match (Region.ready .any ops listed)[t % (Region.ready .any ops listed).length]? with
      | some i => Region.linearise.go .any ops fuel (t / (Region.ready .any ops listed).length) (listed.setIfInBounds i true) [i]
      | none => [].reverse) := rfl
    rw [e]
    cases hi : (Region.ready .any ops listed)[t % (Region.ready .any ops listed).length]? with
    | none =>
      have hnil : Region.ready .any ops listed = [] := by
        cases hr : Region.ready .any ops listed with
        | nil => rfl
        | cons x xs =>
          rw [hr] at hi
          have hlt : t % (x :: xs).length < (x :: xs).length := Nat.mod_lt _ (by simp)
          simp at hi
          simp at hlt
          omega
      have hall := none_ready listed hs hnil
      refine ⟨by simp, by simp, fun j => ?_⟩
      simp only [List.reverse_nil, List.not_mem_nil, false_iff]
      rintro ⟨hj, hl⟩
      rw [hall j hj] at hl
      cases hl
    | some i =>
      have hir := List.mem_of_getElem? hi
      rw [mem_ready] at hir
      obtain ⟨hi0, o, ho, hedge⟩ := hir
      obtain ⟨hi1, hi2⟩ := (flip listed i hs).1 hi0
      simp only []
      rw [linearise_go_acc, List.reverse_singleton, List.singleton_append]
      have hs' : (listed.setIfInBounds i true).size = ops.size := by simp [hs]
      have anc : ∀ j, j < ops.size → bit an i j = true → listed.getD j false = true := by
        intro j hj hb
        obtain ⟨e, he, hh⟩ := h2 i o j ho hj hb
        obtain ⟨ed, hed, hbd, rfl⟩ := mem_edges.1 he
        have hl := hedge ed hed hbd
        rcases hh with rfl | hh
        · exact hl
        · exact hc _ _ hl hj hh
      have gset : ∀ j, (listed.setIfInBounds i true).getD j false = true ↔ j = i ∨ listed.getD j false = true := by
        intro j
        by_cases hj : j = i
        · subst hj; simp [hs, hi1]
        · rw [getD_set_ne false (Ne.symm hj)]; simp [hj]
      have hc' : ∀ a b, (listed.setIfInBounds i true).getD a false = true → b < ops.size → bit an a b = true → (listed.setIfInBounds i true).getD b false = true := by
        intro a b ha hb hab
        rw [gset] at ha ⊢
        rcases ha with rfl | ha
        · exact .inr (anc b hb hab)
        · exact .inr (hc a b ha hb hab)
      have hu' : unl ops (listed.setIfInBounds i true) ≤ fuel := by
        have : unl ops (listed.setIfInBounds i true) < unl ops listed := by
          refine countP_lt _ (fun x hx => ?_) ⟨i, List.mem_range.2 hi1, by rw [hi0]; rfl, by simp [hs, hi1]⟩
          simp only [Bool.not_eq_true'] at hx ⊢
          rw [flip _ _ hs'] at hx
          rw [flip _ _ hs]
          refine ⟨hx.1, ?_⟩
          have := hx.2
          cases hl : listed.getD x false with
          | false => rfl
          | true => rw [(gset x).2 (.inr hl)] at this; cases this
        omega
      obtain ⟨q1, q2, q3⟩ := ih (t / (Region.ready .any ops listed).length) _ hs' hc' hu'
      refine ⟨List.nodup_cons.2 ⟨fun hm => ?_, q1⟩, List.pairwise_cons.2 ⟨fun b hb => ?_, q2⟩, fun j => ?_⟩
      · have := (q3 i).1 hm
        rw [(gset i).2 (.inl rfl)] at this
        cases this.2
      · cases hbb : bit an i b with
        | false => rfl
        | true =>
          have := (q3 b).1 hb
          rw [(gset b).2 (.inr (anc b this.1 hbb))] at this
          cases this.2
      · rw [List.mem_cons, q3]
        constructor
        · rintro (rfl | ⟨h, h'⟩)
          · exact ⟨hi1, hi2⟩
          · refine ⟨h, ?_⟩
            cases hl : listed.getD j false with
            | false => rfl
            | true => rw [(gset j).2 (.inr hl)] at h'; cases h'
        · rintro ⟨h, h'⟩
          by_cases hj : j = i
          · exact .inl hj
          · refine .inr ⟨h, ?_⟩
            cases hl : (listed.setIfInBounds i true).getD j false with
            | false => rfl
            | true =>
              rcases (gset j).1 hl with hh | hh
              · exact absurd hh hj
              · rw [hh] at h'; cases h'

theorem sched_ok (h1 : ∀ i o, ops[i]? = some o → ∀ e ∈ edgesOf o, e < i) (h2 : ∀ i o j, ops[i]? = some o → j < ops.size → bit an i j = true → ∃ e ∈ edgesOf o, e = j ∨ bit an e j = true) (t : Nat) :
    (Region.linearise .any ops t).Nodup ∧ (Region.linearise .any ops t).Pairwise (fun a b => bit an a b = false) ∧ ∀ j, j ∈ Region.linearise .any ops t ↔ j < ops.size := by
  have hu : unl ops (Array.replicate ops.size false) ≤ ops.size := by
    have := List.countP_le_length (p := fun j => !(Array.replicate ops.size false).getD j true) (l := List.range ops.size)
    simpa [unl] using this
  have hf : ∀ i, (Array.replicate ops.size false).getD i false = false := by
    intro i
    by_cases h : i < ops.size <;> simp [Array.getElem?_replicate, h]
  obtain ⟨q1, q2, q3⟩ := sched_go h1 h2 ops.size t (Array.replicate ops.size false) (by simp) (fun i j hi => by rw [hf] at hi; cases hi) hu
  exact ⟨q1, q2, fun j => by rw [Region.linearise, q3, hf]; simp⟩
end
end Go.Sy

/- An operation looks at nothing but its operands. -/
set_option linter.unusedVariables false
set_option linter.unusedSimpArgs false
namespace Go.Sy

section
variable {tb : Tab} {st : St} {ρ ρ' : Operand → AV}
theorem map_ops {xs : Array Operand} (h : ∀ x ∈ xs, ρ x = ρ' x) : xs.toList.map ρ = xs.toList.map ρ' :=
  List.map_congr_left fun x hx => h x (Array.mem_toList_iff.1 hx)
theorem map_parts {ps : Array (Nat × Operand)} (h : ∀ x ∈ (ps.toList.map (·.2)).toArray, ρ x = ρ' x) : (ps.toList.map fun (i, x) => (i, ρ x)) = ps.toList.map fun (i, x) => (i, ρ' x) := by
  refine List.map_congr_left fun p hp => ?_
  obtain ⟨i, x⟩ := p
  have : ρ x = ρ' x := h x (by simp; exact ⟨i, by simpa using hp⟩)
  simp [this]
theorem map_opt {x : Option Operand} (h : ∀ y ∈ x.toArray, ρ y = ρ' y) : x.map ρ = x.map ρ' := by
  cases x with
  | none => rfl
  | some y => simp [h y (by simp)]

theorem aVal_congr {op : Op} (h : ∀ x ∈ op.operands, ρ x = ρ' x) : aVal tb st ρ op = aVal tb st ρ' op := by
  cases op <;> simp only [aVal]
  case move x => simp [h x (by simp [Op.operands])]
  case assign x => simp [h x (by simp [Op.operands])]
  case pick c a b => simp [vPick, h c (by simp [Op.operands]), h a (by simp [Op.operands]), h b (by simp [Op.operands])]
  case build t ps => simp only [vBuild, map_parts (ρ := ρ) (ρ' := ρ') (ps := ps) (by simpa [Op.operands] using h)]
  case load t x => simp only [vLoad, h x (by simp [Op.operands])]
  case nilCheck x => simp only [vNil, h x (by simp [Op.operands])]
  case binOp op t x y u => simp only [h x (by simp [Op.operands]), h y (by simp [Op.operands])]
  case unOp op t x => simp only [h x (by simp [Op.operands])]
  case convert s d x => simp only [vConv, h x (by simp [Op.operands])]
  case makeInterface t x => simp only [vIface, h x (by simp [Op.operands])]
  case makeFunc f first cap =>
    cases f <;> simp only [aVal]
    rw [map_ops (xs := first) (fun x hx => h x (by simp [Op.operands, hx])), map_ops (xs := cap) (fun x hx => h x (by simp [Op.operands, hx]))]
  case slice t x lo hi mx =>
    have h1 : ρ x = ρ' x := h x (by simp [Op.operands])
    have h2 := map_opt (ρ := ρ) (ρ' := ρ') (x := lo) (fun y hy => h y (by simp only [Op.operands, Array.mem_append]; exact .inl (.inl (.inr hy))))
    have h3 := map_opt (ρ := ρ) (ρ' := ρ') (x := hi) (fun y hy => h y (by simp only [Op.operands, Array.mem_append]; exact .inl (.inr hy)))
    have h4 := map_opt (ρ := ρ) (ρ' := ρ') (x := mx) (fun y hy => h y (by simp only [Op.operands, Array.mem_append]; exact .inr hy))
    simp only [vSlice, h1, h2, h3, h4]
  case fieldAddr t x i => simp only [vFieldAddr, h x (by simp [Op.operands])]
  case field t x i => simp only [vField, h x (by simp [Op.operands])]
  case indexAddr t x i => simp only [vIndexAddr, h x (by simp [Op.operands]), h i (by simp [Op.operands])]
  case index t x i => simp only [vIndex, h x (by simp [Op.operands]), h i (by simp [Op.operands])]
  case lookup t x i ok => simp only [vLookup, h x (by simp [Op.operands]), h i (by simp [Op.operands])]
  case typeAssert x s t ok =>
    cases ok <;> simp only [aVal]
    simp only [vAssert, h x (by simp [Op.operands])]
  case extract t i => simp only [vExtract, h t (by simp [Op.operands])]
  case call c =>
    have : c.args.toList.map ρ = c.args.toList.map ρ' := map_ops fun x hx => h x (by simp [Op.operands, Call.operands, hx])
    simp only [vCall, this]
theorem touches_congr {op : Op} (h : ∀ x ∈ op.operands, ρ x = ρ' x) : touches tb ρ op = touches tb ρ' op := by
  cases op <;> simp only [touches]
  case load t x => simp only [tLoad, h x (by simp [Op.operands])]
  case nilCheck x => simp only [h x (by simp [Op.operands])]
  case binOp op t x y u => simp only [h x (by simp [Op.operands]), h y (by simp [Op.operands])]
  case slice t x lo hi mx => simp only [h x (by simp [Op.operands])]
  case fieldAddr t x i => simp only [h x (by simp [Op.operands])]
  case indexAddr t x i => simp only [h x (by simp [Op.operands])]
  case lookup t x i ok => simp only [h x (by simp [Op.operands])]
  case call c =>
    have : c.args.toList.map ρ = c.args.toList.map ρ' := map_ops fun x hx => h x (by simp [Op.operands, Call.operands, hx])
    simp only [this]
theorem aNew_congr {op : Op} (h : ∀ x ∈ op.operands, ρ x = ρ' x) : aNew tb ρ op = aNew tb ρ' op := by
  cases op <;> simp only [aNew]
  case box t x => simp only [h x (by simp [Op.operands])]
  case buildSlice t n ps => simp only [nBuild, map_parts (ρ := ρ) (ρ' := ρ') (ps := ps) (by simpa [Op.operands] using h)]
  case makeSlice t l c => simp only [nMake, h l (by simp [Op.operands]), h c (by simp [Op.operands])]
  case makeMap t r => cases r <;> simp only [aNew]
theorem aEff_congr {op : Op} (h : ∀ x ∈ op.operands, ρ x = ρ' x) : aEff tb st ρ op = aEff tb st ρ' op := by
  cases op <;> simp only [aEff]
  case store t a x => simp only [eStore, h a (by simp [Op.operands]), h x (by simp [Op.operands])]
  case mapUpdate t m k x => simp only [eMap, h m (by simp [Op.operands]), h k (by simp [Op.operands]), h x (by simp [Op.operands])]
  case insert t m k x => simp only [eMap, h m (by simp [Op.operands]), h k (by simp [Op.operands]), h x (by simp [Op.operands])]
  case panic x => simp only [h x (by simp [Op.operands])]
  case call c =>
    have h1 : c.args.toList.map ρ = c.args.toList.map ρ' := map_ops fun x hx => h x (by simp [Op.operands, Call.operands, hx])
    unfold eCall
    split
    · rename_i f hf
      rw [h1, h f (by simp [Op.operands, Call.operands, hf])]
    · rw [h1]
    · rfl
  case defer c =>
    have h1 : c.args.toList.map ρ = c.args.toList.map ρ' := map_ops fun x hx => h x (by simp [Op.operands, Call.operands, hx])
    unfold eDefer
    split
    · rename_i f hf
      rw [h1, h f (by simp [Op.operands, Call.operands, hf])]
    · rfl
end

section
variable {tb : Tab} {rec : Cmd → St → Ex}
/-- an effect in a frame with other temporaries -/
def Eff.withT (e : Eff) (t : T AV) : Eff :=
  match e with
  | .val v fr bel st => .val v { fr with tmps := t } bel st
  | e => e
theorem evEff_tmps {o : Oper} {fr : Fr} {bel : Below} {st : St} {t : T AV} (h : ∀ x ∈ o.op.operands, fr.eval x = ({ fr with tmps := t } : Fr).eval x) :
    evEff tb rec o { fr with tmps := t } bel st = (evEff tb rec o fr bel st).withT t := by
  have hc : ∀ (f : Nat) (args : List AV) (st : St), evCall rec f args { fr with tmps := t } bel st = (evCall rec f args fr bel st).withT t := by
    intro f args st
    unfold evCall
    split <;> rfl
  have hy : ∀ (l : Nat) (args : List AV) (st : St), evYield tb rec l args { fr with tmps := t } bel st = (evYield tb rec l args fr bel st).withT t := by
    intro l args st
    unfold evYield
    repeat' split
    all_goals rfl
  unfold evEff
  rw [← aEff_congr h]
  split
  · rfl
  · split
    · rw [Bool.cond_eq_ite, Bool.cond_eq_ite]
      split
      · unfold toldCall
        split
        · split <;> rfl
        · rfl
      · exact hc _ _ _
    · exact hc _ _ _
  · exact hy _ _ _
  · obtain ⟨ffn, ftm, fde, fro⟩ := fr
    cases fro <;> rfl
  · obtain ⟨ffn, ftm, fde, fro⟩ := fr
    cases fro
    · cases bel with
      | panicking v r => cases r <;> rfl
      | _ => rfl
    · rfl
  · rfl
  · rfl
end
end Go.Sy

/- A region that draws its order: what the evaluator did, step by step. -/
set_option linter.unusedVariables false
set_option linter.unusedSimpArgs false
namespace Go.Sy

structure En where
  i : Nat
  v : AV
  n : Nat
  blk : Option Blk
def En.m (e : En) : Nat := match e.blk with | none => e.n | some _ => e.n + 1
theorem En.n_le (e : En) : e.n ≤ e.m := by unfold En.m; split <;> omega
def dstOf (ops : List Oper) (i : Nat) : Option Nat := (ops[i]?).bind (·.dst)
noncomputable def St.adv (st : St) (b : Option Blk) : St := match b with | none => st | some b => st.new b
structure Like (a b : St) : Prop where
  heap : a.heap = b.heap
  next : a.next = b.next
theorem Like.get {a b : St} (h : Like a b) (i : Nat) : a.get i = b.get i := get_of_eq h.heap h.next i
theorem Like.hp {a b : St} (h : Like a b) : a.hp = b.hp := hp_of_eq h.heap h.next
theorem Like.refl (a : St) : Like a a := ⟨rfl, rfl⟩
theorem Like.tick (a : St) : Like a.tick a := by rw [St.tick_eq]; exact ⟨rfl, rfl⟩
theorem Like.trans {a b c : St} (h : Like a b) (k : Like b c) : Like a c := ⟨h.heap.trans k.heap, h.next.trans k.next⟩

section
variable (tb : Tab) (rec : Cmd → St → Ex) (ops : List Oper) (an : List Nat)
inductive NS (acc : List (Nat × Log)) (i : Nat) (fr : Fr) (st : St) : AV → Option Blk → Prop where
  | skip {o : Oper} (ho : ops[i]? = some o) (hw : wantedA o ops fr = some false) : NS acc i fr st undefA none
  | val {o : Oper} {v : AV} (ho : ops[i]? = some o) (hw : wantedA o ops fr = some true) (hk : opKd o.op = .val) (ha : ∀ e ∈ acc, bit an i e.1 = true ∨ apart (touches tb fr.eval o.op) e.2 = true)
      (hv : aValS tb st fr.eval o.op = some v) : NS acc i fr st v none
  | new {o : Oper} {blk : Blk} {mk : Nat → AV} (ho : ops[i]? = some o) (hw : wantedA o ops fr = some true) (hk : opKd o.op = .new) (hn : aNew tb fr.eval o.op = some (blk, mk)) : NS acc i fr st (mk st.next) (some blk)

inductive Ch : List (Nat × Log) → Fr → St → List En → Prop where
  | nil {acc : List (Nat × Log)} {fr : Fr} {st : St} : Ch acc fr st []
  | non {acc : List (Nat × Log)} {fr fr' : Fr} {st st' : St} {i : Nat} {v : AV} {blk : Option Blk} {es : List En} (h : NS tb ops an acc i fr st v blk) (h1 : fr'.tmps = putA fr.tmps (dstOf ops i) v) (h2 : Like st' (st.adv blk)) (h3 : Ch acc fr' st' es) :
      Ch acc fr st (⟨i, v, st.next, blk⟩ :: es)
  | eff {acc : List (Nat × Log)} {fr fr' : Fr} {st st' : St} {i : Nat} {v : AV} {log : Log} {es : List En} (h1 : fr'.tmps = putA fr.tmps (dstOf ops i) v) (h2 : Keep st st' log) (hk : ∃ o, ops[i]? = some o ∧ opKd o.op = .eff) (h3 : Ch ((i, log) :: acc) fr' st' es) :
      Ch acc fr st (⟨i, v, st.next, none⟩ :: es)

inductive DR : List Nat → List (Nat × Log) → Fr → Below → St → Res → List En → Prop where
  | nil {acc : List (Nat × Log)} {fr : Fr} {bel : Below} {st : St} : DR [] acc fr bel st ⟨.norm, fr, bel, st⟩ []
  | non {acc : List (Nat × Log)} {fr : Fr} {bel : Below} {st st' : St} {i : Nat} {o : Oper} {v : AV} {blk : Option Blk} {rest : List Nat} {r : Res} {es : List En} (ho : ops[i]? = some o) (h : NS tb ops an acc i fr st v blk) (h2 : Like st' (st.adv blk))
      (h3 : DR rest acc (fr.put o.dst v) bel st' r es) : DR (i :: rest) acc fr bel st r (⟨i, v, st.next, blk⟩ :: es)
  | eff {acc : List (Nat × Log)} {fr fr1 : Fr} {bel bel1 : Below} {st st1 st' : St} {i : Nat} {o : Oper} {v : AV} {rest : List Nat} {r : Res} {es : List En} (ho : ops[i]? = some o) (hw : wantedA o ops fr = some true) (hk : opKd o.op = .eff)
      (he : evEff tb rec o fr bel { st with log := [] } = .val v fr1 bel1 st1) (hob : AllObl st1.obl) (ht : fr1.tmps = fr.tmps) (hkeep : Keep st st' st1.log) (h2 : Like st' st1)
      (h3 : DR rest ((i, st1.log) :: acc) (fr1.put o.dst v) bel1 st' r es) : DR (i :: rest) acc fr bel st r (⟨i, v, st.next, none⟩ :: es)
  | pan {acc : List (Nat × Log)} {fr : Fr} {bel bel1 : Below} {st st1 st' : St} {i : Nat} {o : Oper} {v : AV} {rest : List Nat} {es : List En} (ho : ops[i]? = some o) (hw : wantedA o ops fr = some true) (hk : opKd o.op = .eff)
      (he : evEff tb rec o fr bel { st with log := [] } = .pan v bel1 st1) (hob : AllObl st1.obl) (h2 : Like st' st1)
      (h3 : Ch tb ops an acc fr st es) (h4 : es.map (·.i) = rest.filter fun j => !bit an j i) : DR (i :: rest) acc fr bel st ⟨.pan v, { fr with tmps := dropSlots ops rest fr.tmps }, bel1, st'⟩ es
end

section
variable {tb : Tab} {rec : Cmd → St → Ex} {ops : List Oper} {an : List Nat}
theorem put_tmps {fr : Fr} {i : Nat} {o : Oper} (ho : ops[i]? = some o) (v : AV) : (fr.put o.dst v).tmps = putA fr.tmps (dstOf ops i) v := by
  rw [(put_fr fr o.dst v).1]; simp [dstOf, ho]
theorem DR.ch {l : List Nat} {acc : List (Nat × Log)} {fr : Fr} {bel : Below} {st : St} {r : Res} {es : List En} (h : DR tb rec ops an l acc fr bel st r es) : Ch tb ops an acc fr st es := by
  induction h with
  | nil => exact .nil
  | non ho h h2 h3 ih => exact .non h (put_tmps ho _) h2 ih
  | eff ho hw hk he hob ht hkeep h2 h3 ih => exact .eff (by rw [put_tmps ho, ht]) hkeep ⟨_, ho, hk⟩ ih
  | pan ho hw hk he hob h2 h3 h4 => exact h3

theorem rest_ch {m : Nat} {acc : List (Nat × Log)} : ∀ (l : List Nat) (fr : Fr) (st : St), evRest tb ops an m acc l fr st = true → ∃ es, Ch tb ops an acc fr st es ∧ es.map (·.i) = l.filter fun j => !bit an j m := by
  intro l
  induction l with
  | nil => intro fr st h; exact ⟨[], .nil, rfl⟩
  | cons i l ih =>
    intro fr st h
    simp only [evRest] at h
    rw [Bool.cond_eq_ite] at h
    split at h
    · rename_i hb
      obtain ⟨es, h1, h2⟩ := ih _ _ h
      refine ⟨es, h1, ?_⟩
      have hb' : bit an i m = true := hb
      rw [List.filter_cons_of_neg (by simp [hb']), h2]
    · rename_i hb
      have hb' : bit an i m = false := by simpa [bit] using hb
      unfold restOne at h
      have fin : ∀ {v : AV} {blk : Option Blk} {fr' : Fr} {st' : St}, NS tb ops an acc i fr st v blk → fr'.tmps = putA fr.tmps (dstOf ops i) v → Like st' (st.adv blk) → evRest tb ops an m acc l fr' st' = true →
          ∃ es, Ch tb ops an acc fr st es ∧ es.map (·.i) = (i :: l).filter fun j => !bit an j m := by
        intro v blk fr' st' hn ht hl h
        obtain ⟨es, h1, h2⟩ := ih _ _ h
        exact ⟨_, .non hn ht hl h1, by rw [List.map_cons, List.filter_cons_of_pos (by simp [hb']), h2]⟩
      split at h
      · cases h
      · rename_i o ho
        split at h
        · cases h
        · rename_i hw
          exact fin (.skip ho hw) (put_tmps ho _) (.refl _) h
        · rename_i hw
          split at h
          · rename_i hk
            rw [Bool.cond_eq_ite] at h
            split at h
            · rename_i hacc
              split at h
              · rename_i v hv
                refine fin (.val ho hw hk (fun e he => ?_) hv) (put_tmps ho _) (.refl _) h
                have := List.all_eq_true.1 hacc e he
                simpa [bit, Bool.or_eq_true] using this
              · cases h
            · cases h
          · rename_i hk
            split at h
            · rename_i blk mk hn
              exact fin (.new ho hw hk hn) (put_tmps ho _) (.refl _) h
            · cases h
          · cases h

theorem eff_tmps {o : Oper} {fr fr1 : Fr} {bel bel1 : Below} {st st1 : St} {v : AV} (h : evEff tb rec o fr bel st = .val v fr1 bel1 st1) : fr1.tmps = fr.tmps := by
  have := evEff_tmps (tb := tb) (rec := rec) (o := o) (fr := fr) (bel := bel) (st := st) (t := fr.tmps) (fun x _ => rfl)
  have e : ({ fr with tmps := fr.tmps } : Fr) = fr := rfl
  rw [e, h] at this
  simp only [Eff.withT, Eff.val.injEq] at this
  rw [this.2.1]

theorem dr_of (ih : RecAdv rec) : ∀ (l : List Nat) (acc : List (Nat × Log)) (fr : Fr) (bel : Below) (st : St) (r : Res), evDrawn tb rec ops an l acc fr bel st = .ok r → AllObl r.st.obl → ∃ es, DR tb rec ops an l acc fr bel st r es := by
  intro l
  induction l with
  | nil => intro acc fr bel st r h ho; cases h; exact ⟨[], .nil⟩
  | cons i rest ihl =>
    intro acc fr bel st r h ho
    simp only [evDrawn, dOne] at h
    split at h
    · cases h
    · rename_i o hoi
      split at h
      · cases h
      · rename_i hw
        obtain ⟨es, hd⟩ := ihl _ _ _ _ _ h ho
        exact ⟨_, .non hoi (.skip hoi hw) (.tick st) hd⟩
      · rename_i hw
        split at h
        · rename_i hk
          unfold dOpV at h
          rw [Bool.cond_eq_ite] at h
          split at h
          · rename_i hacc
            split at h
            · rename_i v st1 hask
              have hoo : AllObl st1.obl := by
                have := (evDrawn_adv (tb := tb) ih _ _ _ _ _ _ _ _ h).all ho
                rw [St.tick_eq] at this
                exact this
              obtain ⟨a1, a2, a3, a4, a5, a6⟩ := askV_ok hask
              obtain ⟨es, hd⟩ := ihl _ _ _ _ _ h ho
              refine ⟨_, .non hoi (.val hoi hw hk (fun e he => ?_) (a1 hoo)) ((Like.tick st1).trans ⟨a3, a4⟩) hd⟩
              have := List.all_eq_true.1 hacc e he
              simpa [bit, Bool.or_eq_true] using this
            · cases h
          · cases h
        · rename_i hk
          unfold dOpN at h
          split at h
          · rename_i blk mk hn
            obtain ⟨es, hd⟩ := ihl _ _ _ _ _ h ho
            exact ⟨_, .non hoi (.new hoi hw hk hn) (.tick _) hd⟩
          · cases h
        · rename_i hk
          unfold dOpE at h
          split at h
          · rename_i v fr1 bel1 st1 he
            have hoo : AllObl st1.obl := by
              have := (evDrawn_adv (tb := tb) ih _ _ _ _ _ _ _ _ h).all ho
              rw [St.tick_eq] at this
              exact this
            obtain ⟨es, hd⟩ := ihl _ _ _ _ _ h ho
            have ha := evEff_adv (tb := tb) ih (st' := st1) (by rw [he]; rfl)
            have hkp := ha.go hoo
            have hlike : Like ({ st1 with log := st1.log ++ st.log } : St).tick st1 := (Like.tick _).trans ⟨rfl, rfl⟩
            refine ⟨_, .eff hoi hw hk he hoo (eff_tmps he) ?_ hlike hd⟩
            exact ⟨by rw [hlike.next]; exact hkp.next, fun b hb hdd => by rw [hlike.get]; exact hkp.dead b hb hdd, fun b hb hn => by
              have := hkp.same b hb hn
              split
              · rename_i cs hcs
                have e : ({ st with log := [] } : St).get b = .cells cs := hcs
                rw [e] at this
                rw [hlike.get]
                exact this
              · rename_i x hx
                rw [hlike.get]
                have e : ({ st with log := [] } : St).get b = st.get b := rfl
                rw [e] at this
                split at this
                · rename_i cs hcs; exact absurd hcs (hx cs)
                · exact this⟩
          · rename_i v bel1 st1 he
            rw [Bool.cond_eq_ite] at h
            split at h
            · rename_i hr
              cases h
              obtain ⟨es, h1, h2⟩ := rest_ch _ _ _ hr
              exact ⟨es, .pan hoi hw hk he ho ⟨rfl, rfl⟩ h1 h2⟩
            · cases h
          · cases h

/-- what a block was, what it is: but for what the log names -/
def Kept (x y : Blk) (l : Log) (b : Nat) : Prop := ¬ covered l b live0 → match x with
  | .cells cs => ∃ cs', y = .cells cs' ∧ ∀ q, ¬ covered l b q → cs'[q]? = cs[q]?
  | x => y = x
theorem Kept.refl (x : Blk) (l : Log) (b : Nat) : Kept x x l b := by
  intro _
  split
  · exact ⟨_, rfl, fun _ _ => rfl⟩
  · rfl
theorem Kept.trans {x y z : Blk} {l m n : Log} {b : Nat} (h : Kept x y l b) (k : Kept y z m b) (h1 : ∀ e ∈ l, e ∈ n) (h2 : ∀ e ∈ m, e ∈ n) : Kept x z n b := by
  intro hn
  have c1 : ∀ q, ¬ covered n b q → ¬ covered l b q := fun q hq ⟨e, he, h3⟩ => hq ⟨e, h1 e he, h3⟩
  have c2 : ∀ q, ¬ covered n b q → ¬ covered m b q := fun q hq ⟨e, he, h3⟩ => hq ⟨e, h2 e he, h3⟩
  have q1 := h (c1 _ hn)
  have q2 := k (c2 _ hn)
  cases x with
  | cells cs =>
    obtain ⟨cs', rfl, q3⟩ := q1
    obtain ⟨cs'', rfl, q4⟩ := q2
    exact ⟨cs'', rfl, fun q hq => (q4 q (c2 q hq)).trans (q3 q (c1 q hq))⟩
  | map es => have e : y = .map es := q1; subst e; exact q2
  | loop s p f t ps a b d => have e : y = .loop s p f t ps a b d := q1; subst e; exact q2
  | defd t => have e : y = .defd t := q1; subst e; exact q2
  | dead => have e : y = .dead := q1; subst e; exact q2
theorem Kept.of {x y : Blk} {l : Log} {b : Nat} (h : ¬ covered l b live0 → match x with
    | .cells cs => ∃ cs', y = .cells cs' ∧ ∀ q, ¬ covered l b q → cs'[q]? = cs[q]?
    | x => y = x) : Kept x y l b := h
theorem Kept.alive {x y : Blk} {l : Log} {b : Nat} (h : Kept x y l b) (hn : ¬ covered l b live0) (ha : y.alive = true) : x.alive = true := by
  have q := h hn
  cases x with
  | dead => have e : y = .dead := q; subst e; exact ha
  | _ => rfl

theorem get_new_self (st : St) (x : Blk) : (st.new x).get st.next = x := by
  have h2 := St.new_hp st x
  have := congrFun h2 st.next
  simp only [St.hp, Hp.set, if_true] at this
  rw [if_pos (by simp [St.new])] at this
  exact Option.some.inj this

/-- where the evaluator stood at an entry -/
theorem Ch.at {e : En} {post : List En} : ∀ {pre : List En} {acc : List (Nat × Log)} {fr : Fr} {st : St}, Ch tb ops an acc fr st (pre ++ e :: post) → (∀ p ∈ pre, ∀ q ∈ pre, dstOf ops p.i ≠ none → dstOf ops p.i = dstOf ops q.i → p.i = q.i) → (pre.map (·.i)).Nodup →
    ∃ acc' fr' st' l, Ch tb ops an acc' fr' st' (e :: post) ∧ st.next ≤ st'.next ∧ (∀ a ∈ acc', a ∈ acc ∨ ∃ p ∈ pre, p.i = a.1) ∧ (∀ a ∈ acc, a ∈ acc') ∧ (∀ x ∈ l, ∃ a ∈ acc', (∃ p ∈ pre, p.i = a.1 ∧ ∃ o, ops[p.i]? = some o ∧ opKd o.op = .eff) ∧ x ∈ a.2) ∧
      (∀ b, b < st.next → Kept (st.get b) (st'.get b) l b) ∧ (∀ p ∈ pre, p.m ≤ st'.next ∧ st.next ≤ p.n ∧ ∀ blk, p.blk = some blk → Kept blk (st'.get p.n) l p.n) ∧
      (∀ t, (∀ p ∈ pre, dstOf ops p.i ≠ some t) → fr'.tmps.get? t = fr.tmps.get? t) ∧ (∀ p ∈ pre, ∀ t, dstOf ops p.i = some t → fr'.tmps.get? t = some p.v) := by
  intro pre
  induction pre with
  | nil =>
    intro acc fr st h _ _
    exact ⟨acc, fr, st, [], h, Nat.le_refl _, fun a ha => .inl ha, fun a ha => ha, (fun x hx => by cases hx), fun b _ => .refl _ _ _, (fun p hp => by cases hp), fun _ _ => rfl, (fun p hp => by cases hp)⟩
  | cons p0 pre ih =>
    intro acc fr st h hd hnd
    rw [List.map_cons, List.nodup_cons] at hnd
    have hd' : ∀ p ∈ pre, ∀ q ∈ pre, dstOf ops p.i ≠ none → dstOf ops p.i = dstOf ops q.i → p.i = q.i := fun p hp q hq => hd p (List.mem_cons_of_mem _ hp) q (List.mem_cons_of_mem _ hq)
    have ne : ∀ p ∈ pre, p.i ≠ p0.i := by
      intro p hp hh
      exact hnd.1 (List.mem_map.2 ⟨p, hp, hh⟩)
    have slot : ∀ (fr1 fr2 : Fr), fr1.tmps = putA fr.tmps (dstOf ops p0.i) p0.v → (∀ t, (∀ p ∈ pre, dstOf ops p.i ≠ some t) → fr2.tmps.get? t = fr1.tmps.get? t) → (∀ p ∈ pre, ∀ t, dstOf ops p.i = some t → fr2.tmps.get? t = some p.v) →
        (∀ t, (∀ p ∈ p0 :: pre, dstOf ops p.i ≠ some t) → fr2.tmps.get? t = fr.tmps.get? t) ∧ (∀ p ∈ p0 :: pre, ∀ t, dstOf ops p.i = some t → fr2.tmps.get? t = some p.v) := by
      intro fr1 fr2 h1 h2 h3
      refine ⟨fun t ht => ?_, fun p hp t ht => ?_⟩
      · rw [h2 t fun p hp => ht p (List.mem_cons_of_mem _ hp), h1]
        have := ht p0 (List.mem_cons_self ..)
        cases hdd : dstOf ops p0.i with
        | none => rfl
        | some d =>
          rw [hdd] at this
          simp only [putA, T.get?_set]
          rw [if_neg (fun hh => this (by rw [hh]))]
      · rcases List.mem_cons.1 hp with rfl | hp
        · have hno : ∀ q ∈ pre, dstOf ops q.i ≠ some t := by
            intro q hq hqt
            exact ne q hq (hd q (List.mem_cons_of_mem _ hq) p (List.mem_cons_self ..) (by rw [hqt]; simp) (by rw [hqt, ht]))
          rw [h2 t hno, h1, ht]
          simp [putA, T.get?_set]
        · exact h3 p hp t ht
    cases h with
    | @non _ _ fr' _ st' i v blk _ hns h1 h2 h3 =>
      obtain ⟨acc2, fr2, st2, l, c1, c2, c3, c3', c4, c5, c6, c7, c8⟩ := ih h3 hd' hnd.2
      obtain ⟨s1, s2⟩ := slot fr' fr2 h1 c7 c8
      have hnx : st'.next = match blk with | none => st.next | some _ => st.next + 1 := by rw [h2.next]; cases blk <;> rfl
      have hle : st.next ≤ st'.next := by rw [hnx]; split <;> omega
      have hget : ∀ b, b < st.next → st'.get b = st.get b := by
        intro b hb
        rw [h2.get]
        cases blk with
        | none => rfl
        | some x => exact St.get_new st x b hb
      refine ⟨acc2, fr2, st2, l, c1, Nat.le_trans hle c2, fun a ha => ?_, c3', fun x hx => ?_, fun b hb => ?_, fun p hp => ?_, s1, s2⟩
      · rcases c3 a ha with h | ⟨p, hp, hh⟩
        · exact .inl h
        · exact .inr ⟨p, List.mem_cons_of_mem _ hp, hh⟩
      · obtain ⟨a, ha, ⟨p, hp, hh⟩, hx'⟩ := c4 x hx
        exact ⟨a, ha, ⟨p, List.mem_cons_of_mem _ hp, hh⟩, hx'⟩
      · have := c5 b (by omega)
        rw [hget b hb] at this
        exact this
      · rcases List.mem_cons.1 hp with rfl | hp
        · refine ⟨?_, Nat.le_refl _, fun x hx => ?_⟩
          · have : (⟨i, v, st.next, blk⟩ : En).m = st'.next := by rw [hnx]; unfold En.m; cases blk <;> rfl
            rw [this]; exact c2
          · simp only at hx
            subst hx
            have := c5 st.next (by rw [hnx]; simp)
            rw [h2.get] at this
            have e : (st.adv (some x)).get st.next = x := get_new_self st x
            rw [e] at this
            exact this
        · obtain ⟨k1, k2, k3⟩ := c6 p hp
          exact ⟨k1, Nat.le_trans hle k2, k3⟩
    | @eff _ _ fr' _ st' i v log _ h1 h2 hk h3 =>
      obtain ⟨acc2, fr2, st2, l, c1, c2, c3, c3', c4, c5, c6, c7, c8⟩ := ih h3 hd' hnd.2
      obtain ⟨s1, s2⟩ := slot fr' fr2 h1 c7 c8
      refine ⟨acc2, fr2, st2, l ++ log, c1, Nat.le_trans h2.next c2, fun a ha => ?_, fun a ha => c3' a (List.mem_cons_of_mem _ ha), fun x hx => ?_, fun b hb => ?_, fun p hp => ?_, s1, s2⟩
      · rcases c3 a ha with h | ⟨p, hp, hh⟩
        · rcases List.mem_cons.1 h with rfl | h
          · exact .inr ⟨_, List.mem_cons_self .., rfl⟩
          · exact .inl h
        · exact .inr ⟨p, List.mem_cons_of_mem _ hp, hh⟩
      · rcases List.mem_append.1 hx with hx | hx
        · obtain ⟨a, ha, ⟨p, hp, hh⟩, hx'⟩ := c4 x hx
          exact ⟨a, ha, ⟨p, List.mem_cons_of_mem _ hp, hh⟩, hx'⟩
        · exact ⟨(i, log), c3' _ (List.mem_cons_self ..), ⟨_, List.mem_cons_self .., rfl, hk⟩, hx⟩
      · exact (Kept.of (h2.same b hb)).trans (c5 b (Nat.lt_of_lt_of_le hb h2.next)) (fun e he => List.mem_append.2 (.inr he)) (fun e he => List.mem_append.2 (.inl he))
      · rcases List.mem_cons.1 hp with rfl | hp
        · refine ⟨?_, Nat.le_refl _, fun x hx => by cases hx⟩
          show st.next ≤ st2.next
          exact Nat.le_trans h2.next c2
        · obtain ⟨k1, k2, k3⟩ := c6 p hp
          refine ⟨k1, Nat.le_trans h2.next k2, fun x hx => ?_⟩
          exact (Kept.refl x [] _).trans (k3 x hx) (fun e he => by cases he) (fun e he => List.mem_append.2 (.inl he))

theorem Ch.mono {acc : List (Nat × Log)} {fr : Fr} {st : St} {es : List En} (h : Ch tb ops an acc fr st es) : es.Pairwise (fun a b => a.m ≤ b.n) ∧ ∀ p ∈ es, st.next ≤ p.n := by
  induction h with
  | nil => exact ⟨.nil, fun p hp => by cases hp⟩
  | @non acc fr fr' st st' i v blk es h h1 h2 h3 ih =>
    have hnx : (⟨i, v, st.next, blk⟩ : En).m = st'.next := by rw [h2.next]; cases blk <;> rfl
    have hle : st.next ≤ st'.next := by rw [← hnx]; exact En.n_le ⟨i, v, st.next, blk⟩
    refine ⟨List.pairwise_cons.2 ⟨fun p hp => by rw [hnx]; exact ih.2 p hp, ih.1⟩, fun p hp => ?_⟩
    rcases List.mem_cons.1 hp with rfl | hp
    · exact Nat.le_refl _
    · exact Nat.le_trans hle (ih.2 p hp)
  | @eff acc fr fr' st st' i v log es h1 h2 hk h3 ih =>
    refine ⟨List.pairwise_cons.2 ⟨fun p hp => Nat.le_trans h2.next (ih.2 p hp), ih.1⟩, fun p hp => ?_⟩
    rcases List.mem_cons.1 hp with rfl | hp
    · exact Nat.le_refl _
    · exact Nat.le_trans h2.next (ih.2 p hp)
end
end Go.Sy

/- A region that draws its order: what has been done early, against what the evaluator says. -/
set_option linter.unusedVariables false
set_option linter.unusedSimpArgs false
namespace Go.Sy

def Ln (L M : Loc) (lo n : Nat) : Loc := fun b => if b < lo then L b else if b < n then M b else .absent
def Xn (X : Nat → Prop) (M : Loc) (n : Nat) : Nat → Prop := fun c => X c ∨ ∃ b, n ≤ b ∧ ∃ o cap sz, M b = .live c o cap sz

section
variable {X : Nat → Prop} {L M : Loc} {w : World}
theorem Ln_lt {lo n b : Nat} (h : b < lo) : Ln L M lo n b = L b := by simp [Ln, h]
theorem Ln_mid {lo n b : Nat} (h : lo ≤ b) (h2 : b < n) : Ln L M lo n b = M b := by simp [Ln, h2, Nat.not_lt.2 h]
theorem Ln_out {lo n b : Nat} (h : lo ≤ b) (h2 : n ≤ b) : Ln L M lo n b = .absent := by simp [Ln, Nat.not_lt.2 h2, Nat.not_lt.2 h]
theorem Ln_self {Y : Nat → Prop} {st : St} (H : HRel Y L st.hp w) : Ln L M st.next st.next = L := by
  funext b
  by_cases h : b < st.next
  · exact Ln_lt h
  · rw [Ln_out (Nat.not_lt.1 h) (Nat.not_lt.1 h), H.out b (hp_none (Nat.not_lt.1 h))]
theorem Xn_mono {n n' : Nat} (h : n ≤ n') {c : Nat} (hc : Xn X M n' c) : Xn X M n c := by
  rcases hc with hc | ⟨b, hb, hc⟩
  · exact .inl hc
  · exact .inr ⟨b, Nat.le_trans h hb, hc⟩
/-- to a later level -/
theorem Lift.level {lo n n' : Nat} (h : lo ≤ n) (h' : n ≤ n') : Lift (Xn X M n) (Ln L M lo n) w (Xn X M n') (Ln L M lo n') w := by
  refine ⟨fun b hb => .inl ?_, fun c h1 h2 h3 => ⟨?_, fun hc => h3 (Xn_mono h' hc), h1, rfl⟩⟩
  · by_cases e : b < lo
    · rw [Ln_lt e, Ln_lt e]
    · by_cases e2 : b < n
      · rw [Ln_mid (Nat.not_lt.1 e) e2, Ln_mid (Nat.not_lt.1 e) (Nat.lt_of_lt_of_le e2 h')]
      · exact absurd (Ln_out (Nat.not_lt.1 e) (Nat.not_lt.1 e2)) hb
  · rintro ⟨b, o, cap, sz, hb⟩
    by_cases e : b < lo
    · rw [Ln_lt e] at hb; exact h2 ⟨b, o, cap, sz, by rw [Ln_lt e]; exact hb⟩
    · by_cases e2 : b < n'
      · rw [Ln_mid (Nat.not_lt.1 e) e2] at hb
        by_cases e3 : b < n
        · exact h2 ⟨b, o, cap, sz, by rw [Ln_mid (Nat.not_lt.1 e) e3]; exact hb⟩
        · exact h3 (.inr ⟨b, Nat.not_lt.1 e3, o, cap, sz, hb⟩)
      · rw [Ln_out (Nat.not_lt.1 e) (Nat.not_lt.1 e2)] at hb; cases hb
theorem Lift.core {Y : Nat → Prop} {st : St} (H : HRel Y L st.hp w) {n : Nat} (h : st.next ≤ n) : Lift (Xn X M st.next) L w (Xn X M n) (Ln L M st.next n) w := by
  have := Lift.level (X := X) (L := L) (M := M) (w := w) (Nat.le_refl st.next) h
  rw [Ln_self H] at this
  exact this
theorem HRel.grow {h : Hp} {X' : Nat → Prop} (H : HRel X L h w) (obj : Obj) (hX : ∀ c, X' c → X c ∨ c = w.heap.size) : HRel X' L h (w.alloc obj) := by
  have hl : Lift X L w X' L (w.alloc obj) := by
    refine ⟨fun b _ => .inl rfl, fun c h1 h2 h3 => ⟨h2, fun hc => ?_, by simp; omega, heap_alloc_old w obj c h1⟩⟩
    rcases hX c hc with hc | hc
    · exact h3 hc
    · omega
  refine ⟨H.out, H.dead, fun b x hb ha => ?_, H.inj, fun c hc => by have := H.lt c hc; simp; omega, fun c hc hx => ?_, fun c hc => ?_⟩
  · obtain ⟨c, o, cap, sz, h1, h2⟩ := H.blk b x hb ha
    exact ⟨c, o, cap, sz, h1, h2.lift hl (heap_alloc_old w obj c (H.lt c ⟨b, o, cap, sz, h1⟩))⟩
  · rcases hX c hx with hx | hx
    · exact H.far c hc hx
    · have := H.lt c hc; omega
  · rcases hX c hc with hx | hx
    · have := H.xlt c hx; simp; omega
    · simp [hx]
end

/-- what the plan of a region says -/
structure Pl (ops : List Oper) (an : List Nat) : Prop where
  dst : ∀ i j d, dstOf ops i = some d → dstOf ops j = some d → i = j
  reads : ∀ i o j d, ops[i]? = some o → dstOf ops j = some d → d ∈ readsOf ops o → bit an i j = true ∨ bit an j i = true
structure Row (an : List Nat) (es : List En) : Prop where
  ord : es.Pairwise fun a b => bit an a.i b.i = false
  nod : (es.map (·.i)).Nodup

structure Inv (ops : List Oper) (an : List Nat) (X : Nat → Prop) (s : List Nat) (es : List En) (fr : Fr) (st : St) (L M : Loc) (w : World) (F : Frame) : Prop where
  heap : HRel (Xn X M st.next) L st.hp w
  mlt : ∀ b, M b ≠ .absent → ∃ p ∈ es, p.i ∉ s ∧ p.n = b ∧ ∃ blk c cap sz, p.blk = some blk ∧ M b = .live c 0 cap sz ∧ c < w.heap.size ∧ blk.alive = true ∧ BRel (Xn X M (b + 1)) (Ln L M st.next (b + 1)) w c 0 cap sz blk
  mall : ∀ p ∈ es, p.i ∉ s → ∀ blk, p.blk = some blk → M p.n ≠ .absent
  minj : ∀ b b' c o cap sz o' cap' sz', M b = .live c o cap sz → M b' = .live c o' cap' sz' → b = b'
  mfar : ∀ c, Owned M c → ¬ X c
  early : ∀ p ∈ es, p.i ∉ s → ∀ d, dstOf ops p.i = some d → ∃ x, F.tmps[d]? = some x ∧ VRel (Xn X M p.m) (Ln L M st.next p.m) w p.v x
  slots : ∀ t v, fr.tmps.get? t = some v → (∀ p ∈ es, p.i ∉ s → dstOf ops p.i ≠ some t) → ∃ x, F.tmps[t]? = some x ∧ VRel (Xn X M st.next) L w v x
  closed : ∀ p ∈ es, p.i ∉ s → ∀ j ∈ s, bit an p.i j = false
  fn : F.fn = fr.fn
  defs : DRels (Xn X M st.next) L w fr.defs F.defers
  round : RoundR L fr.round F

section
variable {tb : Tab} {ρ : Operand → AV} {X : Nat → Prop} {L : Loc} {w : World} {ρc : Operand → Value}
theorem head_known {x : AV} {y : Value} (h : VRel X L w x y) {e : Nat × Nat × Nat} (he : e ∈ headBlk x) : L e.1 ≠ .absent := by
  cases h with
  | ptr h => simp [headBlk] at he; subst he; rw [h]; simp
  | ptrD h _ => simp [headBlk] at he; subst he; rw [h]; simp
  | sl h _ _ => simp [headBlk] at he; subst he; rw [h]; simp
  | slE h => simp [headBlk] at he; subst he; exact h
  | slD h _ => simp [headBlk] at he; subst he; rw [h]; simp
  | map h => simp [headBlk] at he; subst he; rw [h]; simp
  | mapD h _ => simp [headBlk] at he; subst he; rw [h]; simp
  | _ => simp [headBlk] at he
theorem tMap_known {x : AV} {y : Value} (h : VRel X L w x y) {e : Nat × Nat × Nat} (he : e ∈ tMap x) : L e.1 ≠ .absent := by
  unfold tMap at he
  split at he
  · rename_i b
    have := head_known h (e := (b, live0, 1)) (by simp [headBlk])
    simp at he
    rcases he with rfl | rfl <;> exact this
  · exact head_known h he
theorem tLoad_known {t : Nat} {a : Operand} (h : VRel X L w (ρ a) (ρc a)) {e : Nat × Nat × Nat} (he : e ∈ tLoad tb ρ t a) : L e.1 ≠ .absent := by
  unfold tLoad at he
  split at he
  · rename_i b off size h1 h2
    have := head_known h (e := (b, live0, 1)) (by rw [h1]; simp [headBlk])
    simp at he
    rcases he with rfl | rfl <;> exact this
  · exact head_known h he
theorem touch_known (hρ : OpRel X L w ρ ρc) {op : Op} {e : Nat × Nat × Nat} (he : e ∈ touches tb ρ op) : L e.1 ≠ .absent := by
  unfold touches at he
  split at he
  · exact tLoad_known (hρ _) he
  · exact tMap_known (hρ _) he
  · rename_i c
    obtain ⟨v, hv, hev⟩ := List.mem_flatMap.1 he
    obtain ⟨x, _, rfl⟩ := List.mem_map.1 hv
    exact tMap_known (hρ x) hev
  · exact head_known (hρ _) he
  · exact head_known (hρ _) he
  · exact head_known (hρ _) he
  · exact head_known (hρ _) he
  · rcases List.mem_append.1 he with he | he
    · exact head_known (hρ _) he
    · exact head_known (hρ _) he
  · cases he
theorem head_live {x : AV} {e : Nat × Nat × Nat} (he : e ∈ headBlk x) : (e.1, live0, 1) ∈ headBlk x := by
  unfold headBlk at *
  split <;> simp_all
theorem tMap_live {x : AV} {e : Nat × Nat × Nat} (he : e ∈ tMap x) : (e.1, live0, 1) ∈ tMap x := by
  unfold tMap at *
  split
  · simp at he; rcases he with rfl | rfl <;> simp
  · rename_i hne
    split at he
    · rename_i b; exact absurd rfl (hne b)
    · exact head_live he
theorem touch_live {op : Op} {e : Nat × Nat × Nat} (he : e ∈ touches tb ρ op) : (e.1, live0, 1) ∈ touches tb ρ op := by
  unfold touches at *
  split <;> simp only at he ⊢
  · unfold tLoad at *
    split
    · rename_i h1 h2
      simp only [h1, h2] at he
      simp at he; rcases he with rfl | rfl <;> simp
    · rename_i hne
      split at he
      · rename_i b off size h1 h2; exact absurd h2 (hne b off size h1)
      · exact head_live he
  · exact tMap_live he
  · obtain ⟨v, hv, hev⟩ := List.mem_flatMap.1 he
    exact List.mem_flatMap.2 ⟨v, hv, tMap_live hev⟩
  · exact head_live he
  · exact head_live he
  · exact head_live he
  · exact head_live he
  · rcases List.mem_append.1 he with he | he
    · exact List.mem_append.2 (.inl (head_live he))
    · exact List.mem_append.2 (.inr (head_live he))
  · cases he
theorem apart_not {t l : Log} (h : apart t l = true) {b o n : Nat} (he : (b, o, n) ∈ t) {q : Nat} (h1 : o ≤ q) (h2 : q < o + n) : ¬ covered l b q := by
  rintro ⟨⟨b', o', n'⟩, hm, rfl, h3, h4⟩
  have := List.all_eq_true.1 (List.all_eq_true.1 h _ he) _ hm
  simp only [beq_dec, Bool.or_eq_true, Bool.not_eq_true', decide_eq_false_iff_not, Nat.ble_eq] at this
  simp at h3 h4 this
  omega
end

section
variable {P : Program} {tb : Tab} {ops : Array Oper} {an : List Nat} {X : Nat → Prop} {s : List Nat} {es : List En} {fr : Fr} {st : St} {L M : Loc} {w : World} {F : Frame} {cs : List Frame}

noncomputable def junked (fr : Fr) (l : List Nat) : Operand → AV := fun x => match x with
  | .tmp t => if t ∈ l then fr.slot t else .junk
  | x => fr.eval x
theorem junked_rel {Y : Nat → Prop} {Λ : Loc} {l : List Nat} (h : ∀ t ∈ l, ∀ v, fr.tmps.get? t = some v → ∃ x, F.tmps[t]? = some x ∧ VRel Y Λ w v x) : OpRel Y Λ w (junked fr l) F.eval := by
  intro x
  cases x with
  | tmp t =>
    simp only [junked, Fr.slot, Frame.eval]
    split
    · rename_i ht
      cases hg : fr.tmps.get? t with
      | none => exact .junk _
      | some v =>
        obtain ⟨y, hy, hv⟩ := h t ht v hg
        simp only [Option.getD_some, Array.getD_eq_getD_getElem?, hy]
        exact hv
    · exact .junk _
  | const v => exact .const ..
  | global g => exact .junk _
  | func f => exact .fn rfl rfl (fun j v x h => by simp at h) (fun j v x h => by simp at h)
theorem junked_eq {o : Oper} {ol : List Oper} : ∀ x ∈ o.op.operands, fr.eval x = junked fr (readsOf ol o) x := by
  intro x hx
  cases x with
  | tmp t =>
    have : t ∈ readsOf ol o := by
      unfold readsOf
      refine List.mem_append.2 (.inl (List.mem_filterMap.2 ⟨.tmp t, Array.mem_toList_iff.2 hx, rfl⟩))
    simp [junked, this, Fr.eval]
  | _ => rfl

/-- memory where a reckoning looks -/
theorem mem_early (I : Inv ops.toList an X s es fr st L M w F) {st' : St} {l : Log} {n : Nat} (hn : n = st'.next) (hle : st.next ≤ n) (k1 : ∀ b, b < st.next → Kept (st.get b) (st'.get b) l b)
    (k2 : ∀ p ∈ es, p.n < n → ∀ blk, p.blk = some blk → Kept blk (st'.get p.n) l p.n) {e : Nat × Nat × Nat} (ha : (st'.get e.1).alive = true) (hL : Ln L M st.next n e.1 ≠ .absent) (hn0 : ¬ covered l e.1 live0) (hnq : ∀ q, e.2.1 ≤ q → q < e.2.1 + e.2.2 → ¬ covered l e.1 q) :
    MemAt (Xn X M n) (Ln L M st.next n) w st' e := by
  obtain ⟨b, off, len⟩ := e
  simp only at ha hL hn0 hnq
  have key : ∃ c o cap sz x, Ln L M st.next n b = .live c o cap sz ∧ BRel (Xn X M n) (Ln L M st.next n) w c o cap sz x ∧ Kept x (st'.get b) l b := by
    by_cases hb : b < st.next
    · have hk := k1 b hb
      have hal := hk.alive hn0 ha
      obtain ⟨c, o, cap, sz, h1, h2⟩ := I.heap.at (St.hp_some hal) hal
      exact ⟨c, o, cap, sz, _, by rw [Ln_lt hb]; exact h1, h2.lift (Lift.core I.heap hle) rfl, hk⟩
    · have hb := Nat.not_lt.1 hb
      have hbn : b < n := by
        rcases Nat.lt_or_ge b n with h | h
        · exact h
        · exact absurd (Ln_out hb h) hL
      rw [Ln_mid hb hbn] at hL ⊢
      obtain ⟨p, hp, hps, rfl, blk, c, cap, sz, hblk, hM, hc, hal, hB⟩ := I.mlt b hL
      exact ⟨c, 0, cap, sz, blk, hM, hB.lift (Lift.level (by omega) (by omega)) rfl, k2 p hp hbn blk hblk⟩
  obtain ⟨c, o, cap, sz, x, h1, h2, h3⟩ := key
  refine ⟨c, o, cap, sz, h1, ?_⟩
  have q := h3 hn0
  cases x with
  | cells cs =>
    obtain ⟨cs', e1, e2⟩ := q
    simp only [e1]
    obtain ⟨arr, t, g1, g2, g3, g4⟩ := h2
    refine ⟨arr, t, g1, fun j v hj1 hj2 hv => ?_⟩
    rw [e2 j (hnq j hj1 hj2)] at hv
    obtain ⟨x, hx1, hx2⟩ := g4.get hv
    rw [List.getElem?_take] at hx1
    split at hx1
    · rw [List.getElem?_drop, Array.getElem?_toList] at hx1
      exact ⟨x, hx1, hx2⟩
    · cases hx1
  | map es => have e1 : st'.get b = .map es := q; simp only [e1]; exact h2
  | loop s p f t ps a b' d => have e1 : st'.get b = .loop s p f t ps a b' d := q; simp only [e1]
  | defd t => have e1 : st'.get b = .defd t := q; simp only [e1]
  | dead => exact h2.elim
end
end Go.Sy

/- A region that draws its order: one step ahead of its turn; the turn of what has been done. -/
set_option linter.unusedVariables false
set_option linter.unusedSimpArgs false
namespace Go.Sy

section
variable {P : Program} {tb : Tab} {ops : Array Oper} {an : List Nat} {X : Nat → Prop} {s : List Nat} {es : List En} {fr : Fr} {st : St} {L M : Loc} {w : World} {F : Frame} {cs : List Frame}

theorem row_inj (row : Row an es) {p q : En} (hp : p ∈ es) (hq : q ∈ es) (h : p.i = q.i) : p = q := by
  have := row.nod
  clear row
  induction es with
  | nil => cases hp
  | cons a l ih =>
    rw [List.map_cons, List.nodup_cons] at this
    rcases List.mem_cons.1 hp with rfl | hp' <;> rcases List.mem_cons.1 hq with rfl | hq'
    · rfl
    · exact absurd (List.mem_map.2 ⟨q, hq', h.symm⟩) this.1
    · exact absurd (List.mem_map.2 ⟨p, hp', h⟩) this.1
    · exact ih hp' hq' this.2
theorem put_other {ts : Array Value} {dst : Option Nat} {x : Value} {t : Nat} (h : dst ≠ some t) : (putT ts dst x)[t]? = ts[t]? := by
  cases dst with
  | none => rfl
  | some d =>
    have : d ≠ t := fun e => h (by rw [e])
    simp only [putT]
    rw [Array.getElem?_setIfInBounds_ne this]
theorem put_same {ts : Array Value} {t : Nat} {x : Value} (h : t < ts.size) : (putT ts (some t) x)[t]? = some x := by simp [putT, h]

def EarlyR (P : Program) (ops : Array Oper) (an : List Nat) (X : Nat → Prop) (s : List Nat) (es : List En) (fr : Fr) (st : St) (L M : Loc) (w : World) (F : Frame) (cs : List Frame) (k : List Item) (i : Nat) : Prop :=
  ∃ M' w' x o, ops[i]? = some o ∧ step P (lone F cs w) = .next (lone { F with tmps := putT F.tmps o.dst x, todo := .inRegion ops s :: k } cs w') ∧
      Inv ops.toList an X s es fr st L M' w' { F with tmps := putT F.tmps o.dst x, todo := .inRegion ops s :: k } ∧ w.heap.size ≤ w'.heap.size ∧ (∀ c, c < w.heap.size → w'.heap[c]? = w.heap[c]?) ∧
      (∀ c, Owned M' c → Owned M c ∨ w.heap.size ≤ c) ∧ w'.os = w.os ∧ w'.tape = w.tape ∧ w'.output = w.output ∧ Lift (Xn X M st.next) L w (Xn X M' st.next) L w'
theorem early_step (hT : TabOK P tb) (hF : FieldsOK tb) (pl : Pl ops.toList an) {acc : List (Nat × Log)} {pre post : List En} {e : En} (hes : es = pre ++ e :: post) (row : Row an es) (hch : Ch tb ops.toList an acc fr st es)
    (I : Inv ops.toList an X (e.i :: s) es fr st L M w F) (hpw : ∀ b ∈ s, bit an e.i b = false) (hns : e.i ∉ s) (hne : ∀ o, ops.toList[e.i]? = some o → opKd o.op ≠ .eff)
    (hearly : ∀ p ∈ es, p.i ∉ e.i :: s → ∀ o, ops.toList[p.i]? = some o → opKd o.op ≠ .eff)
    (hm : F.mode = .run) {k : List Item} (ht : F.todo = .inRegion ops (e.i :: s) :: k) (hd : ∀ o ∈ ops.toList, ∀ d, o.dst = some d → d < F.tmps.size) :
    EarlyR P ops an X s es fr st L M w F cs k e.i := by
  have hmem : ∀ p ∈ pre, p ∈ es := fun p hp => by rw [hes]; exact List.mem_append.2 (.inl hp)
  have heme : e ∈ es := by rw [hes]; exact List.mem_append.2 (.inr (List.mem_cons_self ..))
  have hmempost : ∀ p ∈ post, p ∈ es := fun p hp => by rw [hes]; exact List.mem_append.2 (.inr (List.mem_cons_of_mem _ hp))
  have mono := hch.mono
  have hord := row.ord
  have hnod := row.nod
  rw [hes, List.pairwise_append, List.pairwise_cons] at hord
  obtain ⟨acc', fr', st', l, c1, c2, c3, c3', c4, c5, c6, c7, c8⟩ := Ch.at (pre := pre) (e := e) (post := post) (hes ▸ hch) (fun p hp q hq h1 h2 => by
    cases hdd : dstOf ops.toList p.i with
    | none => exact absurd hdd h1
    | some d => exact pl.dst _ _ d hdd (h2 ▸ hdd)) (by rw [hes, List.map_append] at hnod; exact (List.nodup_append.1 hnod).1)
  have nepre : ∀ p ∈ pre, p.i ≠ e.i := by
    intro p hp hh
    rw [hes, List.map_append, List.nodup_append] at hnod
    exact hnod.2.2 _ (List.mem_map.2 ⟨p, hp, rfl⟩) _ (List.mem_map.2 ⟨e, List.mem_cons_self .., rfl⟩) hh
  have hn : e.n = st'.next := by cases c1 <;> rfl
  have hle : st.next ≤ e.n := by rw [hn]; exact c2
  have slots : ∀ o, ops.toList[e.i]? = some o → ∀ t ∈ readsOf ops.toList o, ∀ v, fr'.tmps.get? t = some v → ∃ x, F.tmps[t]? = some x ∧ VRel (Xn X M e.n) (Ln L M st.next e.n) w v x := by
    intro o ho t ht v hv
    by_cases hp : ∃ p ∈ pre, dstOf ops.toList p.i = some t
    · obtain ⟨p, hp, hpt⟩ := hp
      rw [c8 p hp t hpt] at hv
      cases hv
      have hb : bit an e.i p.i = true := by
        rcases pl.reads _ _ _ _ ho hpt ht with h | h
        · exact h
        · rw [hord.2.2 p hp e (List.mem_cons_self ..)] at h; cases h
      have hpn : p.i ∉ e.i :: s := by
        intro hh
        rcases List.mem_cons.1 hh with hh | hh
        · exact nepre p hp hh
        · rw [hpw _ hh] at hb; cases hb
      obtain ⟨x, hx, hv⟩ := I.early p (hmem p hp) hpn t hpt
      obtain ⟨k1, k2, _⟩ := c6 p hp
      exact ⟨x, hx, hv.lift (Lift.level (Nat.le_trans k2 p.n_le) (by rw [hn]; exact k1))⟩
    · have hno : ∀ p ∈ pre, dstOf ops.toList p.i ≠ some t := fun p hp' hpt => hp ⟨p, hp', hpt⟩
      rw [c7 t hno] at hv
      obtain ⟨x, hx, hv⟩ := I.slots t v hv (fun p hpes hpn hpt => by
        rw [hes] at hpes
        rcases List.mem_append.1 hpes with h | h
        · exact hno p h hpt
        · rcases List.mem_cons.1 h with rfl | h
          · exact hpn (List.mem_cons_self ..)
          · rcases pl.reads _ _ _ _ ho hpt ht with hb | hb
            · rw [hord.2.1.1 p h] at hb; cases hb
            · rw [I.closed p (hmempost p h) hpn e.i (List.mem_cons_self ..)] at hb; cases hb)
      exact ⟨x, hx, hv.lift (Lift.core I.heap hle)⟩
  -- whatever it gives, what is kept
  have fin : ∀ (x : Value) (M' : Loc) (w' : World) (o : Oper), ops[e.i]? = some o → step P (lone F cs w) = .next (lone { F with tmps := putT F.tmps o.dst x, todo := .inRegion ops s :: k } cs w') →
      (∀ n', st.next ≤ n' → Lift (Xn X M n') (Ln L M st.next n') w (Xn X M' n') (Ln L M' st.next n') w') → HRel (Xn X M' st.next) L st.hp w' → VRel (Xn X M' e.m) (Ln L M' st.next e.m) w' e.v x →
      (∀ b, M' b ≠ .absent → ∃ p ∈ es, p.i ∉ s ∧ p.n = b ∧ ∃ blk c cap sz, p.blk = some blk ∧ M' b = .live c 0 cap sz ∧ c < w'.heap.size ∧ blk.alive = true ∧ BRel (Xn X M' (b + 1)) (Ln L M' st.next (b + 1)) w' c 0 cap sz blk) →
      (∀ p ∈ es, p.i ∉ s → ∀ blk, p.blk = some blk → M' p.n ≠ .absent) → (∀ b b' c o cap sz o' cap' sz', M' b = .live c o cap sz → M' b' = .live c o' cap' sz' → b = b') → (∀ c, Owned M' c → ¬ X c) →
      w.heap.size ≤ w'.heap.size → (∀ c, c < w.heap.size → w'.heap[c]? = w.heap[c]?) → (∀ c, Owned M' c → Owned M c ∨ w.heap.size ≤ c) → w'.os = w.os → w'.tape = w.tape → w'.output = w.output →
      EarlyR P ops an X s es fr st L M w F cs k e.i := by
    intro x M' w' o ho hstep hl hH hv hmlt hmall hminj hmfar hw1 hw2 hw3 hw4 hw5 hw6
    have ho' : ops.toList[e.i]? = some o := by rw [Array.getElem?_toList]; exact ho
    have hdst : dstOf ops.toList e.i = o.dst := by simp [dstOf, ho']
    have hlc : Lift (Xn X M st.next) L w (Xn X M' st.next) L w' := by
      have := hl st.next (Nat.le_refl _)
      rw [Ln_self I.heap, Ln_self hH] at this
      exact this
    refine ⟨M', w', x, o, ho, hstep, ⟨hH, hmlt, hmall, hminj, hmfar, fun p hp hps d hpd => ?_, fun t v hv' hnt => ?_, fun p hp hps j hj => ?_, I.fn, I.defs.lift hlc, RoundR.lift hlc I.round⟩, hw1, hw2, hw3, hw4, hw5, hw6, hlc⟩
    · by_cases hpe : p.i = e.i
      · have := row_inj row hp heme hpe
        subst this
        rw [hdst] at hpd
        have hb := hd o (List.mem_of_getElem? ho') d hpd
        exact ⟨x, by simp only [hpd]; exact put_same hb, hv⟩
      · obtain ⟨y, hy, hyv⟩ := I.early p hp (by rw [List.mem_cons]; rintro (h | h); exact hpe h; exact hps h) d hpd
        refine ⟨y, ?_, hyv.lift (hl _ (Nat.le_trans (mono.2 p hp) p.n_le))⟩
        show (putT F.tmps o.dst x)[d]? = some y
        rw [put_other (by rw [← hdst]; intro hh; exact hpe (pl.dst _ _ d hpd hh))]
        exact hy
    · obtain ⟨y, hy, hyv⟩ := I.slots t v hv' (fun p hp hps hpt => hnt p hp (fun hh => hps (List.mem_cons_of_mem _ hh)) hpt)
      refine ⟨y, ?_, hyv.lift hlc⟩
      show (putT F.tmps o.dst x)[t]? = some y
      rw [put_other (by rw [← hdst]; exact hnt e heme hns)]
      exact hy
    · by_cases hpe : p.i = e.i
      · rw [hpe]; exact hpw j hj
      · exact I.closed p hp (by rw [List.mem_cons]; rintro (h | h); exact hpe h; exact hps h) j (List.mem_cons_of_mem _ hj)
  have finV : ∀ (x : Value) (o : Oper), e.blk = none → ops[e.i]? = some o → step P (lone F cs w) = .next (lone { F with tmps := putT F.tmps o.dst x, todo := .inRegion ops s :: k } cs w) → VRel (Xn X M e.n) (Ln L M st.next e.n) w e.v x → EarlyR P ops an X s es fr st L M w F cs k e.i := by
    intro x o hbl ho hstep hv
    have hem : e.m = e.n := by unfold En.m; rw [hbl]
    exact fin x M w o ho hstep (fun _ _ => .refl) I.heap (by rw [hem]; exact hv) (fun b hb => by
      obtain ⟨p, hp, hps, h⟩ := I.mlt b hb
      exact ⟨p, hp, fun hh => hps (List.mem_cons_of_mem _ hh), h⟩) (fun p hp hps blk hpb => by
      by_cases hpe : p.i = e.i
      · have := row_inj row hp heme hpe
        subst this
        rw [hbl] at hpb; cases hpb
      · exact I.mall p hp (by rw [List.mem_cons]; rintro (h | h); exact hpe h; exact hps h) blk hpb) I.minj I.mfar (Nat.le_refl _) (fun _ _ => rfl) (fun _ h => .inl h) rfl rfl rfl
  obtain ⟨i, v, n, blk⟩ := e
  simp only at *
  have want : ∀ o b, ops[i]? = some o → wantedA o ops.toList fr' = some b → Region.wanted o (yielded ops F.tmps) = b := by
    intro o b ho hw
    have ho' : ops.toList[i]? = some o := by rw [Array.getElem?_toList]; exact ho
    refine wanted_ok (X := Xn X M n) (L := Ln L M st.next n) (w := w) hw fun g wnt d hg hgd v hv => ?_
    exact slots o ho' d (List.mem_append.2 (.inr (by rw [hg]; simp [hgd]))) v hv
  cases c1 with
  | eff _ _ hk _ =>
    obtain ⟨o, ho, hk⟩ := hk
    exact absurd hk (hne o ho)
  | non hns' h1 h2 h3 =>
    cases hns' with
    | @skip o ho hw =>
      have ho2 : ops[i]? = some o := by rw [← Array.getElem?_toList]; exact ho
      exact finV undef o rfl ho2 (st_skipped hm ht ho2 (want o _ ho2 hw)) undef_rel
    | @val o _ ho hw hk ha hv =>
      have ho2 : ops[i]? = some o := by rw [← Array.getElem?_toList]; exact ho
      have hnd : ∀ c, o.op ≠ .defer c := by intro c e; rw [e] at hk; cases hk
      have hρ : OpRel (Xn X M st'.next) (Ln L M st.next st'.next) w (junked fr' (readsOf ops.toList o)) F.eval := junked_rel (slots o ho)
      have hag := junked_eq (fr := fr') (o := o) (ol := ops.toList)
      unfold aValS at hv
      rw [Bool.cond_eq_ite] at hv
      split at hv
      · rename_i hall
        rw [touches_congr hag] at hall
        rw [aVal_congr hag] at hv
        have hnl : ∀ x ∈ l, ∀ y ∈ touches tb (junked fr' (readsOf ops.toList o)) o.op, ∀ q, y.2.1 ≤ q → q < y.2.1 + y.2.2 → ¬ (x.1 = y.1 ∧ x.2.1 ≤ q ∧ q < x.2.1 + x.2.2) := by
          intro x hx y hy q hq1 hq2 hxq
          obtain ⟨a, ha', ⟨p, hp, hpa, oo, hoo, hko⟩, hxa⟩ := c4 x hx
          have hps : p.i ∈ s := by
            apply Classical.byContradiction
            intro hh
            exact hearly p (hmem p hp) (by rw [List.mem_cons]; rintro (h | h); exact nepre p hp h; exact hh h) oo hoo hko
          rcases ha a ha' with h | h
          · rw [← hpa, hpw _ hps] at h; cases h
          · rw [touches_congr hag] at h
            obtain ⟨y1, y2, y3⟩ := y
            exact apart_not h hy hq1 hq2 ⟨x, hxa, hxq⟩
        have hmm : ∀ y ∈ touches tb (junked fr' (readsOf ops.toList o)) o.op, MemAt (Xn X M st'.next) (Ln L M st.next st'.next) w st' y := by
          intro y hy
          refine mem_early I rfl c2 c5 (fun p hp hpn blk hpb => ?_) (List.all_eq_true.1 hall y hy) (touch_known hρ hy) ?_ ?_
          · rw [hes] at hp
            rcases List.mem_append.1 hp with h | h
            · exact (c6 p h).2.2 blk hpb
            · exfalso
              have hmo := mono.1
              rw [hes, List.pairwise_append, List.pairwise_cons] at hmo
              rcases List.mem_cons.1 h with rfl | h
              · simp at hpn
              · have := hmo.2.1.1 p h
                have e2 : (⟨i, v, st'.next, none⟩ : En).m = st'.next := rfl
                rw [e2] at this
                omega
          · rintro ⟨x, hx, h⟩
            exact hnl x hx _ (touch_live hy) live0 (Nat.le_refl _) (by simp) h
          · rintro q hq1 hq2 ⟨x, hx, h⟩
            exact hnl x hx _ hy q hq1 hq2 h
        obtain ⟨x, hx1, hx2⟩ := aVal_ok hT hF hρ hmm hv
        exact finV x o rfl ho2 (st_val hm ht ho2 (want o _ ho2 hw) (.inr hnd) hx1 (.inl rfl)) hx2
      · cases hv
    | @new o blk mk ho hw hk hnw =>
      have ho2 : ops[i]? = some o := by rw [← Array.getElem?_toList]; exact ho
      have hnd : ∀ c, o.op ≠ .defer c := by intro c e; rw [e] at hk; cases hk
      have hρ : OpRel (Xn X M st'.next) (Ln L M st.next st'.next) w (junked fr' (readsOf ops.toList o)) F.eval := junked_rel (slots o ho)
      have hag := junked_eq (fr := fr') (o := o) (ol := ops.toList)
      rw [aNew_congr hag] at hnw
      obtain ⟨x, obj, cap, sz, hx1, hx2⟩ := aNew_ok (P := P) (X := Xn X M st'.next) (L := Ln L M st.next st'.next) (w := w) hT hρ hnw
      -- nothing stands there yet
      have hMn : M st'.next = .absent := by
        apply Classical.byContradiction
        intro hh
        obtain ⟨p, hp, hps, hpn, bl, c, cp, sz', hpb, _⟩ := I.mlt _ hh
        have hmo := mono.1
        rw [hes, List.pairwise_append, List.pairwise_cons] at hmo
        have hpm : p.m = p.n + 1 := by unfold En.m; rw [hpb]
        rw [hes] at hp
        rcases List.mem_append.1 hp with h | h
        · have := hmo.2.2 p h _ (List.mem_cons_self ..)
          simp only at this
          omega
        · rcases List.mem_cons.1 h with rfl | h
          · exact hps (List.mem_cons_self ..)
          · have := hmo.2.1.1 p h
            have e2 : (⟨i, mk st'.next, st'.next, some blk⟩ : En).m = st'.next + 1 := rfl
            rw [e2] at this
            omega
      let M' : Loc := Loc.set M st'.next (.live w.heap.size 0 cap sz)
      have hM'n : M' st'.next = .live w.heap.size 0 cap sz := by simp [M', Loc.set]
      have hM'o : ∀ b, b ≠ st'.next → M' b = M b := by intro b hb; simp [M', Loc.set, hb]
      have hMlt : ∀ c, Owned M c → c < w.heap.size := by
        rintro c ⟨b, o', cp, sz', hb⟩
        obtain ⟨p, hp, hps, hpn, bl, c', cp', sz'', hpb, h1, h2, _⟩ := I.mlt b (by rw [hb]; simp)
        rw [hb] at h1; cases h1; exact h2
      have hsz : w.heap.size < (w.alloc obj).heap.size := by simp
      have hold : ∀ c, c < w.heap.size → (w.alloc obj).heap[c]? = w.heap[c]? := fun c hc => heap_alloc_old w obj c hc
      have hl : ∀ n', st.next ≤ n' → Lift (Xn X M n') (Ln L M st.next n') w (Xn X M' n') (Ln L M' st.next n') (w.alloc obj) := by
        intro n' hn'
        refine ⟨fun b hb => .inl ?_, fun c h1 h2 h3 => ⟨?_, ?_, by omega, hold c h1⟩⟩
        · by_cases e : b < st.next
          · rw [Ln_lt e, Ln_lt e]
          · by_cases e2 : b < n'
            · rw [Ln_mid (Nat.not_lt.1 e) e2] at hb ⊢
              rw [Ln_mid (Nat.not_lt.1 e) e2]
              exact hM'o b (fun hh => hb (by rw [hh]; exact hMn))
            · exact absurd (Ln_out (Nat.not_lt.1 e) (Nat.not_lt.1 e2)) hb
        · rintro ⟨b, o', cp, sz', hb⟩
          by_cases e : b < st.next
          · rw [Ln_lt e] at hb; exact h2 ⟨b, o', cp, sz', by rw [Ln_lt e]; exact hb⟩
          · by_cases e2 : b < n'
            · rw [Ln_mid (Nat.not_lt.1 e) e2] at hb
              by_cases e3 : b = st'.next
              · subst e3; rw [hM'n] at hb; cases hb; omega
              · rw [hM'o b e3] at hb; exact h2 ⟨b, o', cp, sz', by rw [Ln_mid (Nat.not_lt.1 e) e2]; exact hb⟩
            · rw [Ln_out (Nat.not_lt.1 e) (Nat.not_lt.1 e2)] at hb; cases hb
        · rintro (hc | ⟨b, hb, o', cp, sz', hbc⟩)
          · exact h3 (.inl hc)
          · by_cases e3 : b = st'.next
            · subst e3; rw [hM'n] at hbc; cases hbc; omega
            · rw [hM'o b e3] at hbc; exact h3 (.inr ⟨b, hb, o', cp, sz', hbc⟩)
      have hE : Ext (Ln L M st.next st'.next) w (Ln L M' st.next (st'.next + 1)) (w.alloc obj) := by
        refine ⟨by simp, fun c hc _ => hold c hc, fun b hb => .inl ?_, fun c hc => ?_, rfl, rfl, rfl⟩
        · by_cases e : b < st.next
          · rw [Ln_lt e, Ln_lt e]
          · by_cases e2 : b < st'.next
            · rw [Ln_mid (Nat.not_lt.1 e) e2, Ln_mid (Nat.not_lt.1 e) (by omega)]
              exact hM'o b (by omega)
            · exact absurd (Ln_out (Nat.not_lt.1 e) (Nat.not_lt.1 e2)) hb
        · obtain ⟨b, o', cp, sz', hb⟩ := hc
          by_cases e : b < st.next
          · rw [Ln_lt e] at hb; exact .inl ⟨b, o', cp, sz', by rw [Ln_lt e]; exact hb⟩
          · by_cases e2 : b < st'.next + 1
            · rw [Ln_mid (Nat.not_lt.1 e) e2] at hb
              by_cases e3 : b = st'.next
              · subst e3; rw [hM'n] at hb; cases hb; exact .inr (Nat.le_refl _)
              · rw [hM'o b e3] at hb; exact .inl ⟨b, o', cp, sz', by rw [Ln_mid (Nat.not_lt.1 e) (by omega)]; exact hb⟩
            · rw [Ln_out (Nat.not_lt.1 e) (Nat.not_lt.1 e2)] at hb; cases hb
      obtain ⟨hx3, hx4⟩ := hx2 (Ln L M' st.next (st'.next + 1)) st'.next (by rw [Ln_mid c2 (by omega)]; exact hM'n) hE
      have hal : blk.alive = true := by cases blk <;> first | rfl | exact hx4.elim
      have hsh : ∀ c, Xn X M' (st'.next + 1) c → Xn X M st'.next c := by
        rintro c (hc | ⟨b, hb, o', cp, sz', hbc⟩)
        · exact .inl hc
        · rw [hM'o b (by omega)] at hbc; exact .inr ⟨b, by omega, o', cp, sz', hbc⟩
      refine fin x M' (w.alloc obj) o ho2 (st_val hm ht ho2 (want o _ ho2 hw) (.inr hnd) hx1 (.inl rfl)) hl ?_ (hx3.lift (.shrink hsh)) ?_ ?_ ?_ ?_ (by simp) hold ?_ rfl rfl rfl
      · refine I.heap.grow obj ?_
        rintro c (hc | ⟨b, hb, o', cp, sz', hbc⟩)
        · exact .inl (.inl hc)
        · by_cases e3 : b = st'.next
          · subst e3; rw [hM'n] at hbc; cases hbc; exact .inr rfl
          · rw [hM'o b e3] at hbc; exact .inl (.inr ⟨b, hb, o', cp, sz', hbc⟩)
      · intro b hb
        by_cases e3 : b = st'.next
        · subst e3
          exact ⟨_, heme, hns, rfl, blk, w.heap.size, cap, sz, rfl, hM'n, hsz, hal, hx4.lift (.shrink hsh) rfl⟩
        · rw [hM'o b e3] at hb
          obtain ⟨p, hp, hps, hpn, bl, c, cp, sz', h1, h2, h3, h4, h5⟩ := I.mlt b hb
          have hbn : st.next ≤ b := by rw [← hpn]; exact mono.2 p hp
          exact ⟨p, hp, fun hh => hps (List.mem_cons_of_mem _ hh), hpn, bl, c, cp, sz', h1, by rw [hM'o b e3]; exact h2, by omega, h4, h5.lift (hl (b + 1) (by omega)) (hold c h3)⟩
      · intro p hp hps bl hpb
        by_cases e3 : p.n = st'.next
        · rw [e3, hM'n]; simp
        · rw [hM'o _ e3]
          refine I.mall p hp ?_ bl hpb
          rw [List.mem_cons]
          rintro (h | h)
          · have := row_inj row hp heme h
            subst this
            exact e3 rfl
          · exact hps h
      · intro b b' c o1 cp1 sz1 o2 cp2 sz2 hb hb'
        by_cases e3 : b = st'.next <;> by_cases e4 : b' = st'.next
        · rw [e3, e4]
        · subst e3; rw [hM'n] at hb; cases hb
          rw [hM'o b' e4] at hb'
          have := hMlt _ ⟨b', _, _, _, hb'⟩; omega
        · subst e4; rw [hM'n] at hb'; cases hb'
          rw [hM'o b e3] at hb
          have := hMlt _ ⟨b, _, _, _, hb⟩; omega
        · rw [hM'o b e3] at hb; rw [hM'o b' e4] at hb'
          exact I.minj _ _ _ _ _ _ _ _ _ hb hb'
      · rintro c ⟨b, o', cp, sz', hb⟩ hX
        by_cases e3 : b = st'.next
        · subst e3; rw [hM'n] at hb; cases hb
          have := I.heap.xlt _ (.inl hX); omega
        · rw [hM'o b e3] at hb; exact I.mfar c ⟨b, o', cp, sz', hb⟩ hX
      · rintro c ⟨b, o', cp, sz', hb⟩
        by_cases e3 : b = st'.next
        · subst e3; rw [hM'n] at hb; cases hb; exact .inr (Nat.le_refl _)
        · rw [hM'o b e3] at hb; exact .inl ⟨b, o', cp, sz', hb⟩
end
end Go.Sy
