/- One operation that has effects, step by step. -/
import Derived.Test.YtapfloegpaadgaaGreatSyCall
set_option linter.unusedVariables false
set_option linter.unusedSimpArgs false
namespace Go.Sy

def putT (a : Array Value) (dst : Option Nat) (v : Value) : Array Value :=
  match dst with
  | some d => a.setIfInBounds d v
  | none => a
theorem putT_size (a : Array Value) (d : Option Nat) (v : Value) : (putT a d v).size = a.size := by
  unfold putT; split <;> simp

section
variable {P : Program} {F : Frame} {cs : List Frame} {w w' : World} {ops : Array Oper} {i : Nat} {rest : List Nat} {k : List Item} {o : Oper}

theorem finish_op (ht : F.todo = .inRegion ops (i :: rest) :: k) (ho : ops[i]? = some o) (v : Value) : F.finish v = { F with tmps := putT F.tmps o.dst v, todo := .inRegion ops rest :: k } := by
  simp only [Frame.finish, ht, ho, Option.bind_some, putT]
  split <;> simp_all
theorem stepG_oper (hm : F.mode = .run) (ht : F.todo = .inRegion ops (i :: rest) :: k) (ho : ops[i]? = some o) (hw : Region.wanted o (yielded ops F.tmps) = true) (hd : F.roundOf = none ∨ ∀ c, o.op ≠ .defer c) :
    stepG P true { frame := F, callers := cs, status := .running, dying := none } w = stepG.apply P true F cs none (execOp F.eval o) w := by
  rcases hd with hd | hd
  · simp [stepG, stepG.exec, stepG.oper, Frame.oper?, hm, ht, ho, hw, hd]
  · cases hr : F.roundOf with
    | none => simp [stepG, stepG.exec, stepG.oper, Frame.oper?, hm, ht, ho, hw, hr]
    | some l =>
      cases hop : o.op <;> first | exact absurd hop (hd _) | simp [stepG, stepG.exec, stepG.oper, Frame.oper?, hm, ht, ho, hw, hr, hop]

theorem st_val (hm : F.mode = .run) (ht : F.todo = .inRegion ops (i :: rest) :: k) (ho : ops[i]? = some o) (hw : Region.wanted o (yielded ops F.tmps) = true) (hd : F.roundOf = none ∨ ∀ c, o.op ≠ .defer c) {nx : Next} {x : Value}
    (hr : (execOp F.eval o).run P w = .ok nx w') (hx : nx = .value x ∨ (nx = .skip ∧ x = undef)) :
    step P (lone F cs w) = .next (lone { F with tmps := putT F.tmps o.dst x, todo := .inRegion ops rest :: k } cs w') := by
  rw [← finish_op ht ho]
  refine step_lone_go ?_
  rw [stepG_oper hm ht ho hw hd]
  rcases hx with rfl | ⟨rfl, rfl⟩ <;> simp [stepG.apply, hr]
theorem st_skipped (hm : F.mode = .run) (ht : F.todo = .inRegion ops (i :: rest) :: k) (ho : ops[i]? = some o) (hw : Region.wanted o (yielded ops F.tmps) = false) :
    step P (lone F cs w) = .next (lone { F with tmps := putT F.tmps o.dst undef, todo := .inRegion ops rest :: k } cs w) := by
  rw [← finish_op ht ho]
  exact step_lone_go (by simp [stepG, stepG.exec, hm, ht, ho, hw])
theorem st_defer (hm : F.mode = .run) (ht : F.todo = .inRegion ops (i :: rest) :: k) (ho : ops[i]? = some o) (hw : Region.wanted o (yielded ops F.tmps) = true) (hd : F.roundOf = none) {D : Deferred}
    (hr : (execOp F.eval o).run P w = .ok (.defer D) w') :
    step P (lone F cs w) = .next (lone { F with tmps := putT F.tmps o.dst undef, todo := .inRegion ops rest :: k, defers := D :: F.defers } cs w') := by
  refine step_lone_go ?_
  rw [stepG_oper hm ht ho hw (.inl hd)]
  have := finish_op (F := { F with defers := D :: F.defers }) ht ho undef
  simp [stepG.apply, hr, this]
theorem st_enter (hm : F.mode = .run) (ht : F.todo = .inRegion ops (i :: rest) :: k) (ho : ops[i]? = some o) (hw : Region.wanted o (yielded ops F.tmps) = true) (hd : F.roundOf = none ∨ ∀ c, o.op ≠ .defer c) {f : Nat} {xs : Array Value}
    (hr : (execOp F.eval o).run P w = .ok (.enter f xs) w') :
    step P (lone F cs w) = .next (lone (Frame.enter P f xs .normal) (F :: cs) w') := by
  refine step_lone_go ?_
  rw [stepG_oper hm ht ho hw hd]
  simp [stepG.apply, hr, ht]
theorem st_round (hm : F.mode = .run) (ht : F.todo = .inRegion ops (i :: rest) :: k) (ho : ops[i]? = some o) (hw : Region.wanted o (yielded ops F.tmps) = true) (hd : F.roundOf = none ∨ ∀ c, o.op ≠ .defer c) {l f : Nat} {ts : Array Value} {a b : Code}
    (hr : (execOp F.eval o).run P w = .ok (.round l f ts a b) w') :
    step P (lone F cs w) = .next (lone (Frame.round l f ts a b .normal) (F :: cs) w') := by
  refine step_lone_go ?_
  rw [stepG_oper hm ht ho hw hd]
  simp [stepG.apply, hr, ht]
theorem st_panic (hm : F.mode = .run) (ht : F.todo = .inRegion ops (i :: rest) :: k) (ho : ops[i]? = some o) (hw : Region.wanted o (yielded ops F.tmps) = true) (hd : F.roundOf = none ∨ ∀ c, o.op ≠ .defer c) {x : Value}
    (hr : (execOp F.eval o).run P w = .halt (.panic x) w') :
    step P (lone F cs w) = .next (lone { F with mode := .panicking [{ v := x, recovered := false }] } cs w') := by
  refine step_lone_go ?_
  rw [stepG_oper hm ht ho hw hd]
  simp [stepG.apply, hr, Frame.raise, hm]
theorem st_recover (hm : F.mode = .run) (ht : F.todo = .inRegion ops (i :: rest) :: k) (ho : ops[i]? = some o) (hw : Region.wanted o (yielded ops F.tmps) = true) (hd : F.roundOf = none)
    (hr : (execOp F.eval o).run P w = .ok .recover w') {x : Value} {cs' : List Frame} (hx : tryRecover F cs = some (x, cs') ∨ (tryRecover F cs = none ∧ x = .nilIface ∧ cs' = cs)) :
    step P (lone F cs w) = .next (lone { F with tmps := putT F.tmps o.dst x, todo := .inRegion ops rest :: k } cs' w') := by
  rw [← finish_op ht ho]
  refine step_lone_go ?_
  rw [stepG_oper hm ht ho hw (.inl hd)]
  rcases hx with hx | ⟨hx, rfl, rfl⟩ <;> simp [stepG.apply, hr, hd, hx]
end

section
variable {P : Program} {tb : Tab} {rec : Cmd → St → Ex} {X : Nat → Prop} {L : Loc} {w : World} {F : Frame} {cs : List Frame}

/-- what an effect comes to, for the machine -/
def EffOut (P : Program) (X : Nat → Prop) (L : Loc) (w : World) (F : Frame) (cs : List Frame) (ops : Array Oper) (o : Oper) (rest : List Nat) (k : List Item) (fr : Fr) : Eff → Prop
  | .val v fr' bel' st' => fr'.tmps = fr.tmps ∧ fr'.fn = fr.fn ∧ fr'.round = fr.round ∧ ∃ x L' w' ds cs', Steps P (lone F cs w) (lone { F with tmps := putT F.tmps o.dst x, todo := .inRegion ops rest :: k, defers := ds } cs' w') ∧
      Ext L w L' w' ∧ HRel X L' st'.hp w' ∧ VRel X L' w' v x ∧ DRels X L' w' fr'.defs ds ∧ BelR X L' w' bel' F.kind cs' ∧ Unders F.kind cs cs'
  | .pan v bel' st' => ∃ ch L' w' cs', Steps P (lone F cs w) (lone { F with mode := .panicking ch } cs' w') ∧ Ext L w L' w' ∧ HRel X L' st'.hp w' ∧ ChainR X L' w' v false ch ∧ BelR X L' w' bel' F.kind cs' ∧ Unders F.kind cs cs'
  | .err _ => True

def endOut : End → Out
  | .ret v => .done v
  | .pan v => .pan v
/-- a run of a function, from a small state -/
def CallSpec (P : Program) (f : Nat) (args : List AV) (pre : List Blk) (r : End) (post : List Blk) : Prop := ∀ (X : Nat → Prop) (L : Loc) (w : World) (xs : Array Value) (cs : List Frame), HRel X L (hpL pre) w → VRels X L w args xs.toList →
  ∃ L' w' F', Steps P (lone (Frame.enter P f xs .normal) cs w) (lone F' cs w') ∧ Ext L w L' w' ∧ HRel X L' (hpL post) w' ∧ F'.kind = .normal ∧ LeaveR P X L' w' F' (endOut r)
/-- a run of a piece of code, from a small state -/
def FragSpec (P : Program) (fn : Nat) (c : Code) (slots : List (Nat × AV)) (pre : List Blk) (out : Out) (outs : List (Nat × AV)) (post : List Blk) : Prop := ∀ (X : Nat → Prop) (L : Loc) (w : World) (F : Frame) (k : List Item) (cs : List Frame), HRel X L (hpL pre) w →
  F.fn = fn → F.defers = [] → F.roundOf = none → F.kind = .normal → F.mode = .run → F.todo = .code c :: k → codeOK F.tmps.size c = true → (∀ e ∈ slots, ∃ x, F.tmps[e.1]? = some x ∧ VRel X L w e.2 x) →
  ∃ L' w' F', Steps P (lone F cs w) (lone F' cs w') ∧ Ext L w L' w' ∧ HRel X L' (hpL post) w' ∧ F'.fn = fn ∧ F'.kind = .normal ∧ F'.roundOf = none ∧ F'.tmps.size = F.tmps.size ∧ F'.defers = [] ∧ (∀ e ∈ outs, ∃ x, F'.tmps[e.1]? = some x ∧ VRel X L' w' e.2 x) ∧ OutR X L' w' F' k out
/-- what is told ahead is so -/
structure SpecOK (P : Program) (tb : Tab) : Prop where
  call : ∀ f args pre r post, tb.spec f args pre r post → (∃ fn, tb.funcs.get? f = some fn ∧ fn.body.isSome = true) ∧ CallSpec P f args pre r post
  frag : ∀ fn c slots pre out outs post, tb.frag fn c slots pre out outs post → FragSpec P fn c slots pre out outs post

theorem leave_done {F' : Frame} {v : AV} {L' : Loc} {w' : World} (h : LeaveR P X L' w' F' (.done v)) (hk : F'.kind = .normal) : ∃ x, F'.leaving P w' (.returned x) ∧ VRel X L' w' v x := by
  obtain ⟨h1, h2, _, fn, h3, x, h4, h5⟩ := h
  exact ⟨x, ⟨h1, h2, hk, fn, h3, h4⟩, h5⟩
theorem leave_pan {F' : Frame} {v : AV} {L' : Loc} {w' : World} (h : LeaveR P X L' w' F' (.pan v)) : ∃ ch, F'.leaving P w' (.panicked ch) ∧ ChainR X L' w' v false ch := by
  obtain ⟨ch, h1, h2, _, h3, h4⟩ := h
  exact ⟨ch, ⟨h1, h2, h3⟩, h4⟩

theorem not_defer {op : Op} {r : R} {st : St} {ρ : Operand → AV} (h : aEff tb st ρ op = r) (hr : ∀ d s, r ≠ .defer d s) (hs : r ≠ .stuck) : ∀ c, op ≠ .defer c := by
  rintro c rfl
  simp only [aEff] at h
  rcases eDefer_kind (st := st) (ρ := ρ) c with ⟨v, e⟩ | e <;> rw [e] at h
  · exact hr _ _ h.symm
  · exact hs h.symm

theorem hp_log (st : St) (l : Log) : ({ st with log := l } : St).hp = st.hp := rfl

theorem eff_call {ops : Array Oper} {i : Nat} {rest : List Nat} {k : List Item} {o : Oper} (ih : RecOK P rec) {fr : Fr} {bel : Below} {st : St} {e : Eff} {f : Nat} {args : List AV} (he : evCall rec f args fr bel st = e) (hobl : ∀ s, e.st? = some s → AllObl s.obl)
    (hm : F.mode = .run) (ht : F.todo = .inRegion ops (i :: rest) :: k) (ho : ops[i]? = some o)
    (H : HRel X L st.hp w) (hds : DRels X L w fr.defs F.defers) (hb : BelR X L w bel F.kind cs) {xs : Array Value} (hxs : VRels X L w args xs.toList)
    (hst : step P (lone F cs w) = .next (lone (Frame.enter P f xs .normal) (F :: cs) w)) : EffOut P X L w F cs ops o rest k fr e := by
  unfold evCall at he
  split at he
  · rename_i v fr1 bel1 st1 h1
    subst he
    have ho1 : AllObl st1.obl := by have hh := hobl _ rfl; exact hh
    obtain ⟨L', w', F', cs', s1, hE, hH, hfn, hk, hu, _, hl⟩ := ih.call _ _ _ _ _ h1 X L w xs .normal (F :: cs) H ho1 hxs rfl
    have hcs := hu.normal
    subst hcs
    obtain ⟨x, hx, hv⟩ := leave_done hl hk
    refine ⟨rfl, rfl, rfl, x, L', w', F.defers, cs, ?_, hE, hH, hv, hds.mono hE, hb.mono hE, .refl _ _⟩
    have s2 := step_leave_returned (c := F) (cs := cs) hx
    rw [finish_op ht ho] at s2
    exact .head hst (s1.trans (.one s2))
  · rename_i v fr1 bel1 st1 h1
    subst he
    have ho1 : AllObl st1.obl := by have hh := hobl _ rfl; exact hh
    obtain ⟨L', w', F', cs', s1, hE, hH, hfn, hk, hu, _, hl⟩ := ih.call _ _ _ _ _ h1 X L w xs .normal (F :: cs) H ho1 hxs rfl
    have hcs := hu.normal
    subst hcs
    obtain ⟨ch, hx, hv⟩ := leave_pan hl
    refine ⟨ch, L', w', cs, ?_, hE, hH, hv, hb.mono hE, .refl _ _⟩
    have s2 := step_leave_panicked (c := F) (cs := cs) hx
    have e2 : F.raise ch = { F with mode := .panicking ch } := by simp [Frame.raise, hm]
    rw [e2] at s2
    exact .head hst (s1.trans (.one s2))
  · subst he; trivial
  · subst he; trivial
end
end Go.Sy
