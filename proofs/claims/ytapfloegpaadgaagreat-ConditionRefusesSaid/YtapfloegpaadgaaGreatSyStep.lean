/- What a run of the evaluator says of the machine's steps. -/
import Derived.Test.YtapfloegpaadgaaGreatSyPlan
set_option linter.unusedVariables false
set_option linter.unusedSimpArgs false
namespace Go.Sy

/-- the head of a chain of panics -/
def ChainR (X : Nat → Prop) (L : Loc) (w : World) (v : AV) (r : Bool) (ch : List PanicEntry) : Prop :=
  ∃ x older, ch = { v := x, recovered := r, goexit := false } :: older ∧ (∀ e ∈ older, e.goexit = false) ∧ VRel X L w v x
/-- the frame below -/
def BelR (X : Nat → Prop) (L : Loc) (w : World) : Below → CallKind → List Frame → Prop
  | .none, k, _ => k = .normal
  | .returning, k, cs => k = .deferred ∧ ∃ c rest, cs = c :: rest ∧ c.mode = .returning
  | .panicking v r, k, cs => k = .deferred ∧ ∃ c rest ch, cs = c :: rest ∧ c.mode = .panicking ch ∧ ChainR X L w v r ch
def Unders (k : CallKind) (cs cs' : List Frame) : Prop := cs' = cs ∨ (k = .deferred ∧ ∃ c rest m, cs = c :: rest ∧ cs' = { c with mode := m } :: rest)
theorem Unders.refl (k : CallKind) (cs : List Frame) : Unders k cs cs := .inl rfl
theorem Unders.trans {k : CallKind} {a b c : List Frame} (h : Unders k a b) (h' : Unders k b c) : Unders k a c := by
  rcases h with rfl | ⟨hk, f, rest, m, rfl, rfl⟩
  · exact h'
  · rcases h' with rfl | ⟨_, f', rest', m', e, rfl⟩
    · exact .inr ⟨hk, f, rest, m, rfl, rfl⟩
    · cases e
      exact .inr ⟨hk, f, rest, m', rfl, rfl⟩
theorem Unders.normal {cs cs' : List Frame} (h : Unders .normal cs cs') : cs' = cs := by
  rcases h with h | ⟨h, _⟩
  · exact h
  · cases h
theorem ChainR.mono {X : Nat → Prop} {L L' : Loc} {w w' : World} (h : Ext L w L' w') {v : AV} {r : Bool} {ch : List PanicEntry} (k : ChainR X L w v r ch) : ChainR X L' w' v r ch := by
  obtain ⟨x, older, h1, h2, h3⟩ := k
  exact ⟨x, older, h1, h2, h3.mono h⟩
theorem BelR.mono {X : Nat → Prop} {L L' : Loc} {w w' : World} (h : Ext L w L' w') {b : Below} {k : CallKind} {cs : List Frame} (hb : BelR X L w b k cs) : BelR X L' w' b k cs := by
  cases b with
  | none => exact hb
  | returning => exact hb
  | panicking v r =>
    obtain ⟨h1, c, rest, ch, h2, h3, h4⟩ := hb
    exact ⟨h1, c, rest, ch, h2, h3, h4.mono h⟩
theorem FRel.mono {X : Nat → Prop} {L L' : Loc} {w w' : World} (h : Ext L w L' w') {fr : Fr} {F : Frame} (hf : FRel X L w fr F) : FRel X L' w' fr F := by
  refine ⟨hf.fn, hf.tmps.mono h, hf.defs.mono h, ?_⟩
  have := hf.round
  split
  · rename_i e; rw [e] at this; exact this
  · rename_i l e
    rw [e] at this
    obtain ⟨c, h1, h2⟩ := this
    refine ⟨c, h1, ?_⟩
    rcases h2 with ⟨o, cap, sz, h2⟩ | h2
    · rcases h.loc l (by rw [h2]; simp) with h3 | h3
      · exact .inl ⟨o, cap, sz, h3.trans h2⟩
      · exact .inr h3
    · rcases h.loc l (by rw [h2]; simp) with h3 | h3
      · exact .inr (h3.trans h2)
      · exact .inr h3
/-- a frame with other things to do -/
theorem FRel.todo {X : Nat → Prop} {L : Loc} {w : World} {fr : Fr} {F : Frame} (hf : FRel X L w fr F) (k : List Item) (m : FrameMode) : FRel X L w fr { F with todo := k, mode := m } :=
  ⟨hf.fn, hf.tmps, hf.defs, hf.round⟩

structure Lands (P : Program) (X : Nat → Prop) (L : Loc) (w : World) (F : Frame) (cs : List Frame) (st' : St) (L' : Loc) (w' : World) (F' : Frame) (cs' : List Frame) : Prop where
  steps : Steps P (lone F cs w) (lone F' cs' w')
  ext : Ext L w L' w'
  heap : HRel X L' st'.hp w'
  fn : F'.fn = F.fn
  kind : F'.kind = F.kind
  round : F'.roundOf = F.roundOf
  size : F'.tmps.size = F.tmps.size
  und : Unders F.kind cs cs'

def OutR (X : Nat → Prop) (L : Loc) (w : World) (F : Frame) (k : List Item) : Out → Prop
  | .norm => F.mode = .run ∧ F.todo = k
  | .exit i => F.mode = .run ∧ ∃ j, F.todo = .code (.exit i) :: (j ++ k) ∧ ∀ k, exitTo i (j ++ k) = exitTo i k
  | .ret => F.mode = .run ∧ ∃ j, F.todo = .code .ret :: j
  | .pan v => ∃ ch, F.mode = .panicking ch ∧ ChainR X L w v false ch
  | .done _ => False

def LeaveR (P : Program) (X : Nat → Prop) (L : Loc) (w : World) (F : Frame) : Out → Prop
  | .done v => F.mode = .returning ∧ F.defers = [] ∧ F.roundOf = none ∧ ∃ fn, P.funcs[F.fn]? = some fn ∧ ∃ x, (results fn F.tmps).run P w = .ok x w ∧ VRel X L w v x
  | .pan v => ∃ ch, F.mode = .panicking ch ∧ F.defers = [] ∧ F.roundOf = none ∧ (∃ fn, P.funcs[F.fn]? = some fn) ∧ ChainR X L w v false ch
  | _ => False

def HowR (X : Nat → Prop) (L : Loc) (w : World) (F : Frame) : Below → Prop
  | .none => False
  | .returning => F.mode = .returning
  | .panicking v r => ∃ ch, F.mode = .panicking ch ∧ ChainR X L w v r ch

section
variable (P : Program) (rec : Cmd → St → Ex)
def CodeOK : Prop := ∀ (c : Code) (fr : Fr) (bel : Below) (st : St) (r : Res), rec (.code c fr bel) st = .ok r → ∀ (X : Nat → Prop) (L : Loc) (w : World) (F : Frame) (k : List Item) (cs : List Frame),
  HRel X L st.hp w → AllObl r.st.obl → FRel X L w fr F → F.mode = .run → F.todo = .code c :: k → codeOK F.tmps.size c = true → BelR X L w bel F.kind cs →
  ∃ L' w' F' cs', Lands P X L w F cs r.st L' w' F' cs' ∧ FRel X L' w' r.fr F' ∧ BelR X L' w' r.bel F.kind cs' ∧ OutR X L' w' F' k r.out
def CallOK : Prop := ∀ (f : Nat) (args : List AV) (bel : Below) (st : St) (r : Res), rec (.call f args bel) st = .ok r → ∀ (X : Nat → Prop) (L : Loc) (w : World) (xs : Array Value) (kd : CallKind) (cs : List Frame),
  HRel X L st.hp w → AllObl r.st.obl → VRels X L w args xs.toList → BelR X L w bel kd cs →
  ∃ L' w' F' cs', Steps P (lone (Frame.enter P f xs kd) cs w) (lone F' cs' w') ∧ Ext L w L' w' ∧ HRel X L' r.st.hp w' ∧ F'.fn = f ∧ F'.kind = kd ∧ Unders kd cs cs' ∧ BelR X L' w' r.bel kd cs' ∧ LeaveR P X L' w' F' r.out
def UnwindOK : Prop := ∀ (fr : Fr) (how : Below) (st : St) (r : Res), rec (.unwind fr how) st = .ok r → ∀ (X : Nat → Prop) (L : Loc) (w : World) (F : Frame) (cs : List Frame),
  HRel X L st.hp w → AllObl r.st.obl → FRel X L w fr F → F.roundOf = none → HowR X L w F how →
  ∃ L' w' F', Steps P (lone F cs w) (lone F' cs w') ∧ Ext L w L' w' ∧ HRel X L' r.st.hp w' ∧ F'.fn = F.fn ∧ F'.kind = F.kind ∧ LeaveR P X L' w' F' r.out
structure RecOK : Prop where
  code : CodeOK P rec
  call : CallOK P rec
  unwind : UnwindOK P rec
  adv : RecAdv rec
end

section
variable {P : Program} {X : Nat → Prop} {L L' L'' : Loc} {w w' w'' : World} {F F' F'' : Frame} {cs cs' cs'' : List Frame} {st' st'' : St}
theorem Lands.trans (h : Lands P X L w F cs st' L' w' F' cs') (h' : Lands P X L' w' F' cs' st'' L'' w'' F'' cs'') : Lands P X L w F cs st'' L'' w'' F'' cs'' :=
  ⟨h.steps.trans h'.steps, h.ext.trans h'.ext, h'.heap, h'.fn.trans h.fn, h'.kind.trans h.kind, h'.round.trans h.round, h'.size.trans h.size, h.und.trans (h.kind ▸ h'.und)⟩
theorem Lands.head {k : List Item} (h : Go.step P (lone F cs w) = .next (lone { F with todo := k } cs w)) (h' : Lands P X L w { F with todo := k } cs st'' L'' w'' F'' cs'') : Lands P X L w F cs st'' L'' w'' F'' cs'' :=
  ⟨.head h h'.steps, h'.ext, h'.heap, h'.fn, h'.kind, h'.round, h'.size, h'.und⟩
/-- one step behind -/
theorem Lands.last (h : Lands P X L w F cs st' L' w' F' cs') {k : List Item} (hs : Go.step P (lone F' cs' w') = .next (lone { F' with todo := k } cs' w')) : Lands P X L w F cs st' L' w' { F' with todo := k } cs' :=
  ⟨h.steps.trans (.one hs), h.ext, h.heap, h.fn, h.kind, h.round, h.size, h.und⟩

theorem st_seq {a b : Code} {k : List Item} (hm : F.mode = .run) (ht : F.todo = .code (.seq a b) :: k) : step P (lone F cs w) = .next (lone { F with todo := .code a :: .code b :: k } cs w) :=
  step_lone_go (by simp [stepG, stepG.exec, hm, ht])
theorem st_skip {k : List Item} (hm : F.mode = .run) (ht : F.todo = .code .skip :: k) : step P (lone F cs w) = .next (lone { F with todo := k } cs w) :=
  step_lone_go (by simp [stepG, stepG.exec, hm, ht])
theorem st_label {l : Nat} {k : List Item} (hm : F.mode = .run) (ht : F.todo = .code (.label l) :: k) : step P (lone F cs w) = .next (lone { F with todo := k } cs w) :=
  step_lone_go (by simp [stepG, stepG.exec, hm, ht])
theorem st_inBlock {l : Nat} {k : List Item} (hm : F.mode = .run) (ht : F.todo = .inBlock l :: k) : step P (lone F cs w) = .next (lone { F with todo := k } cs w) :=
  step_lone_go (by simp [stepG, stepG.exec, hm, ht])
theorem st_block {l : Nat} {b : Code} {k : List Item} (hm : F.mode = .run) (ht : F.todo = .code (.block l b) :: k) : step P (lone F cs w) = .next (lone { F with todo := .code b :: .inBlock l :: k } cs w) :=
  step_lone_go (by simp [stepG, stepG.exec, hm, ht])
theorem st_loop {b : Code} {k : List Item} (hm : F.mode = .run) (ht : F.todo = .code (.loop b) :: k) : step P (lone F cs w) = .next (lone { F with todo := .code b :: .inLoop b :: k } cs w) :=
  step_lone_go (by simp [stepG, stepG.exec, hm, ht])
theorem st_inLoop {b : Code} {k : List Item} (hm : F.mode = .run) (ht : F.todo = .inLoop b :: k) : step P (lone F cs w) = .next (lone { F with todo := .code b :: .inLoop b :: k } cs w) :=
  step_lone_go (by simp [stepG, stepG.exec, hm, ht])
theorem st_cond {c : Operand} {t : Bool} {a b : Code} {k : List Item} (hm : F.mode = .run) (ht : F.todo = .code (.cond c a b) :: k) (hc : F.eval c = .bool t) : step P (lone F cs w) = .next (lone { F with todo := .code (if t then a else b) :: k } cs w) :=
  step_lone_go (by simp [stepG, stepG.exec, hm, ht, hc])
theorem st_exit {i : Nat} {k k' : List Item} (hm : F.mode = .run) (ht : F.todo = .code (.exit i) :: k) (h : exitTo i k = some k') : step P (lone F cs w) = .next (lone { F with todo := k' } cs w) :=
  step_lone_go (by simp [stepG, stepG.exec, hm, ht, h])

/-- operands -/
theorem FRel.evals {fr : Fr} (hf : FRel X L w fr F) : OpRel X L w fr.eval F.eval := by
  intro x
  cases x with
  | tmp t =>
    simp only [Fr.eval, Fr.slot, Frame.eval]
    cases ht : fr.tmps.get? t with
    | none => exact .junk _
    | some v =>
      obtain ⟨y, hy, hv⟩ := hf.tmps t v ht
      simp only [Option.getD_some, Array.getD_eq_getD_getElem?, hy]
      exact hv
  | const v => exact .const ..
  | global g => exact .junk _
  | func f => exact .fn rfl rfl (fun j v x h => by simp at h) (fun j v x h => by simp at h)
end

section
variable {P : Program} {tb : Tab} {rec : Cmd → St → Ex}
/-- the codes that hold others -/
theorem seq_ok (ih : RecOK P rec) {a b : Code} {fr : Fr} {bel : Below} {st : St} {r : Res}
    (h : (match rec (.code a fr bel) st with | .ok ⟨.norm, fr, bel, st⟩ => rec (.code b fr bel) st | r => r) = .ok r) {X : Nat → Prop} {L : Loc} {w : World} {F : Frame} {k : List Item} {cs : List Frame}
    (H : HRel X L st.hp w) (ho : AllObl r.st.obl) (hf : FRel X L w fr F) (hm : F.mode = .run) (ht : F.todo = .code (.seq a b) :: k) (hc : codeOK F.tmps.size a = true ∧ codeOK F.tmps.size b = true) (hb : BelR X L w bel F.kind cs) :
    ∃ L' w' F' cs', Lands P X L w F cs r.st L' w' F' cs' ∧ FRel X L' w' r.fr F' ∧ BelR X L' w' r.bel F.kind cs' ∧ OutR X L' w' F' k r.out := by
  have s0 := st_seq (P := P) (cs := cs) (w := w) hm ht
  split at h
  · rename_i fr1 bel1 st1 h1
    have ho1 := (ih.adv _ _ _ h).all ho
    obtain ⟨L1, w1, F1, cs1, l1, hf1, hb1, o1⟩ := ih.code _ _ _ _ _ h1 X L w { F with todo := .code a :: .code b :: k } (.code b :: k) cs H ho1 (hf.todo _ _) hm rfl hc.1 hb
    obtain ⟨om, ot⟩ := o1
    obtain ⟨L2, w2, F2, cs2, l2, hf2, hb2, o2⟩ := ih.code _ _ _ _ _ h X L1 w1 F1 k cs1 l1.heap ho hf1 om ot (by rw [l1.size]; exact hc.2) (by rw [l1.kind]; exact hb1)
    have l3 := (Lands.head s0 l1).trans l2
    have hk : F1.kind = F.kind := l1.kind
    rw [hk] at hb2
    exact ⟨L2, w2, F2, cs2, l3, hf2, hb2, o2⟩
  · rename_i hne
    obtain ⟨L1, w1, F1, cs1, l1, hf1, hb1, o1⟩ := ih.code _ _ _ _ _ h X L w { F with todo := .code a :: .code b :: k } (.code b :: k) cs H ho (hf.todo _ _) hm rfl hc.1 hb
    refine ⟨L1, w1, F1, cs1, Lands.head s0 l1, hf1, hb1, ?_⟩
    obtain ⟨out, fr', bel', st'⟩ := r
    cases out with
    | norm => exact absurd h (by intro hh; exact hne _ _ _ hh)
    | exit i =>
      obtain ⟨q1, j, q2, q3⟩ := o1
      exact ⟨q1, j ++ [.code b], by rw [q2]; simp, fun k => by rw [List.append_assoc, q3]; simp [exitTo]⟩
    | ret => exact o1
    | pan v => exact o1
    | done v => exact o1
theorem cond_ok (ih : RecOK P rec) {c : Operand} {a b : Code} {fr : Fr} {bel : Below} {st : St} {r : Res}
    (h : evCond rec c a b fr bel st = .ok r) {X : Nat → Prop} {L : Loc} {w : World} {F : Frame} {k : List Item} {cs : List Frame}
    (H : HRel X L st.hp w) (ho : AllObl r.st.obl) (hf : FRel X L w fr F) (hm : F.mode = .run) (ht : F.todo = .code (.cond c a b) :: k) (hc : codeOK F.tmps.size (.cond c a b) = true) (hb : BelR X L w bel F.kind cs) :
    ∃ L' w' F' cs', Lands P X L w F cs r.st L' w' F' cs' ∧ FRel X L' w' r.fr F' ∧ BelR X L' w' r.bel F.kind cs' ∧ OutR X L' w' F' k r.out := by
  unfold evCond at h
  split at h
  · rename_i t hv
    have hcv := hf.evals c
    rw [hv] at hcv
    have s0 := st_cond (P := P) (cs := cs) (w := w) hm ht hcv.bool_inv
    simp only [codeOK, Bool.and_eq_true] at hc
    have e : (bif t then a else b) = (if t = true then a else b) := by cases t <;> rfl
    rw [e] at h
    obtain ⟨L1, w1, F1, cs1, l1, hf1, hb1, o1⟩ := ih.code _ _ _ _ _ h X L w { F with todo := .code (if t = true then a else b) :: k } k cs H ho (hf.todo _ _) hm rfl (by cases t <;> simp [hc.1, hc.2]) hb
    exact ⟨L1, w1, F1, cs1, Lands.head s0 l1, hf1, hb1, o1⟩
  · cases h
theorem block_ok (ih : RecOK P rec) {id : Nat} {b : Code} {fr : Fr} {bel : Below} {st : St} {r : Res}
    (h : evBlock rec id b fr bel st = .ok r) {X : Nat → Prop} {L : Loc} {w : World} {F : Frame} {k : List Item} {cs : List Frame}
    (H : HRel X L st.hp w) (ho : AllObl r.st.obl) (hf : FRel X L w fr F) (hm : F.mode = .run) (ht : F.todo = .code (.block id b) :: k) (hc : codeOK F.tmps.size (.block id b) = true) (hb : BelR X L w bel F.kind cs) :
    ∃ L' w' F' cs', Lands P X L w F cs r.st L' w' F' cs' ∧ FRel X L' w' r.fr F' ∧ BelR X L' w' r.bel F.kind cs' ∧ OutR X L' w' F' k r.out := by
  have s0 := st_block (P := P) (cs := cs) (w := w) hm ht
  simp only [codeOK] at hc
  unfold evBlock at h
  split at h
  · rename_i i fr1 bel1 st1 h1
    cases h
    obtain ⟨L1, w1, F1, cs1, l1, hf1, hb1, o1⟩ := ih.code _ _ _ _ _ h1 X L w { F with todo := .code b :: .inBlock id :: k } (.inBlock id :: k) cs H ho (hf.todo _ _) hm rfl hc hb
    obtain ⟨q1, j, q2, q3⟩ := o1
    by_cases hi : i = id
    · subst hi
      have hx : exitTo i (j ++ .inBlock i :: k) = some k := by rw [q3]; simp [exitTo]
      have s1 := st_exit (P := P) (cs := cs1) (w := w1) q1 q2 hx
      refine ⟨L1, w1, _, cs1, Lands.head s0 (l1.last s1), hf1.todo _ F1.mode, hb1, ?_⟩
      simp only [beq_dec, decide_true, cond_true]
      exact ⟨q1, rfl⟩
    · refine ⟨L1, w1, F1, cs1, Lands.head s0 l1, hf1, hb1, ?_⟩
      have hd : Nat.beq i id = false := by simp [beq_dec, hi]
      simp only [hd, cond_false]
      exact ⟨q1, j ++ [.inBlock id], by rw [q2]; simp, fun k => by rw [List.append_assoc, q3]; simp [exitTo, Ne.symm hi]⟩
  · rename_i hne
    obtain ⟨L1, w1, F1, cs1, l1, hf1, hb1, o1⟩ := ih.code _ _ _ _ _ h X L w { F with todo := .code b :: .inBlock id :: k } (.inBlock id :: k) cs H ho (hf.todo _ _) hm rfl hc hb
    obtain ⟨out, fr', bel', st'⟩ := r
    cases out with
    | norm =>
      obtain ⟨q1, q2⟩ := o1
      have s1 := st_inBlock (P := P) (cs := cs1) (w := w1) q1 q2
      exact ⟨L1, w1, _, cs1, Lands.head s0 (l1.last s1), hf1.todo _ F1.mode, hb1, q1, rfl⟩
    | exit i => exact absurd h (by intro hh; exact hne _ _ _ _ hh)
    | ret => exact ⟨L1, w1, F1, cs1, Lands.head s0 l1, hf1, hb1, o1⟩
    | pan v => exact ⟨L1, w1, F1, cs1, Lands.head s0 l1, hf1, hb1, o1⟩
    | done v => exact ⟨L1, w1, F1, cs1, Lands.head s0 l1, hf1, hb1, o1⟩
end
end Go.Sy
