/- One operation that has effects, in a frame. -/
import Derived.Test.YtapfloegpaadgaaGreatSyFrame3
set_option linter.unusedVariables false
set_option linter.unusedSimpArgs false
namespace Go.Sy

section
variable {P : Program} {tb : Tab} {X : Nat → Prop} {L : Loc} {w : World} {st : St} {ρ : Operand → AV} {ρc : Operand → Value}

theorem callV_enter {f : AV} {args : List AV} {g : Nat} {as : List AV} {st' : St} (h : aCallV st f args = .enter g as st') : ∃ first cap, f = .fn (.func g) first cap ∧ as = first ++ args ++ cap := by
  unfold aCallV at h
  split at h
  · cases h; exact ⟨_, _, rfl, rfl⟩
  · cases h
  · cases h
theorem callV_yield {f : AV} {args : List AV} {l : Nat} {as : List AV} {st' : St} (h : aCallV st f args = .yield l as st') : f = .fn (.yield l) [] [] ∧ as = args := by
  unfold aCallV at h
  split at h
  · cases h
  · cases h; exact ⟨rfl, rfl⟩
  · cases h

theorem VRel.func_inv {g : Nat} {first cap : List AV} {x : Value} (h : VRel X L w (.fn (.func g) first cap) x) : ∃ fs cs, x = .func (.func g) fs cs ∧ VRels X L w first fs.toList ∧ VRels X L w cap cs.toList := by
  cases h with
  | fn h1 h2 h3 h4 =>
    exact ⟨_, _, rfl, ⟨by simpa using h1, fun j v x hj hx => h3 j v x hj (by simpa using hx)⟩, ⟨by simpa using h2, fun j v x hj hx => h4 j v x hj (by simpa using hx)⟩⟩

theorem eStore_kind (t : Nat) (a x : Operand) : (∃ v s, eStore tb st ρ t a x = .val v s) ∨ eStore tb st ρ t a x = .stuck := by
  unfold eStore
  repeat' split
  all_goals first | exact .inr rfl | exact .inl ⟨_, _, rfl⟩
theorem eMap_kind (t : Nat) (m k x : Operand) : (∃ v s, eMap tb st ρ t m k x = .val v s) ∨ eMap tb st ρ t m k x = .stuck := by
  unfold eMap
  repeat' split
  all_goals first | exact .inr rfl | exact .inl ⟨_, _, rfl⟩
theorem eDefer_kind (c : Call) : (∃ v, eDefer st ρ c = .defer v st) ∨ eDefer st ρ c = .stuck := by
  unfold eDefer
  repeat' split
  all_goals first | exact .inr rfl | exact .inl ⟨_, rfl⟩
theorem ePanic_kind (x : AV) : (∃ v, ePanic st x = .pan v st) ∨ ePanic st x = .stuck := by
  unfold ePanic
  repeat' split
  all_goals first | exact .inr rfl | exact .inl ⟨_, rfl⟩
theorem builtin_kind (b : Builtin) (ts : List Nat) (xs : List AV) : (∃ v s, aBuiltin tb st b ts xs = .val v s) ∨ aBuiltin tb st b ts xs = .stuck ∨ (b = .recover ∧ aBuiltin tb st b ts xs = .recov st) := by
  unfold aBuiltin
  split
  · unfold bAppend
    repeat' split
    all_goals first | exact .inr (.inl rfl) | exact .inl ⟨_, _, rfl⟩
  · unfold bCopy
    repeat' split
    all_goals first | exact .inr (.inl rfl) | exact .inl ⟨_, _, rfl⟩
  · unfold bClear
    repeat' split
    all_goals first | exact .inr (.inl rfl) | exact .inl ⟨_, _, rfl⟩
  · exact .inr (.inr ⟨rfl, rfl⟩)
  · exact .inr (.inl rfl)

/-- a call of a function -/
theorem enter_ok (hT : TabOK P tb) (hρ : OpRel X L w ρ ρc) {o : Oper} {g : Nat} {as : List AV} {st' : St} (h : aEff tb st ρ o.op = .enter g as st') :
    st' = st ∧ (∃ c, o.op = .call c) ∧ ∃ xs : Array Value, VRels X L w as xs.toList ∧ ∀ fn, tb.funcs.get? g = some fn → fn.body.isSome = true → (execOp ρc o).run P w = .ok (.enter g xs) w := by
  refine ⟨aEff_st (by rw [h]; rfl) (by rw [h]; simp), ?_⟩
  cases hop : o.op <;> rw [hop] at h <;> simp only [aEff] at h
  case call c =>
    refine ⟨⟨c, rfl⟩, ?_⟩
    unfold eCall at h
    split at h
    · rename_i f hc
      obtain ⟨first, cap, hf, rfl⟩ := callV_enter h
      have hv := hρ f
      rw [hf] at hv
      obtain ⟨fs, cs, hx, h1, h2⟩ := hv.func_inv
      refine ⟨fs ++ c.args.map ρc ++ cs, ?_, fun fn hfn hb => ?_⟩
      · simp only [Array.toList_append]
        exact (h1.append (VRels.map hρ c.args)).append h2
      · simp only [execOp, hop, resolve, hc, hx, Deferred.ofValue, Sem.run_bind, Sem.run_pure, Result.andThen_ok, invoke]
        exact hT.call g fn hfn hb _ w
    · rename_i b hc
      rcases builtin_kind (tb := tb) (st := st) b c.argTypes.toList (c.args.toList.map ρ) with ⟨v, s, e⟩ | e | ⟨_, e⟩ <;> rw [e] at h <;> cases h
    · cases h
  case store t a x => rcases eStore_kind (tb := tb) (st := st) (ρ := ρ) t a x with ⟨v, s, e⟩ | e <;> rw [e] at h <;> cases h
  case mapUpdate t m k x => rcases eMap_kind (tb := tb) (st := st) (ρ := ρ) t m k x with ⟨v, s, e⟩ | e <;> rw [e] at h <;> cases h
  case insert t m k x => rcases eMap_kind (tb := tb) (st := st) (ρ := ρ) t m k x with ⟨v, s, e⟩ | e <;> rw [e] at h <;> cases h
  case defer c => rcases eDefer_kind (st := st) (ρ := ρ) c with ⟨v, e⟩ | e <;> rw [e] at h <;> cases h
  case panic x => rcases ePanic_kind (st := st) (ρ x) with ⟨v, e⟩ | e <;> rw [e] at h <;> cases h
  all_goals cases h

theorem defer_ok (hρ : OpRel X L w ρ ρc) {o : Oper} {d : ADef} {st' : St} (h : aEff tb st ρ o.op = .defer d st') :
    st' = st ∧ ∃ D, (execOp ρc o).run P w = .ok (.defer D) w ∧ DRel X L w d D := by
  refine ⟨aEff_st (by rw [h]; rfl) (by rw [h]; simp), ?_⟩
  cases hop : o.op <;> rw [hop] at h <;> simp only [aEff] at h
  case defer c =>
    unfold eDefer at h
    split at h
    · rename_i f hc
      split at h
      · rename_i g first cap hf
        cases h
        have hv := hρ f
        rw [hf] at hv
        obtain ⟨fs, cs, hx, h1, h2⟩ := hv.func_inv
        refine ⟨{ target := .fn (.func g) cs, args := fs ++ c.args.map ρc }, ?_, .call h2 ?_⟩
        · simp only [execOp, hop, resolve, hc, hx, Deferred.ofValue, Sem.run_bind, Sem.run_pure, Result.andThen_ok]
        · simp only [Array.toList_append]
          exact h1.append (VRels.map hρ c.args)
      · cases h
    · cases h
  case call c =>
    unfold eCall at h
    split at h
    · unfold aCallV at h; split at h <;> cases h
    · rename_i b hc
      rcases builtin_kind (tb := tb) (st := st) b c.argTypes.toList (c.args.toList.map ρ) with ⟨v, s, e⟩ | e | ⟨_, e⟩ <;> rw [e] at h <;> cases h
    · cases h
  case store t a x => rcases eStore_kind (tb := tb) (st := st) (ρ := ρ) t a x with ⟨v, s, e⟩ | e <;> rw [e] at h <;> cases h
  case mapUpdate t m k x => rcases eMap_kind (tb := tb) (st := st) (ρ := ρ) t m k x with ⟨v, s, e⟩ | e <;> rw [e] at h <;> cases h
  case insert t m k x => rcases eMap_kind (tb := tb) (st := st) (ρ := ρ) t m k x with ⟨v, s, e⟩ | e <;> rw [e] at h <;> cases h
  case panic x => rcases ePanic_kind (st := st) (ρ x) with ⟨v, e⟩ | e <;> rw [e] at h <;> cases h
  all_goals cases h

theorem recov_ok {o : Oper} {st' : St} (h : aEff tb st ρ o.op = .recov st') : st' = st ∧ (∃ c, o.op = .call c) ∧ (execOp ρc o).run P w = .ok .recover w := by
  refine ⟨aEff_st (by rw [h]; rfl) (by rw [h]; simp), ?_⟩
  cases hop : o.op <;> rw [hop] at h <;> simp only [aEff] at h
  case call c =>
    refine ⟨⟨c, rfl⟩, ?_⟩
    unfold eCall at h
    split at h
    · unfold aCallV at h; split at h <;> cases h
    · rename_i b hc
      rcases builtin_kind (tb := tb) (st := st) b c.argTypes.toList (c.args.toList.map ρ) with ⟨v, s, e⟩ | e | ⟨e1, e⟩ <;> rw [e] at h <;> first | (cases h; done) | skip
      subst e1
      simp only [execOp, hop, resolve, hc, Sem.run_bind, Sem.run_pure, Result.andThen_ok, invoke, builtin]
    · cases h
  case store t a x => rcases eStore_kind (tb := tb) (st := st) (ρ := ρ) t a x with ⟨v, s, e⟩ | e <;> rw [e] at h <;> cases h
  case mapUpdate t m k x => rcases eMap_kind (tb := tb) (st := st) (ρ := ρ) t m k x with ⟨v, s, e⟩ | e <;> rw [e] at h <;> cases h
  case insert t m k x => rcases eMap_kind (tb := tb) (st := st) (ρ := ρ) t m k x with ⟨v, s, e⟩ | e <;> rw [e] at h <;> cases h
  case defer c => rcases eDefer_kind (st := st) (ρ := ρ) c with ⟨v, e⟩ | e <;> rw [e] at h <;> cases h
  case panic x => rcases ePanic_kind (st := st) (ρ x) with ⟨v, e⟩ | e <;> rw [e] at h <;> cases h
  all_goals cases h

theorem pan_ok (hρ : OpRel X L w ρ ρc) {o : Oper} {v : AV} {st' : St} (h : aEff tb st ρ o.op = .pan v st') : st' = st ∧ (∀ c, o.op ≠ .defer c) ∧ ∃ x, (execOp ρc o).run P w = .halt (.panic x) w ∧ VRel X L w v x := by
  refine ⟨aEff_st (by rw [h]; rfl) (by rw [h]; simp), ?_⟩
  cases hop : o.op <;> rw [hop] at h <;> simp only [aEff] at h
  case panic x =>
    refine ⟨fun c => by simp, ?_⟩
    unfold ePanic at h
    split at h
    · rename_i t u hx
      cases h
      have hv := hρ x
      rw [hx] at hv
      refine ⟨ρc x, ?_, hv⟩
      cases hv' : ρc x <;> rw [hv'] at hv <;> first | (cases hv; done) | skip
      simp [execOp, hop, Instr.panic, goPanic, hv']
    · cases h
  case call c =>
    unfold eCall at h
    split at h
    · unfold aCallV at h; split at h <;> cases h
    · rename_i b hc
      rcases builtin_kind (tb := tb) (st := st) b c.argTypes.toList (c.args.toList.map ρ) with ⟨v, s, e⟩ | e | ⟨_, e⟩ <;> rw [e] at h <;> cases h
    · cases h
  case store t a x => rcases eStore_kind (tb := tb) (st := st) (ρ := ρ) t a x with ⟨v, s, e⟩ | e <;> rw [e] at h <;> cases h
  case mapUpdate t m k x => rcases eMap_kind (tb := tb) (st := st) (ρ := ρ) t m k x with ⟨v, s, e⟩ | e <;> rw [e] at h <;> cases h
  case insert t m k x => rcases eMap_kind (tb := tb) (st := st) (ρ := ρ) t m k x with ⟨v, s, e⟩ | e <;> rw [e] at h <;> cases h
  case defer c => rcases eDefer_kind (st := st) (ρ := ρ) c with ⟨v, e⟩ | e <;> rw [e] at h <;> cases h
  all_goals cases h

theorem yield_ok (hρ : OpRel X L w ρ ρc) {o : Oper} {l : Nat} {as : List AV} {st' : St} (h : aEff tb st ρ o.op = .yield l as st') {c o' cap sz : Nat} (hl : L l = .live c o' cap sz) :
    st' = st ∧ (∃ c, o.op = .call c) ∧ ∃ xs : Array Value, VRels X L w as xs.toList ∧ (execOp ρc o).run P w = (Instr.yield c xs).run P w := by
  refine ⟨aEff_st (by rw [h]; rfl) (by rw [h]; simp), ?_⟩
  cases hop : o.op <;> rw [hop] at h <;> simp only [aEff] at h
  case call c =>
    refine ⟨⟨c, rfl⟩, ?_⟩
    unfold eCall at h
    split at h
    · rename_i f hc
      obtain ⟨hf, rfl⟩ := callV_yield h
      have hv := hρ f
      rw [hf] at hv
      refine ⟨_, VRels.map hρ c.args, ?_⟩
      generalize hy : ρc f = y at hv
      cases hv with
      | fnY h1 =>
        rw [hl] at h1
        cases h1
        simp [execOp, hop, resolve, hc, hy, Deferred.ofValue, invoke]
      | fnD h1 _ => rw [hl] at h1; cases h1
    · rename_i b hc
      rcases builtin_kind (tb := tb) (st := st) b c.argTypes.toList (c.args.toList.map ρ) with ⟨v, s, e⟩ | e | ⟨_, e⟩ <;> rw [e] at h <;> cases h
    · cases h
  case store t a x => rcases eStore_kind (tb := tb) (st := st) (ρ := ρ) t a x with ⟨v, s, e⟩ | e <;> rw [e] at h <;> cases h
  case mapUpdate t m k x => rcases eMap_kind (tb := tb) (st := st) (ρ := ρ) t m k x with ⟨v, s, e⟩ | e <;> rw [e] at h <;> cases h
  case insert t m k x => rcases eMap_kind (tb := tb) (st := st) (ρ := ρ) t m k x with ⟨v, s, e⟩ | e <;> rw [e] at h <;> cases h
  case defer c => rcases eDefer_kind (st := st) (ρ := ρ) c with ⟨v, e⟩ | e <;> rw [e] at h <;> cases h
  case panic x => rcases ePanic_kind (st := st) (ρ x) with ⟨v, e⟩ | e <;> rw [e] at h <;> cases h
  all_goals cases h
end
end Go.Sy
