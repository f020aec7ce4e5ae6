/- Functions: entered, left, unwound. -/
import Derived.Test.YtapfloegpaadgaaGreatSyReg
set_option linter.unusedVariables false
set_option linter.unusedSimpArgs false
namespace Go.Sy

theorem regionOK_mono {N M : Nat} (h : N ≤ M) {ops : List Oper} {draw : Bool} (k : regionOK N ops draw = true) : regionOK M ops draw = true := by
  unfold regionOK at *
  rw [Bool.and_eq_true] at *
  refine ⟨List.all_eq_true.2 fun o ho => ?_, k.2⟩
  have := List.all_eq_true.1 k.1 o ho
  split at this
  · rw [blt_dec] at *; simp at *; omega
  · rfl
theorem codeOK_mono {N M : Nat} (h : N ≤ M) : ∀ (c : Code), codeOK N c = true → codeOK M c = true := by
  intro c
  induction c with
  | region id ops draw => exact regionOK_mono h
  | seq a b iha ihb =>
    intro k
    simp only [codeOK, Bool.and_eq_true] at *
    refine ⟨?_, ihb k.2⟩
    have k1 := k.1
    split
    · rename_i hc
      rw [hc] at k1
      simp only at k1
      split at k1
      · refine List.all_eq_true.2 fun o ho => ?_
        have := List.all_eq_true.1 k1 o ho
        split at this
        · rw [blt_dec] at *; simp at *; omega
        · rfl
      · cases k1
    · rename_i hc
      rw [hc] at k1
      exact iha k1
  | cond c a b iha ihb =>
    intro k
    simp only [codeOK, Bool.and_eq_true] at *
    exact ⟨iha k.1, ihb k.2⟩
  | block id b ih => exact ih
  | loop b ih => exact ih
  | scope b ih => exact ih
  | rangeFunc f ps a b iha ihb =>
    intro k
    simp only [codeOK, Bool.and_eq_true] at *
    refine ⟨⟨List.all_eq_true.2 fun d hd => ?_, iha k.1.2⟩, ihb k.2⟩
    have := List.all_eq_true.1 k.1.1 d hd
    rw [blt_dec] at *; simp at *; omega
  | _ => intro k; rfl

theorem T.fill_get {α : Type} : ∀ (l : List α) (t : T α) (n i : Nat), (T.fill t n l).get? i = if n ≤ i ∧ i < n + l.length then l[i - n]? else t.get? i := by
  intro l
  induction l with
  | nil => intro t n i; simp [T.fill]; intro h1 h2; omega
  | cons x l ih =>
    intro t n i
    simp only [T.fill, ih, T.get?_set, List.length_cons]
    by_cases h : i = n
    · subst h; simp; intro h1; omega
    · by_cases h2 : n ≤ i ∧ i < n + (l.length + 1)
      · rw [if_pos h2, if_pos (by omega)]
        have : i - n = (i - (n + 1)) + 1 := by omega
        rw [this, List.getElem?_cons_succ]
      · rw [if_neg h2, if_neg (by omega), if_neg h]
theorem T.ofList_get {α : Type} (l : List α) (i : Nat) : (T.ofList l).get? i = l[i]? := by
  unfold T.ofList
  rw [T.fill_get]
  by_cases h : i < l.length
  · simp [h]
  · simp [h, T.get?_nil, List.getElem?_eq_none (Nat.le_of_not_lt h)]

section
variable {P : Program} {tb : Tab} {X : Nat → Prop} {L : Loc} {w : World} {F : Frame} {cs : List Frame} {st : St} {fr : Fr}

theorem one_result (hT : TabOK P tb) (H : HRel X L st.hp w) (hf : TRel X L w fr.tmps F.tmps) {r : ResultVar} {v : AV} (h : oneResult tb st fr r = some v) :
    ∃ x, (match r with | .tmp t => (pure (F.tmps.getD t undef) : Sem Value) | .cell a t => do loadVar t (← asAddr (F.tmps.getD a undef))).run P w = .ok x w ∧ VRel X L w v x := by
  have slot : ∀ t, VRel X L w (fr.slot t) (F.tmps.getD t undef) := by
    intro t
    simp only [Fr.slot]
    cases ht : fr.tmps.get? t with
    | none => exact .junk _
    | some v =>
      obtain ⟨y, hy, hv⟩ := hf t v ht
      simp only [Option.getD_some, Array.getD_eq_getD_getElem?, hy]
      exact hv
  cases r with
  | tmp t =>
    simp only [oneResult, Option.some.injEq] at h
    subst h
    exact ⟨_, by simp, slot t⟩
  | cell a t =>
    simp only [oneResult] at h
    split at h
    · rename_i agg size b off hsz ha
      split at h
      · rename_i cs hb
        have hal : (st.get b).alive = true := by rw [hb]; rfl
        obtain ⟨c, o, cap, sz, hL, hB⟩ := H.at (St.hp_some hal) hal
        rw [hb] at hB
        obtain ⟨arr, e, k1, k2, k3, k4⟩ := hB
        have hv := slot a
        rw [ha] at hv
        have hx := hv.ptr_live hL
        obtain ⟨x, hx1, hx2⟩ := run_loadAt hT hsz (c := c) (o := o) h (fun j u h1 h2 hj => by
          obtain ⟨x, hx1, hx2⟩ := k4.get hj
          rw [List.getElem?_take] at hx1
          split at hx1
          · rw [List.getElem?_drop, Array.getElem?_toList] at hx1
            exact ⟨x, by simp [World.cell?, k1, hx1], hx2⟩
          · cases hx1)
        refine ⟨x, ?_, hx2⟩
        simp only [hx]
        simpa [Instr.loadAt, Instr.sureAddr, asAddr] using hx1
      · cases h
    · cases h

theorem results_ok (hT : TabOK P tb) (H : HRel X L st.hp w) (hf : TRel X L w fr.tmps F.tmps) {fn : Func} {v : AV} (h : resultsA tb st fr fn.results.toList = some v) : ∃ x, (results fn F.tmps).run P w = .ok x w ∧ VRel X L w v x := by
  let g : ResultVar → Sem Value := fun r => match r with | .tmp t => pure (F.tmps.getD t undef) | .cell a t => do loadVar t (← asAddr (F.tmps.getD a undef))
  have key : ∀ (l : List ResultVar) (vs : List AV), resultsL tb st fr l = some vs → ∃ xs : List Value, (l.mapM g).run P w = .ok xs w ∧ VRels X L w vs xs := by
    intro l
    induction l with
    | nil => intro vs h; cases h; exact ⟨[], by simp, .nil⟩
    | cons r l ih =>
      intro vs h
      simp only [resultsL] at h
      split at h
      · rename_i u us h1 h2
        cases h
        obtain ⟨x, hx1, hx2⟩ := one_result hT H hf h1
        obtain ⟨xs, hxs1, hxs2⟩ := ih us h2
        refine ⟨x :: xs, ?_, hxs2.cons hx2⟩
        have hx1' : (g r).run P w = .ok x w := hx1
        simp only [List.mapM_cons, Sem.run_bind, hx1', Result.andThen_ok, hxs1, Sem.run_pure]
      · cases h
  unfold resultsA at h
  have fin : ∀ vs, resultsL tb st fr fn.results.toList = some vs → ∃ xs : List Value, (results fn F.tmps).run P w = .ok (if h : xs.toArray.size = 1 then xs.toArray[0] else .tuple xs.toArray) w ∧ VRels X L w vs xs := by
    intro vs hvs
    obtain ⟨xs, h1, h2⟩ := key _ _ hvs
    refine ⟨xs, ?_, h2⟩
    unfold results
    rw [Array.mapM_eq_mapM_toList]
    have h1' : (List.mapM g fn.results.toList).run P w = .ok xs w := h1
    have h1'' : (List.toArray <$> List.mapM g fn.results.toList).run P w = .ok xs.toArray w := by simp only [Sem.run_map, h1', Result.andThen_ok]
    refine (Sem.run_bind ..).trans ?_
    refine (congrArg (fun r => Result.andThen r _) h1'').trans ?_
    simp only [Result.andThen_ok, Sem.run_pure]
  split at h
  · rename_i u hu
    cases h
    obtain ⟨xs, h1, h2⟩ := fin _ hu
    obtain ⟨x, ys, rfl, h3, h4⟩ := h2.cons_inv
    have : ys = [] := by have := h4.1; simp at this; exact List.eq_nil_of_length_eq_zero this.symm
    subst this
    exact ⟨x, by simpa using h1, h3⟩
  · rename_i vs hne hvs
    cases h
    obtain ⟨xs, h1, h2⟩ := fin _ hvs
    have hx1 : ¬ xs.toArray.size = 1 := by
      intro e
      have hl := h2.1
      have : vs.length = 1 := by simp at e; omega
      obtain ⟨u, hu⟩ := List.length_eq_one_iff.1 this
      exact hne u hu
    rw [dif_neg hx1] at h1
    refine ⟨_, h1, VRel.tup_mk (by simpa using h2)⟩
  · cases h
end
end Go.Sy
