/- The evaluator alone: what it writes, its log names; what has died stays dead; what it was told stays to be shown. -/
import Derived.Test.YtapfloegpaadgaaGreatSyApp
set_option linter.unusedVariables false
set_option linter.unusedSimpArgs false
namespace Go.Sy

def covered (l : Log) (b q : Nat) : Prop := ∃ e ∈ l, e.1 = b ∧ e.2.1 ≤ q ∧ q < e.2.1 + e.2.2
structure Keep (st st' : St) (l : Log) : Prop where
  next : st.next ≤ st'.next
  dead : ∀ b, b < st.next → st.get b = .dead → st'.get b = .dead
  same : ∀ b, b < st.next → ¬ covered l b live0 → match st.get b with
    | .cells cs => ∃ cs', st'.get b = .cells cs' ∧ ∀ q, ¬ covered l b q → cs'[q]? = cs[q]?
    | x => st'.get b = x
structure Adv (st st' : St) : Prop where
  obl : ∀ p ∈ st.obl, p ∈ st'.obl
  next : st.next ≤ st'.next
  go : AllObl st'.obl → Keep st st' st'.log
  log : ∀ e ∈ st.log, e.1 < st.next → e ∈ st'.log
theorem Adv.all {st st' : St} (h : Adv st st') (k : AllObl st'.obl) : AllObl st.obl := fun p hp => k p (h.obl p hp)

theorem Keep.same' {st : St} {st' : St} {l : Log} (h1 : st'.next = st.next) (h2 : ∀ b, b < st.next → st'.get b = st.get b) : Keep st st' l := by
  refine ⟨by omega, fun b hb h => by rw [h2 b hb, h], fun b hb _ => ?_⟩
  split
  · rename_i cs h; exact ⟨cs, by rw [h2 b hb, h], fun _ _ => rfl⟩
  · exact h2 b hb
theorem Keep.trans {a b c : St} {l m n : Log} (h : Keep a b l) (k : Keep b c m) (h1 : ∀ e ∈ l, e.1 < a.next → e ∈ n) (h2 : ∀ e ∈ m, e.1 < a.next → e ∈ n) : Keep a c n := by
  have cov1 : ∀ i q, i < a.next → ¬ covered n i q → ¬ covered l i q := by
    rintro i q hi hn ⟨e, he, h3, h4⟩
    exact hn ⟨e, h1 e he (by omega), h3, h4⟩
  have cov2 : ∀ i q, i < a.next → ¬ covered n i q → ¬ covered m i q := by
    rintro i q hi hn ⟨e, he, h3, h4⟩
    exact hn ⟨e, h2 e he (by omega), h3, h4⟩
  refine ⟨Nat.le_trans h.next k.next, fun i hi hd => k.dead i (Nat.lt_of_lt_of_le hi h.next) (h.dead i hi hd), fun i hi hn => ?_⟩
  have q1 := h.same i hi (cov1 i _ hi hn)
  have q2 := k.same i (Nat.lt_of_lt_of_le hi h.next) (cov2 i _ hi hn)
  split
  · rename_i cs hcs
    rw [hcs] at q1
    obtain ⟨cs', q3, q4⟩ := q1
    rw [q3] at q2
    obtain ⟨cs'', q5, q6⟩ := q2
    exact ⟨cs'', q5, fun q hq => (q6 q (cov2 i q hi hq)).trans (q4 q (cov1 i q hi hq))⟩
  · rename_i x hx
    split at q1
    · rename_i cs h'; exact absurd h' (hx cs)
    · rw [q1] at q2
      split at q2
      · rename_i cs h'; exact absurd h' (hx cs)
      · exact q2

theorem Adv.refl (st : St) : Adv st st := ⟨fun _ h => h, Nat.le_refl _, fun _ => .same' rfl fun _ _ => rfl, fun _ h _ => h⟩
theorem Adv.trans {a b c : St} (h : Adv a b) (k : Adv b c) : Adv a c :=
  ⟨fun p hp => k.obl p (h.obl p hp), Nat.le_trans h.next k.next,
    fun ho => (h.go (k.all ho)).trans (k.go ho) (fun e he hl => k.log e he (Nat.lt_of_lt_of_le hl h.next)) (fun e he _ => he),
    fun e he hl => k.log e (h.log e he hl) (Nat.lt_of_lt_of_le hl h.next)⟩

theorem blt_dec (a b : Nat) : Nat.blt a b = decide (a < b) := by rw [Bool.eq_iff_iff]; simp [Nat.blt_eq]
theorem St.tick_eq (s : St) : s.tick = { s with cost := s.cost + 1 } := by
  unfold St.tick forceL forceN forceT
  cases h1 : s.tape <;> cases h2 : s.next <;> cases h3 : s.heap <;> simp only [] <;> rw [← h1, ← h2, ← h3]
theorem St.get_put (st : St) (b : Nat) (x : Blk) (o n i : Nat) : (st.put b x o n).get i = if i < st.next then (if i = b then x else st.get i) else .dead := by
  simp only [St.put, St.get, T.get?_set, blt_dec, Bool.cond_eq_ite, decide_eq_true_eq]
  by_cases h : i < st.next
  · by_cases e : i = b <;> simp [h, e]
  · simp [h]
theorem St.get_new (st : St) (x : Blk) (i : Nat) (h : i < st.next) : (st.new x).get i = st.get i := by
  have h1 : i < st.next + 1 := by omega
  have h2 : i ≠ st.next := by omega
  simp [St.new, St.get, T.get?_set, blt_dec, h, h1, h2]
theorem get_tick (st : St) (b : Nat) : st.tick.get b = st.get b := by rw [St.tick_eq]; rfl

theorem Adv.tick (st : St) : Adv st st.tick := by
  rw [St.tick_eq]
  exact ⟨fun _ h => h, Nat.le_refl _, fun _ => .same' rfl fun _ _ => rfl, fun _ h _ => h⟩
theorem Adv.new (st : St) (x : Blk) : Adv st (st.new x) :=
  ⟨fun _ h => h, by simp [St.new], fun _ => by
    refine ⟨by simp [St.new], fun b hb h => by rw [St.get_new st x b hb, h], fun b hb _ => ?_⟩
    rw [St.get_new st x b hb]
    split
    · rename_i cs h; exact ⟨cs, h, fun _ _ => rfl⟩
    · rfl, fun _ h _ => h⟩
theorem Adv.putW (st : St) (b : Nat) (x : Blk) (hb : st.get b ≠ .dead) : Adv st (st.put b x 0 whole) :=
  ⟨fun _ h => h, Nat.le_refl _, fun _ => by
    refine ⟨Nat.le_refl _, fun i hi h => ?_, fun i hi hn => ?_⟩
    · rw [St.get_put, if_pos hi, if_neg (by rintro rfl; exact hb h), h]
    · have hne : i ≠ b := by
        rintro rfl
        exact hn ⟨(i, 0, whole), List.mem_cons_self .., rfl, Nat.zero_le _, by simp [live0, whole]⟩
      rw [St.get_put, if_pos hi, if_neg hne]
      split
      · rename_i cs h; exact ⟨cs, h, fun _ _ => rfl⟩
      · rfl, fun e he _ => List.mem_cons_of_mem _ he⟩
theorem Adv.putC (st : St) (b off n : Nat) (cs cs' : List AV) (hb : st.get b = .cells cs) (h : AllObl st.obl → ∀ q, ¬ (off ≤ q ∧ q < off + n) → cs'[q]? = cs[q]?) : Adv st (st.put b (.cells cs') off n) :=
  ⟨fun _ h => h, Nat.le_refl _, fun ho => by
    refine ⟨Nat.le_refl _, fun i hi hd => ?_, fun i hi hn => ?_⟩
    · rw [St.get_put, if_pos hi, if_neg (by rintro rfl; rw [hb] at hd; cases hd), hd]
    · rw [St.get_put, if_pos hi]
      by_cases e : i = b
      · subst e
        rw [hb]
        simp only [if_true]
        exact ⟨cs', rfl, fun q hq => h ho q fun hh => hq ⟨(i, off, n), List.mem_cons_self .., rfl, hh⟩⟩
      · rw [if_neg e]
        split
        · rename_i cs h; exact ⟨cs, h, fun _ _ => rfl⟩
        · rfl, fun e he _ => List.mem_cons_of_mem _ he⟩

theorem askC_adv {st st' : St} {r : Option (List AV)} {cs : List AV} (h : st.askC r = some (cs, st')) : Adv st st' := by
  unfold St.askC at h
  split at h
  · rw [Bool.cond_eq_ite] at h
    split at h
    · cases h
      exact ⟨fun p hp => List.mem_cons_of_mem _ hp, Nat.le_refl _, fun _ => .same' rfl fun _ _ => rfl, fun _ h _ => h⟩
    · cases r with
      | none => simp at h
      | some v => simp at h; obtain ⟨rfl, rfl⟩ := h; exact .refl _
  · cases r with
    | none => simp at h
    | some v => simp at h; obtain ⟨rfl, rfl⟩ := h; exact .refl _
theorem askV_adv {st st' : St} {r : Option AV} {v : AV} (h : st.askV r = some (v, st')) : Adv st st' := by
  unfold St.askV at h
  split at h
  · rw [Bool.cond_eq_ite] at h
    split at h
    · cases h
      exact ⟨fun p hp => List.mem_cons_of_mem _ hp, Nat.le_refl _, fun _ => .same' rfl fun _ _ => rfl, fun _ h _ => h⟩
    · cases r with
      | none => simp at h
      | some v => simp at h; obtain ⟨rfl, rfl⟩ := h; exact .refl _
  · cases r with
    | none => simp at h
    | some v => simp at h; obtain ⟨rfl, rfl⟩ := h; exact .refl _

theorem storeC_other {cs vs cs' : List AV} {off n : Nat} (h : storeC cs off vs = some cs') (hn : vs.length ≤ n) (q : Nat) (hq : ¬ (off ≤ q ∧ q < off + n)) : cs'[q]? = cs[q]? := by
  unfold storeC at h
  split at h
  · rename_i hc
    cases h
    rw [setL_get _ _ _ _ hc.2, if_neg (by omega)]
  · cases h
theorem store_adv {st st1 : St} {b off n : Nat} {cs cs' vs : List AV} (hb : st.get b = .cells cs) (h : st.askC (storeC cs off vs) = some (cs', st1)) (hn : vs.length ≤ n) : Adv st (st1.put b (.cells cs') off n) := by
  obtain ⟨q1, q2, q3, q4, q5, q6⟩ := askC_ok h
  refine (askC_adv h).trans (Adv.putC st1 b off n cs cs' (by rw [get_of_eq q3 q4]; exact hb) fun ho q hq => ?_)
  exact storeC_other (q1 ho) hn q hq

theorem append_adv {st st' : St} {size bytes : Nat} {s x v : AV} (h : aAppend st size bytes s x = some (v, st')) : Adv st st' := by
  unfold aAppend at h
  split at h
  · split at h
    · split at h
      · split at h <;> cases h
        · exact .refl _
        · exact .new _ _
      · split at h
        · split at h <;> cases h
          · exact .refl _
          · exact .new _ _
        · cases h
      · split at h
        · rename_i cs hb
          split at h
          · cases h
            exact (Adv.putW _ _ _ (by rw [hb]; simp)).trans (.new _ _)
          · cases h
        · cases h
      · cases h
    · cases h
  · cases h

/-- the state that an effect comes to -/
def R.st? : R → Option St
  | .val _ st | .enter _ _ st | .yield _ _ st | .defer _ st | .recov st | .pan _ st => some st
  | .stuck => none
theorem callV_st {st st' : St} {f : AV} {args : List AV} (h : (aCallV st f args).st? = some st') : st' = st := by
  unfold aCallV at h
  split at h <;> simp [R.st?] at h
  · exact h.symm
  · exact h.symm
theorem builtin_adv {tb : Tab} {st st' : St} {b : Builtin} {argTypes : List Nat} {args : List AV} (h : (aBuiltin tb st b argTypes args).st? = some st') : Adv st st' := by
  unfold aBuiltin at h
  split at h
  · unfold bAppend at h
    split at h
    · split at h
      · split at h
        · split at h
          · split at h
            · rename_i v st1 ha
              simp only [R.st?, Option.some.injEq] at h
              subst h
              exact append_adv ha
            · cases h
          · cases h
        · cases h
      · cases h
    · cases h
  · unfold bCopy at h
    split at h
    · split at h
      · split at h
        · split at h
          · split at h
            · simp only [R.st?, Option.some.injEq] at h
              subst h
              exact .refl _
            · split at h
              · rename_i hb
                split at h
                · rename_i cs' st1 hask
                  simp only [R.st?, Option.some.injEq] at h
                  subst h
                  exact store_adv hb hask (by simp; omega)
                · cases h
              · cases h
            · cases h
          · cases h
        · cases h
      · cases h
    · cases h
  · unfold bClear at h
    split at h
    · simp only [R.st?, Option.some.injEq] at h
      subst h
      exact .refl _
    · split at h
      · rename_i z size cs hz hs hb
        split at h
        · simp only [R.st?, Option.some.injEq] at h
          subst h
          exact .refl _
        · split at h
          · rename_i hzl
            split at h
            · rename_i cs' st1 hask
              simp only [R.st?, Option.some.injEq] at h
              subst h
              exact store_adv hb hask (by rw [repeatL_length, hzl.1]; exact Nat.le_refl _)
            · cases h
          · cases h
      · cases h
    · cases h
  · simp only [R.st?, Option.some.injEq] at h
    subst h
    exact .refl _
  · cases h
theorem aEff_adv {tb : Tab} {st st' : St} {ρ : Operand → AV} {op : Op} (h : (aEff tb st ρ op).st? = some st') : Adv st st' := by
  unfold aEff at h
  split at h
  · unfold eStore at h
    split at h
    · split at h
      · rename_i hb
        split at h
        · rename_i hc
          split at h
          · rename_i cs' st1 hask
            simp only [R.st?, Option.some.injEq] at h
            subst h
            exact store_adv hb hask (by omega)
          · cases h
        · cases h
      · cases h
    · cases h
  · unfold eMap at h
    split at h
    · split at h
      · split at h
        · rename_i hb
          simp only [R.st?, Option.some.injEq] at h
          subst h
          exact Adv.putW _ _ _ (by rw [hb]; simp)
        · cases h
      · cases h
    · cases h
  · unfold eMap at h
    split at h
    · split at h
      · split at h
        · rename_i hb
          simp only [R.st?, Option.some.injEq] at h
          subst h
          exact Adv.putW _ _ _ (by rw [hb]; simp)
        · cases h
      · cases h
    · cases h
  · unfold eCall at h
    split at h
    · rw [callV_st h]; exact .refl _
    · exact builtin_adv h
    · cases h
  · unfold eDefer at h
    split at h
    · split at h
      · simp only [R.st?, Option.some.injEq] at h
        subst h
        exact .refl _
      · cases h
    · cases h
  · unfold ePanic at h
    split at h
    · simp only [R.st?, Option.some.injEq] at h
      subst h
      exact .refl _
    · cases h
  · cases h
/-- effects that are not of themselves leave the state -/
theorem aEff_st {tb : Tab} {st st' : St} {ρ : Operand → AV} {op : Op} (h : (aEff tb st ρ op).st? = some st') (hv : ∀ v s, aEff tb st ρ op ≠ .val v s) : st' = st := by
  cases op <;> simp only [aEff] at h hv
  case call c =>
    unfold eCall at h hv
    split at h
    · exact callV_st h
    · rename_i b hc
      simp only [hc] at hv
      unfold aBuiltin at h hv
      split at h
      · unfold bAppend at h hv
        repeat' split at h
        all_goals first
          | cases h
          | skip
        simp_all
      · unfold bCopy at h hv
        repeat' split at h
        all_goals first
          | (cases h; done)
          | simp_all
      · unfold bClear at h hv
        repeat' split at h
        all_goals first
          | (cases h; done)
          | simp_all
      · simp only [R.st?, Option.some.injEq] at h
        exact h.symm
      · cases h
    · cases h
  case store t a x =>
    unfold eStore at h hv
    repeat' split at h
    all_goals first
      | (cases h; done)
      | simp_all
  case mapUpdate t m k x =>
    unfold eMap at h hv
    repeat' split at h
    all_goals first
      | (cases h; done)
      | simp_all
  case insert t m k x =>
    unfold eMap at h hv
    repeat' split at h
    all_goals first
      | (cases h; done)
      | simp_all
  case defer c =>
    unfold eDefer at h
    repeat' split at h
    all_goals first
      | (cases h; done)
      | (simp only [R.st?, Option.some.injEq] at h; exact h.symm)
  case panic x =>
    unfold ePanic at h
    split at h
    · simp only [R.st?, Option.some.injEq] at h
      exact h.symm
    · cases h
  all_goals cases h
end Go.Sy
