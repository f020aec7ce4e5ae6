/- What is asked of a program's tables, from facts that are reckoned. -/
import Derived.Test.YtapfloegpaadgaaGreatSyAll
set_option linter.unusedVariables false
set_option linter.unusedSimpArgs false
namespace Go.Sy

section
variable {P : Program}
theorem flatV_inv : ∀ {xs ys : List Value} {r : Bool}, eqFlatV xs ys = some r → ∃ as bs : List Int, xs = as.map (.int .i64) ∧ ys = bs.map (.int .i64) ∧ as.length = bs.length ∧ r = decide (as = bs) := by
  intro xs
  induction xs with
  | nil =>
    intro ys r h
    cases ys with
    | nil => simp [eqFlatV] at h; exact ⟨[], [], rfl, rfl, rfl, by simp [← h]⟩
    | cons y ys => simp [eqFlatV] at h
  | cons x xs ih =>
    intro ys r h
    cases ys with
    | nil => simp [eqFlatV] at h
    | cons y ys =>
      unfold eqFlatV at h
      split at h
      · rename_i e0 _; cases e0
      · rename_i a x2 b y2 e1 e2
        cases e1; cases e2
        obtain ⟨q, hq, rfl⟩ := Option.map_eq_some_iff.1 h
        obtain ⟨as, bs, rfl, rfl, hl, rfl⟩ := ih hq
        refine ⟨a :: as, b :: bs, rfl, rfl, by simp [hl], ?_⟩
        simp
      · cases h

theorem run_equal_int {d t : Nat} {k : IntKind} (h : P.underlying t = some (.int k)) (j : IntKind) (a b : Int) (w : World) : (Op.equalIn (d + 1) t (.int j a) (.int j b)).run P w = .ok (a == b) w := by
  have hu : (underlying t).run P w = .ok (.int k) w := by simp [underlying, h]
  simp only [Op.equalIn, Sem.run_bind, hu, Result.andThen_ok, if_true, Sem.run_pure]
theorem run_part_int {t : Nat} {k : IntKind} (h : P.underlying t = some (.int k)) {cs : Array Value} {i : Nat} {v : Value} (hv : cs[i]? = some v) (w : World) : (part t cs i).run P w = .ok v w := by
  have hu : (underlying t).run P w = .ok (.int k) w := by simp [underlying, h]
  simp only [part, isAgg, Sem.run_bind, hu, Result.andThen_ok, Sem.run_pure, hv]
  rfl

/-- a struct of two whole numbers -/
theorem eq_two {t : Nat} {f0 f1 : Field} {k0 k1 : IntKind} (h : P.underlying t = some (.struct #[f0, f1])) (n0 : f0.name ≠ "_") (n1 : f1.name ≠ "_") (u0 : P.underlying f0.type = some (.int k0)) (u1 : P.underlying f1.type = some (.int k1)) (o0 : f0.offset = 0) (o1 : f1.offset = 1)
    (hs : P.stoodInHeld t = false) (hg : P.eqGuardType P.depth t = false) : EqOK P t 2 := by
  intro xs ys r w hx he
  have hu : (underlying t).run P w = .ok (.struct #[f0, f1]) w := by simp [underlying, h]
  obtain ⟨as, bs, e1, e2, hl, rfl⟩ := flatV_inv he
  have hal : as.length = 2 := by have := congrArg List.length e1; simp at this; omega
  match as, bs, hal, hl with
  | [a0, a1], [b0, b1], _, _ =>
    have hxs : xs = #[.int .i64 a0, .int .i64 a1] := list2 e1
    have hys : ys = #[.int .i64 b0, .int .i64 b1] := list2 e2
    subst hxs; subst hys
    refine ⟨by simp [eqGuard, Sem.run, program, hg], ?_⟩
    have p0 : ∀ w, (part f0.type #[.int .i64 a0, .int .i64 a1] f0.offset).run P w = .ok (.int .i64 a0) w := fun w => run_part_int u0 (by rw [o0]; rfl) w
    have p1 : ∀ w, (part f1.type #[.int .i64 a0, .int .i64 a1] f1.offset).run P w = .ok (.int .i64 a1) w := fun w => run_part_int u1 (by rw [o1]; rfl) w
    have q0 : ∀ w, (part f0.type #[.int .i64 b0, .int .i64 b1] f0.offset).run P w = .ok (.int .i64 b0) w := fun w => run_part_int u0 (by rw [o0]; rfl) w
    have q1 : ∀ w, (part f1.type #[.int .i64 b0, .int .i64 b1] f1.offset).run P w = .ok (.int .i64 b1) w := fun w => run_part_int u1 (by rw [o1]; rfl) w
    have hp : ∀ w, (program).run P w = .ok P w := fun w => rfl
    have gen : ∀ d, (Op.equalIn (d + 1 + 1) t (.agg #[.int .i64 a0, .int .i64 a1]) (.agg #[.int .i64 b0, .int .i64 b1])).run P w = .ok (decide ([a0, a1] = [b0, b1])) w := by
      intro d
      have r0 := fun w => run_equal_int (d := d) u0 .i64 a0 b0 w
      have r1 := fun w => run_equal_int (d := d) u1 .i64 a1 b1 w
      rw [Op.equalIn]
      generalize hE : Op.equalIn (d + 1) = E at r0 r1
      simp only [Sem.run_bind, hu, Result.andThen_ok, hp, hs]
      rw [← Array.forIn_toList]
      simp only [Bool.false_eq_true, if_false, List.forIn_cons, List.forIn_nil, n0, n1, ne_eq, not_false_eq_true, if_true, Sem.run_bind, p0, p1, q0, q1, Result.andThen_ok, r0, r1, Sem.run_pure]
      by_cases h0 : a0 = b0
      · subst h0
        by_cases h1 : a1 = b1
        · subst h1; simp [p0, p1, q0, q1, r0, r1]
        · simp [h1, p0, p1, q0, q1, r0, r1]
      · simp [h0]
    exact gen 9998

theorem info_of {t : Nat} {i : TypeInfo} (h : P.types[t]? = some i) : P.info? t = some i := by
  unfold Tables.info?
  rw [if_pos (Array.getElem?_eq_some_iff.1 h).1, h]

theorem seat_of {tb : Tab} (h1 : tb.types = T.ofList P.types.toList) (h2 : tb.funcs = T.ofList P.funcs.toList) (h3 : P.follows .mixedOrders = true) (h4 : (P.funcs.toList.all fun fn => fn.name != "runtime.NumGoroutine") = true)
    (h5 : ((List.range P.types.size).all fun t => match tb.under t with | some (.struct fs) => fs.toList.all (fun f => (tb.size f.type).isSome) | _ => true) = true) (h6 : ∀ t n, tb.eqs.contains t = true → tb.size t = some n → EqOK P t n)
    (h7 : P.funcs.toList.all funcOK = true) (hs : SpecOK P tb) : SeatOK P tb := by
  have hf : ∀ f fn, tb.funcs.get? f = some fn → P.funcs[f]? = some fn := by
    intro f fn h
    rw [h2, T.ofList_get, Array.getElem?_toList] at h
    exact h
  refine ⟨⟨fun t i h => ?_, hf, fun f fn h hb args w => ?_, h3, h6⟩, fun t fs h f hfm => ?_, hs, fun f fn b h hb => ?_⟩
  · rw [Tab.info, h1, T.ofList_get, Array.getElem?_toList] at h
    exact info_of h
  · have hP := hf f fn h
    have hn := List.all_eq_true.1 h4 fn (by rw [← Array.getElem?_toList] at hP; exact List.mem_of_getElem? hP)
    have hn' : (fn.name == "runtime.NumGoroutine") = false := by
      have hn2 : (!(fn.name == "runtime.NumGoroutine")) = true := hn
      simpa only [Bool.not_eq_true'] using hn2
    have hb' : fn.body.isNone = false := by cases hh : fn.body <;> simp_all
    have hp : ∀ w, (program).run P w = .ok P w := fun w => rfl
    simp only [callFunc, Sem.run_bind, hp, Result.andThen_ok, hP, hn', hb', Bool.false_eq_true, if_false, Sem.run_pure]
  · have ht : t < P.types.size := by
      apply Classical.byContradiction
      intro hh
      have hi : tb.info t = none := by rw [Tab.info, h1, T.ofList_get]; simp; omega
      unfold Tab.under at h
      rw [hi] at h
      cases h
    have := List.all_eq_true.1 h5 t (List.mem_range.2 ht)
    rw [h] at this
    exact Option.isSome_iff_exists.1 (List.all_eq_true.1 this f hfm)
  · have hP := hf f fn h
    have := List.all_eq_true.1 h7 fn (by rw [← Array.getElem?_toList] at hP; exact List.mem_of_getElem? hP)
    simpa [funcOK, hb] using this
end
end Go.Sy
