/- Regions. -/
import Derived.Test.YtapfloegpaadgaaGreatSyDr5
set_option linter.unusedVariables false
set_option linter.unusedSimpArgs false
namespace Go.Sy

section
variable {ops : List Oper} {an : List Nat}
theorem planRow_ok : ∀ (c pre : List Nat), planRow ops an ops.length pre c = true → (∀ x ∈ c, x < ops.length ∧ x ∉ pre) ∧ c.Nodup ∧ c.Pairwise (fun a b => bit an a b = false) ∧
    ∀ a i b, c = a ++ i :: b → ∀ o, ops[i]? = some o → opKd o.op = .eff → (∀ x ∈ pre, bit an i x = true) ∧ ∀ x ∈ a, bit an i x = true := by
  intro c
  induction c with
  | nil => intro pre _; exact ⟨(fun x hx => by cases hx), .nil, .nil, fun a i b h => by simp at h⟩
  | cons i c ih =>
    intro pre h
    simp only [planRow, Bool.and_eq_true, blt_dec, decide_eq_true_eq, Bool.not_eq_true'] at h
    obtain ⟨⟨⟨⟨h1, h2⟩, h3⟩, h4⟩, h5⟩ := h
    obtain ⟨q1, q2, q3, q4⟩ := ih (i :: pre) h5
    have hipre : i ∉ pre := by
      intro hh
      rw [List.contains_iff_mem.2 hh] at h2; cases h2
    refine ⟨fun x hx => ?_, List.nodup_cons.2 ⟨fun hh => (q1 i hh).2 (List.mem_cons_self ..), q2⟩, List.pairwise_cons.2 ⟨fun b hb => ?_, q3⟩, fun a j b he o ho hk => ?_⟩
    · rcases List.mem_cons.1 hx with rfl | hx
      · exact ⟨h1, hipre⟩
      · exact ⟨(q1 x hx).1, fun hh => (q1 x hx).2 (List.mem_cons_of_mem _ hh)⟩
    · cases hbb : bit an i b with
      | false => rfl
      | true =>
        exfalso
        have := List.all_eq_true.1 h3 b (List.mem_range.2 (q1 b hb).1)
        simp only [hbb, Bool.not_true, Bool.false_or] at this
        exact (q1 b hb).2 (List.mem_cons_of_mem _ (List.contains_iff_mem.1 this))
    · cases a with
      | nil =>
        simp only [List.nil_append, List.cons.injEq] at he
        obtain ⟨rfl, rfl⟩ := he
        rw [ho] at h4
        simp only [isEff, hk, Bool.not_true, Bool.false_or] at h4
        exact ⟨fun x hx => List.all_eq_true.1 h4 x hx, fun x hx => by cases hx⟩
      | cons y a =>
        simp only [List.cons_append, List.cons.injEq] at he
        obtain ⟨rfl, rfl⟩ := he
        obtain ⟨k1, k2⟩ := q4 a j b rfl o ho hk
        refine ⟨fun x hx => k1 x (List.mem_cons_of_mem _ hx), fun x hx => ?_⟩
        rcases List.mem_cons.1 hx with rfl | hx
        · exact k1 _ (List.mem_cons_self ..)
        · exact k2 x hx
theorem canon_mem (j : Nat) (h : j < ops.length) : j ∈ canon ops an := by
  unfold canon
  simp only [List.mem_append, List.mem_filter, List.mem_range, Bool.not_eq_true']
  by_cases hh : j ∈ canonGo ops an (List.range ops.length) []
  · exact .inl hh
  · refine .inr ⟨h, ?_⟩
    cases hc : (canonGo ops an (List.range ops.length) []).contains j with
    | false => rfl
    | true => exact absurd (List.contains_iff_mem.1 hc) hh
structure PlanFacts (ops : List Oper) (an c : List Nat) : Prop where
  pl : Pl ops an
  ro : Ro ops an c
  edge : ∀ i o, ops[i]? = some o → ∀ e ∈ edgesOf o, e < i
  anc : ∀ i o j, ops[i]? = some o → j < ops.length → bit an i j = true → ∃ e ∈ edgesOf o, e = j ∨ bit an e j = true
theorem planOK_ok {c : List Nat} (h : planOK ops an c = true) : PlanFacts ops an c := by
  simp only [planOK, Bool.and_eq_true] at h
  obtain ⟨⟨h1, h2⟩, _⟩ := h
  have one : ∀ i o, ops[i]? = some o → planOne ops an c i o = true := by
    intro i o ho
    have := List.all_eq_true.1 h1 (o, i) (List.mem_zipIdx_iff_getElem?.2 ho)
    exact this
  obtain ⟨q1, q2, q3, q4⟩ := planRow_ok c [] h2
  refine ⟨⟨fun i j d hi hj => ?_, fun i o j d ho hj hd => ?_⟩, ⟨q2, q3, fun a i b he o ho hk => (q4 a i b he o ho hk).2⟩, fun i o ho e he => ?_, fun i o j ho hj hb => ?_⟩
  · obtain ⟨o, ho, hod⟩ := Option.bind_eq_some_iff.1 hi
    have h := one i o ho
    simp only [planOne, Bool.and_eq_true] at h
    obtain ⟨oj, hoj, hojd⟩ := Option.bind_eq_some_iff.1 hj
    have := List.all_eq_true.1 h.2 j (List.mem_range.2 (List.getElem?_eq_some_iff.1 hoj).1)
    have hj' : (ops[j]?).bind (·.dst) = some d := hj
    rw [hj'] at this
    simp only [Bool.and_eq_true, Bool.or_eq_true, beq_dec, decide_eq_true_eq] at this
    rcases this.2 with h | h
    · exact h
    · rw [hod] at h; simp at h
  · have h := one i o ho
    simp only [planOne, Bool.and_eq_true] at h
    obtain ⟨oj, hoj, hojd⟩ := Option.bind_eq_some_iff.1 hj
    have := List.all_eq_true.1 h.2 j (List.mem_range.2 (List.getElem?_eq_some_iff.1 hoj).1)
    have hj' : (ops[j]?).bind (·.dst) = some d := hj
    rw [hj'] at this
    simp only [Bool.and_eq_true, Bool.or_eq_true] at this
    rcases this.1 with (h | h) | h
    · rw [List.contains_iff_mem.2 hd] at h; cases h
    · exact .inl h
    · exact .inr h
  · have h := one i o ho
    simp only [planOne, Bool.and_eq_true] at h
    have := List.all_eq_true.1 h.1.1.1 e he
    simpa [blt_dec] using this
  · have h := one i o ho
    simp only [planOne, Bool.and_eq_true] at h
    have := List.all_eq_true.1 h.1.1.2 j (List.mem_range.2 hj)
    simp only [hb, Bool.not_true, Bool.false_or, List.any_eq_true, Bool.or_eq_true, beq_dec, decide_eq_true_eq] at this
    exact this
end

section
variable {P : Program} {tb : Tab} {rec : Cmd → St → Ex} {X : Nat → Prop}
theorem st_region {id : Nat} {ops : Array Oper} {F : Frame} {cs : List Frame} {w : World} {k : List Item} (hm : F.mode = .run) (ht : F.todo = .code (.region id ops false) :: k) : step P (lone F cs w) = .next (lone { F with todo := .inRegion ops (List.range ops.size) :: k } cs w) :=
  step_lone_go (by simp [stepG, stepG.exec, hm, ht])
theorem st_draw {id : Nat} {ops : Array Oper} {F : Frame} {cs : List Frame} {w : World} {k : List Item} (hx : P.follows .mixedOrders = true) (hm : F.mode = .run) (ht : F.todo = .code (.region id ops true) :: k) :
    step P (lone F cs w) = .next (lone { F with todo := .inRegion ops (Region.linearise .any ops (w.tape w.drawn (.order F.fn id))) :: k } cs { w with drawn := w.drawn + 1 }) :=
  step_lone_go (by simp [stepG, stepG.exec, hm, ht, choose, Sem.run, Question.forced, Question.cut, Region.schedule, hx])

theorem region_ok (ih : RecOK P rec) (hT : TabOK P tb) (hF : FieldsOK tb) (hS : SpecOK P tb) (hfun : ∀ f args b s r, rec (.call f args b) s = .ok r → ∃ fn, tb.funcs.get? f = some fn ∧ fn.body.isSome = true)
    {id : Nat} {ops : Array Oper} {draw : Bool} {fr : Fr} {bel : Below} {st : St} {r : Res} (h : evRegion tb rec id ops.toList draw fr bel st = .ok r) {L : Loc} {w : World} {F : Frame} {k : List Item} {cs : List Frame}
    (H : HRel X L st.hp w) (ho : AllObl r.st.obl) (hf : FRel X L w fr F) (hm : F.mode = .run) (ht : F.todo = .code (.region id ops draw) :: k) (hc : codeOK F.tmps.size (.region id ops draw) = true) (hb : BelR X L w bel F.kind cs) :
    ∃ L' w' F' cs', Lands P X L w F cs r.st L' w' F' cs' ∧ FRel X L' w' r.fr F' ∧ BelR X L' w' r.bel F.kind cs' ∧ OutR X L' w' F' k r.out := by
  unfold evRegion at h
  have h := at_ok h
  simp only [codeOK, regionOK, Bool.and_eq_true] at hc
  have hd : ∀ o ∈ ops.toList, ∀ d, o.dst = some d → d < F.tmps.size := by
    intro o hoo d hdd
    have := List.all_eq_true.1 hc.1 o hoo
    rw [hdd] at this
    simpa [blt_dec] using this
  cases draw with
  | false =>
    simp only [cond_false] at h
    rw [Array.length_toList] at h
    obtain ⟨L', w', F', cs', l, h1, h2, h3⟩ := evOps_ok (X := X) ih hT hF hS hfun (k := k) _ _ _ _ _ h L w { F with todo := .inRegion ops (List.range ops.size) :: k } cs H ho (hf.todo _ _) hm rfl hd hb
    exact ⟨L', w', F', cs', Lands.head (st_region hm ht) l, h1, h2, h3⟩
  | true =>
    simp only [cond_true] at h
    have pf := planOK_ok (by simpa using hc.2)
    obtain ⟨es, dr⟩ := dr_of ih.adv _ _ _ _ _ _ h ho
    obtain ⟨s1, s2, s3⟩ := sched_ok (ops := ops) (an := ancs ops.toList []) (fun i o ho => pf.edge i o (by rw [Array.getElem?_toList]; exact ho)) (fun i o j ho hj hb => pf.anc i o j (by rw [Array.getElem?_toList]; exact ho) (by simpa using hj) hb) (w.tape w.drawn (.order F.fn id))
    have hst := st_draw (P := P) (cs := cs) (w := w) hT.mixed hm ht
    generalize Region.linearise .any ops (w.tape w.drawn (.order F.fn id)) = s at s1 s2 s3 hst
    have hE0 : Ext L w L { w with drawn := w.drawn + 1 } := Ext.ofEq rfl rfl rfl rfl
    let M0 : Loc := fun _ => .absent
    have hM0 : ∀ c, ¬ Owned M0 c := by rintro c ⟨b, o, cp, sz, hb⟩; cases hb
    have hX : ∀ n, Xn X M0 n = X := by
      intro n
      funext c
      simp only [Xn, eq_iff_iff]
      constructor
      · rintro (h | ⟨b, _, o, cp, sz, hb⟩)
        · exact h
        · cases hb
      · exact .inl
    have hall : ∀ p ∈ es, p.i ∈ s := by
      intro p hp
      have h1 := dr.sub.subset (List.mem_map.2 ⟨p, hp, rfl⟩)
      refine (s3 _).2 ?_
      simp only [planOK, Bool.and_eq_true] at hc
      have := (planRow_ok _ [] (by have := hc.2; simp at this; exact this.1.2)).1 p.i h1
      simpa using this.1
    have hf0 := hf.mono hE0
    have I : Inv ops.toList (ancs ops.toList []) X s es fr st L M0 { w with drawn := w.drawn + 1 } { F with todo := .inRegion ops s :: k } := by
      refine ⟨by rw [hX]; exact H.same rfl rfl rfl rfl, fun b hb => absurd rfl hb, fun p hp hps => absurd (hall p hp) hps, (fun b b' c o cp sz o' cp' sz' h => by cases h), fun c hc => absurd hc (hM0 c), fun p hp hps => absurd (hall p hp) hps, fun t v hv _ => ?_, fun p hp hps => absurd (hall p hp) hps, hf0.fn, by rw [hX]; exact hf0.defs, hf0.round⟩
      rw [hX]
      exact hf0.tmps t v hv
    obtain ⟨L', w', F', cs', t1, t2, t3, t4, t5, t6, t7, t8, t9, t10, t11⟩ := draw_main (X := X) ih hT hF hS hfun pf.pl (k := k) s _ [] fr bel st r es L M0 _ { F with todo := .inRegion ops s :: k } cs dr pf.ro s1 s2 (fun j hj => canon_mem j (by have := (s3 j).1 hj; simpa using this)) (fun i hi his => by
      exfalso
      apply his
      refine (s3 _).2 ?_
      have := (planRow_ok _ [] (by have := hc.2; simp [planOK] at this; exact this.1.2)).1 i hi
      simpa using this.1) I hm rfl hd (by rw [hX]; exact hb.mono hE0)
    have hE : Ext L { w with drawn := w.drawn + 1 } L' w' := ⟨t2.size, fun c h1 h2 => t2.same c h1 h2 (hM0 c), t2.loc, fun c hc => by
      rcases t2.own c hc with h | h | h
      · exact .inl h
      · exact absurd h (hM0 c)
      · exact .inr h, t2.os, t2.tape, t2.output⟩
    exact ⟨L', w', F', cs', ⟨.head hst t1, hE0.trans hE, t3, t4, t5, t6, t7, t8⟩, t9, t10, t11⟩
end
end Go.Sy
