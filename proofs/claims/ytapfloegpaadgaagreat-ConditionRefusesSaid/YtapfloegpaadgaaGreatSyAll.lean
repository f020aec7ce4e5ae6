/- The evaluator is sound. -/
import Derived.Test.YtapfloegpaadgaaGreatSyCho2
set_option linter.unusedVariables false
set_option linter.unusedSimpArgs false
namespace Go.Sy

/-- what is asked of a program's tables, once -/
structure SeatOK (P : Program) (tb : Tab) : Prop where
  tab : TabOK P tb
  fields : FieldsOK tb
  spec : SpecOK P tb
  code : ∀ f fn b, tb.funcs.get? f = some fn → fn.body = some b → codeOK fn.ntmps b = true

theorem getSlots_at {t : T AV} : ∀ (l : List Nat) (s : List (Nat × AV)), getSlots t l = some s → ∀ e ∈ s, t.get? e.1 = some e.2
  | [], s, h => by cases h; intro e he; cases he
  | i :: l, s, h => by
    simp only [getSlots] at h
    split at h
    · rename_i v vs h1 h2
      cases h
      intro e he
      rcases List.mem_cons.1 he with rfl | he
      · exact h1
      · exact getSlots_at l vs h2 e he
    · cases h
theorem toldFrag_ok {P : Program} {tb : Tab} (hS : SpecOK P tb) {c : Code} {fr : Fr} {bel : Below} {st : St} {rho lend wr ins : List Nat} {out : Out} {outs : List (Nat × AV)} {post : List Blk} {r : Res} (h : toldFrag tb c fr bel st rho lend wr ins out outs post = .ok r)
    {X : Nat → Prop} {L : Loc} {w : World} {F : Frame} {k : List Item} {cs : List Frame}
    (H : HRel X L st.hp w) (ho : AllObl r.st.obl) (hf : FRel X L w fr F) (hm : F.mode = .run) (ht : F.todo = .code c :: k) (hc : codeOK F.tmps.size c = true) (hb : BelR X L w bel F.kind cs) :
    ∃ L' w' F' cs', Lands P X L w F cs r.st L' w' F' cs' ∧ FRel X L' w' r.fr F' ∧ BelR X L' w' r.bel F.kind cs' ∧ OutR X L' w' F' k r.out := by
  unfold toldFrag at h
  split at h
  · rename_i pre rho' st2 slots hr0 hd0 htold hsl
    split at h
    · rename_i o hout
      cases h
      have hs := ho _ (List.mem_cons_self ..)
      have hun : Unch rho.length wr pre post := ho _ (List.mem_cons_of_mem _ (List.mem_cons_self ..))
      have hp := hS.frag _ _ _ _ _ _ _ hs
      obtain ⟨post', t1, t2, t3, t4, t5, t6, t7⟩ := told_inv htold
      obtain ⟨hnd, _, _, _⟩ := rhoOK_inv t3
      have hlow := down H hnd t1
      have hk : F.kind = .normal := hb
      have hrd : F.roundOf = none := by have := hf.round; rw [hr0] at this; exact this
      have hdf : F.defers = [] := by
        have := hf.defs
        rw [hd0] at this
        generalize F.defers = ds at this
        cases this; rfl
      obtain ⟨L0', w', F', s1, hE, hH, q1, q2, q3, q4, q5, q6, q7⟩ := hp _ _ w F k cs hlow hf.fn hdf hrd hk hm ht hc (fun e he => by
        obtain ⟨e0, he0, rfl⟩ := List.mem_map.1 he
        obtain ⟨x, hx, hv⟩ := hf.tmps _ _ (getSlots_at _ _ hsl e0 he0)
        exact ⟨x, hx, see_rel H hnd hv⟩)
      obtain ⟨L', u1, u2, u3⟩ := up H htold hun hE hH
      have hfx := hf.mono u1
      refine ⟨L', w', F', cs, ⟨s1, u1, u2, by rw [q1]; exact hf.fn.symm, by rw [q2]; exact hk.symm, by rw [q3]; exact hrd.symm, q4, .refl _ _⟩, ⟨q1, fun i v hi => ?_, ?_, ?_⟩, hk, ?_⟩
      · rcases setSlots_at _ _ _ _ hi with hi | hi
        · obtain ⟨e, he, hee⟩ := List.mem_map.1 hi
          cases hee
          obtain ⟨x, hx, hv⟩ := q6 e he
          exact ⟨x, hx, u3 _ _ (List.mem_append.2 (.inr (List.mem_map.2 ⟨e, he, rfl⟩))) hv⟩
        · rw [T.get?_nil] at hi; cases hi
      · show DRels X L' w' fr.defs F'.defers
        rw [hd0, q5]; exact .nil
      · show match fr.round with | none => F'.roundOf = none | some l => _
        rw [hr0]; exact q3
      · cases out with
        | norm => simp only [Out.ren, Option.some.injEq] at hout; subst hout; exact q7
        | exit i => simp only [Out.ren, Option.some.injEq] at hout; subst hout; exact q7
        | ret => simp only [Out.ren, Option.some.injEq] at hout; subst hout; exact q7
        | pan v =>
          simp only [Out.ren, Option.some.injEq] at hout
          subst hout
          obtain ⟨ch, g1, y, older, g2, g3, g4⟩ := q7
          exact ⟨ch, g1, y, older, g2, g3, u3 _ _ (List.mem_append.2 (.inl (by simp [outVs]))) g4⟩
        | done v => simp [Out.ren] at hout
    · cases h
  · cases h

section
variable {P : Program} {tb : Tab} {rec : Cmd → St → Ex}
theorem code_ok (ih : RecOK P rec) (S : SeatOK P tb) (hfun : ∀ f args b s r, rec (.call f args b) s = .ok r → ∃ fn, tb.funcs.get? f = some fn ∧ fn.body.isSome = true) {c : Code} {fr : Fr} {bel : Below} {st : St} {r : Res} (h : evCode tb rec c fr bel st = .ok r)
    (X : Nat → Prop) (L : Loc) (w : World) (F : Frame) (k : List Item) (cs : List Frame)
    (H : HRel X L st.hp w) (ho : AllObl r.st.obl) (hf : FRel X L w fr F) (hm : F.mode = .run) (ht : F.todo = .code c :: k) (hc : codeOK F.tmps.size c = true) (hb : BelR X L w bel F.kind cs) :
    ∃ L' w' F' cs', Lands P X L w F cs r.st L' w' F' cs' ∧ FRel X L' w' r.fr F' ∧ BelR X L' w' r.bel F.kind cs' ∧ OutR X L' w' F' k r.out := by
  have one : ∀ {s : step P (lone F cs w) = .next (lone { F with todo := k } cs w)}, r = ⟨.norm, fr, bel, st⟩ → ∃ L' w' F' cs', Lands P X L w F cs r.st L' w' F' cs' ∧ FRel X L' w' r.fr F' ∧ BelR X L' w' r.bel F.kind cs' ∧ OutR X L' w' F' k r.out := by
    intro s hr
    subst hr
    exact ⟨L, w, { F with todo := k }, cs, ⟨.one s, .refl _ _, H, rfl, rfl, rfl, rfl, .refl _ _⟩, hf.todo k F.mode, hb, hm, rfl⟩
  have stay : ∀ {out : Out}, r = ⟨out, fr, bel, st⟩ → OutR X L w F k out → ∃ L' w' F' cs', Lands P X L w F cs r.st L' w' F' cs' ∧ FRel X L' w' r.fr F' ∧ BelR X L' w' r.bel F.kind cs' ∧ OutR X L' w' F' k r.out := by
    intro out hr hout
    subst hr
    exact ⟨L, w, F, cs, ⟨.refl _ _, .refl _ _, H, rfl, rfl, rfl, rfl, .refl _ _⟩, hf, hb, hout⟩
  unfold evCode at h
  split at h
  · exact one (s := st_skip hm ht) (by cases h; rfl)
  · exact one (s := st_label hm ht) (by cases h; rfl)
  · rename_i a b
    unfold evSeq at h
    split at h
    · rename_i x d e u v hcho
      rw [Bool.cond_eq_ite] at h
      split at h
      · rename_i hbool
        exact choice_ok ih S.tab S.fields S.spec hfun hcho hbool h H ho hf hm ht hc hb
      · cases h
    · rename_i hcho
      have hc' : codeOK F.tmps.size a = true ∧ codeOK F.tmps.size b = true := by
        simp only [codeOK, hcho, Bool.and_eq_true] at hc
        exact hc
      exact seq_ok ih h H ho hf hm ht hc' hb
  · exact cond_ok ih h H ho hf hm ht hc hb
  · exact block_ok ih h H ho hf hm ht hc hb
  · unfold evLoop at h
    split at h
    · rw [Bool.cond_eq_ite] at h
      split at h
      · exact toldFrag_ok S.spec h H ho hf hm ht hc hb
      · exact loop_ok ih h H ho hf hm ht hc hb
    · exact loop_ok ih h H ho hf hm ht hc hb
  · rename_i i
    exact stay (out := .exit i) (by cases h; rfl) ⟨hm, [], by simpa using ht, fun _ => rfl⟩
  · cases h
  · exact stay (out := .ret) (by cases h; rfl) ⟨hm, k, ht⟩
  · cases h
  · cases h
  · exact region_ok ih S.tab S.fields S.spec hfun h H ho hf hm ht hc hb
  · exact range_ok ih S.tab hfun h H ho hf hm ht hc hb
end

theorem ev_fun (tb : Tab) : ∀ (n : Nat) (f : Nat) (args : List AV) (b : Below) (s : St) (r : Res), ev tb n (.call f args b) s = .ok r → ∃ fn, tb.funcs.get? f = some fn ∧ fn.body.isSome = true := by
  intro n f args b s r h
  cases n with
  | zero => simp [ev] at h
  | succ n =>
    simp only [ev, evStep, evFn] at h
    split at h
    · cases h
    · rename_i fn hfn
      split at h
      · cases h
      · rename_i body hbody
        exact ⟨fn, hfn, by rw [hbody]; rfl⟩

theorem ev_ok {P : Program} {tb : Tab} (S : SeatOK P tb) : ∀ n, RecOK P (ev tb n) := by
  intro n
  induction n with
  | zero => exact ⟨fun c fr bel st r h => by simp [ev] at h, fun f args bel st r h => by simp [ev] at h, fun fr how st r h => by simp [ev] at h, ev_adv tb 0⟩
  | succ n ih =>
    refine ⟨fun c fr bel st r h X L w F k cs H ho hf hm ht hc hb => ?_, fun f args bel st r h X L w xs kd cs H ho hx hb => ?_, fun fr how st r h X L w F cs H ho hf hr hh => ?_, ev_adv tb (n + 1)⟩
    · exact code_ok ih S (ev_fun tb n) h X L w F k cs H ho hf hm ht hc hb
    · exact fn_ok ih S.tab S.code h X L w xs kd cs H ho hx hb
    · exact unwind_ok ih S.tab (ev_fun tb n) h X L w F cs H ho hf hr hh
end Go.Sy
