/- Functions: a call, and the unwinding. -/
import Derived.Test.YtapfloegpaadgaaGreatSyFn
set_option linter.unusedVariables false
set_option linter.unusedSimpArgs false
namespace Go.Sy

section
variable {P : Program} {tb : Tab} {rec : Cmd → St → Ex}

theorem st_leaves {F : Frame} {cs : List Frame} {w : World} (hm : F.mode = .run) (hr : F.roundOf = none) (ht : F.todo = [] ∨ ∃ j, F.todo = .code .ret :: j) : step P (lone F cs w) = .next (lone { F with mode := .returning } cs w) := by
  rcases ht with ht | ⟨j, ht⟩ <;> exact step_lone_go (by simp [stepG, stepG.exec, hm, ht, hr])

theorem fn_ok (ih : RecOK P rec) (hT : TabOK P tb) (hC : ∀ f fn b, tb.funcs.get? f = some fn → fn.body = some b → codeOK fn.ntmps b = true) {f : Nat} {args : List AV} {bel : Below} {st : St} {r : Res} (h : evFn tb rec f args bel st = .ok r)
    (X : Nat → Prop) (L : Loc) (w : World) (xs : Array Value) (kd : CallKind) (cs : List Frame) (H : HRel X L st.hp w) (ho : AllObl r.st.obl) (hxs : VRels X L w args xs.toList) (hb : BelR X L w bel kd cs) :
    ∃ L' w' F' cs', Steps P (lone (Frame.enter P f xs kd) cs w) (lone F' cs' w') ∧ Ext L w L' w' ∧ HRel X L' r.st.hp w' ∧ F'.fn = f ∧ F'.kind = kd ∧ Unders kd cs cs' ∧ BelR X L' w' r.bel kd cs' ∧ LeaveR P X L' w' F' r.out := by
  unfold evFn at h
  split at h
  · cases h
  · rename_i fn hfn
    split at h
    · cases h
    · rename_i body hbody
      have hP := hT.funcs _ _ hfn
      generalize hF : Frame.enter P f xs kd = F
      have hFm : F.mode = .run := by rw [← hF]; rfl
      have hFt : F.todo = .code body :: [] := by rw [← hF]; simp [Frame.enter, hP, hbody]
      have hFk : F.kind = kd := by rw [← hF]; rfl
      have hFr : F.roundOf = none := by rw [← hF]; rfl
      have hFs : fn.ntmps ≤ F.tmps.size := by rw [← hF]; simp [Frame.enter, hP]; omega
      have hFf : F.fn = f := by rw [← hF]; rfl
      have hfr : FRel X L w { fn := f, tmps := T.ofList args, defs := [], round := none } F := by
        refine ⟨hFf, ?_, by rw [← hF]; exact .nil, hFr⟩
        intro i v hi
        rw [T.ofList_get] at hi
        obtain ⟨x, hx1, hx2⟩ := hxs.get hi
        refine ⟨x, ?_, hx2⟩
        have hl := (List.getElem?_eq_some_iff.1 hx1).1
        rw [Array.getElem?_toList] at hx1
        rw [← hF]
        simp only [Frame.enter]
        rw [Array.getElem?_append_left (by simpa using hl)]
        exact hx1
      have hc := codeOK_mono hFs body (hC f fn body hfn hbody)
      have body_ok : ∀ r1, rec (.code body { fn := f, tmps := T.ofList args, defs := [], round := none } bel) st = .ok r1 → AllObl r1.st.obl → ∃ L' w' F' cs', Lands P X L w F cs r1.st L' w' F' cs' ∧ FRel X L' w' r1.fr F' ∧ BelR X L' w' r1.bel F.kind cs' ∧ OutR X L' w' F' [] r1.out :=
        fun r1 h1 ho1 => ih.code _ _ _ _ _ h1 X L w F [] cs H ho1 hfr hFm hFt hc (by rw [hFk]; exact hb)
      -- to the unwinding
      have unw : ∀ (r1 : Res) (how : Below) (r2 : Res), rec (.code body { fn := f, tmps := T.ofList args, defs := [], round := none } bel) st = .ok r1 → rec (.unwind r1.fr how) r1.st = .ok r2 → AllObl r2.st.obl →
          (∀ L' w' F', F'.roundOf = none → OutR X L' w' F' [] r1.out → ∃ m, HowR X L' w' { F' with mode := m } how ∧ ∀ cs' , Steps P (lone F' cs' w') (lone { F' with mode := m } cs' w')) →
          ∃ L' w' F' cs', Steps P (lone F cs w) (lone F' cs' w') ∧ Ext L w L' w' ∧ HRel X L' r2.st.hp w' ∧ F'.fn = f ∧ F'.kind = kd ∧ Unders kd cs cs' ∧ BelR X L' w' r1.bel kd cs' ∧ LeaveR P X L' w' F' r2.out := by
        intro r1 how r2 h1 h2 ho2 hout
        obtain ⟨L1, w1, F1, cs1, l1, hf1, hb1, o1⟩ := body_ok r1 h1 ((ih.adv _ _ _ h2).all ho2)
        obtain ⟨m, q1, q2⟩ := hout L1 w1 F1 (l1.round.trans hFr) o1
        obtain ⟨L2, w2, F2, t1, t2, t3, t4, t5, t6⟩ := ih.unwind _ _ _ _ h2 X L1 w1 { F1 with mode := m } cs1 l1.heap ho2 ⟨hf1.fn, hf1.tmps, hf1.defs, hf1.round⟩ (l1.round.trans hFr) q1
        rw [hFk] at hb1
        exact ⟨L2, w2, F2, cs1, l1.steps.trans ((q2 cs1).trans t1), l1.ext.trans t2, t3, t4.trans (l1.fn.trans hFf), t5.trans (l1.kind.trans hFk), hFk ▸ l1.und, hb1.mono t2, t6⟩
      split at h
      · rename_i fr1 bel1 st1 h1
        split at h
        · rename_i r2 h2
          cases h
          exact unw ⟨.norm, fr1, bel1, st1⟩ .returning r2 h1 h2 ho fun L' w' F' hr ho' => ⟨.returning, rfl, fun cs' => .one (st_leaves ho'.1 hr (.inl ho'.2))⟩
        · rename_i hne
          exact absurd (at_ok h) (hne _)
      · rename_i fr1 bel1 st1 h1
        split at h
        · rename_i r2 h2
          cases h
          exact unw ⟨.ret, fr1, bel1, st1⟩ .returning r2 h1 h2 ho fun L' w' F' hr ho' => ⟨.returning, rfl, fun cs' => .one (st_leaves ho'.1 hr (.inr ho'.2))⟩
        · rename_i hne
          exact absurd (at_ok h) (hne _)
      · rename_i v fr1 bel1 st1 h1
        split at h
        · rename_i r2 h2
          cases h
          exact unw ⟨.pan v, fr1, bel1, st1⟩ (.panicking v false) r2 h1 h2 ho fun L' w' F' hr ho' => by
            obtain ⟨ch, q1, q2⟩ := ho'
            exact ⟨.panicking ch, ⟨ch, rfl, q2⟩, fun cs' => by rw [← q1]; exact .refl _ _⟩
        · rename_i hne
          exact absurd (at_ok h) (hne _)
      · cases h
      · cases h
end
end Go.Sy
