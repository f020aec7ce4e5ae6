/- A round of a loop over a function. -/
import Derived.Test.YtapfloegpaadgaaGreatSyEffF
set_option linter.unusedVariables false
set_option linter.unusedSimpArgs false
namespace Go.Sy

section
variable {P : Program} {F G : Frame} {cs : List Frame} {w : World} {c : Nat} {r : Loop} {k : List Item}

def setLoop (w : World) (c : Nat) (r : Loop) : World := { w with heap := w.heap.setIfInBounds c (.loop r) }

theorem run_begin (h : w.heap[c]? = some (.loop r)) (hs : r.state = .ready) : (Instr.beginRound c).run P w = .ok () (setLoop w c { r with state := .busy }) := by
  have hg : (getObj c).run P w = .ok (.loop r) w := by simp [getObj, Sem.run, h]
  have hse : (setObj c (.loop { r with state := .busy })).run P w = .ok () (setLoop w c { r with state := .busy }) := run_setObj h (by simp)
  simp only [Instr.beginRound, Instr.getLoop, Sem.run_bind, hg, Result.andThen_ok, Sem.run_pure, hse, hs]
theorem run_end (h : w.heap[c]? = some (.loop r)) (jump : Option Code) : (Instr.endRound c jump).run P w = .ok (.bool jump.isNone) (setLoop w c { r with state := if jump.isNone then .ready else .done, pending := jump }) := by
  have hg : (getObj c).run P w = .ok (.loop r) w := by simp [getObj, Sem.run, h]
  have hse := run_setObj (P := P) (o2 := .loop { r with state := if jump.isNone then .ready else .done, pending := jump }) h (by simp)
  simp only [Instr.endRound, Instr.getLoop, Sem.run_bind, hg, Result.andThen_ok, Sem.run_pure, hse]
  rfl
theorem run_yield (h : w.heap[c]? = some (.loop r)) {xs : Array Value} (hs : xs.size = r.params.size) : (Instr.yield c xs).run P w = .ok (.round c r.fn ((r.params.zip xs).foldl (fun tmps (t, a) => tmps.setIfInBounds t a) r.tmps) r.assign r.body) w := by
  have hg : (getObj c).run P w = .ok (.loop r) w := by simp [getObj, Sem.run, h]
  simp only [Instr.yield, Instr.getLoop, Sem.run_bind, hg, Result.andThen_ok, Sem.run_pure, hs, ne_eq, not_true_eq_false, if_false]

theorem st_begin (hm : G.mode = .run) (ht : G.todo = .beginRound :: k) (hr : G.roundOf = some c) (h : w.heap[c]? = some (.loop r)) (hs : r.state = .ready) :
    step P (lone G cs w) = .next (lone { G with todo := k } cs (setLoop w c { r with state := .busy })) :=
  step_lone_go (by simp [stepG, stepG.exec, stepG.apply, hm, ht, hr, run_begin h hs, Frame.finish])

theorem st_leave (hm : G.mode = .run) (hr : G.roundOf = some c) (hk : G.kind = .normal) (h : w.heap[c]? = some (.loop r)) {jump : Option Code}
    (ht : (jump = none ∧ G.todo = []) ∨ (jump = some .ret ∧ ∃ k, G.todo = .code .ret :: k) ∨ (∃ i k, jump = some (.exit i) ∧ G.todo = .code (.exit i) :: k ∧ exitTo i k = none)) :
    step P (lone G (F :: cs) w) = .next (lone (F.finish (.bool jump.isNone)) cs (setLoop w c { r with state := if jump.isNone then .ready else .done, pending := jump })) := by
  refine step_lone_go ?_
  rcases ht with ⟨rfl, ht⟩ | ⟨rfl, k, ht⟩ | ⟨i, k, rfl, ht, hx⟩
  · simp [stepG, stepG.exec, hm, ht, hr, run_end h, doReturn, hk]
  · simp [stepG, stepG.exec, hm, ht, hr, run_end h, doReturn, hk]
  · simp [stepG, stepG.exec, hm, ht, hr, run_end h, doReturn, hk, hx]
end

section
variable {P : Program} {tb : Tab} {rec : Cmd → St → Ex} {X : Nat → Prop} {L : Loc} {w : World} {F : Frame} {cs : List Frame} {ρ : Operand → AV}

theorem setSlots_rel : ∀ (ps : List Nat) (args : List AV) (xs : List Value) (t : T AV) (ts : Array Value), TRel X L w t ts → VRels X L w args xs → ps.length = args.length → (∀ p ∈ ps, p < ts.size) →
    TRel X L w (setSlots t (ps.zip args)) ((ps.zip xs).foldl (fun tmps (t, a) => tmps.setIfInBounds t a) ts) ∧ ((ps.zip xs).foldl (fun tmps (t, a) => tmps.setIfInBounds t a) ts).size = ts.size := by
  intro ps
  induction ps with
  | nil => intro args xs t ts ht hx hl hp; exact ⟨by simpa [setSlots] using ht, rfl⟩
  | cons p ps ih =>
    intro args xs t ts ht hx hl hp
    cases args with
    | nil => simp at hl
    | cons a args =>
      obtain ⟨x, xs, rfl, h1, h2⟩ := hx.cons_inv
      have hps := hp p (List.mem_cons_self ..)
      have ht' : TRel X L w (t.set p (some a)) (ts.setIfInBounds p x) := by
        intro i v hi
        rw [T.get?_set] at hi
        by_cases e : i = p
        · subst e
          rw [if_pos rfl] at hi
          cases hi
          exact ⟨x, by simp [hps], h1⟩
        · rw [if_neg e] at hi
          obtain ⟨y, hy, hv⟩ := ht i v hi
          exact ⟨y, by rw [Array.getElem?_setIfInBounds_ne (Ne.symm e)]; exact hy, hv⟩
      have := ih args xs (t.set p (some a)) (ts.setIfInBounds p x) ht' h2 (by simpa using hl) (fun q hq => by simp; exact hp q (List.mem_cons_of_mem _ hq))
      simp only [List.zip_cons_cons, setSlots, List.foldl_cons]
      exact ⟨this.1, by rw [this.2]; simp⟩

/-- a loop's block written -/
theorem loop_put {h : Hp} (H : HRel X L h w) {b c o cap sz : Nat} (hL : L b = .live c o cap sz) {r : Loop} (hr : w.heap[c]? = some (.loop r)) (r' : Loop) {x : Blk} (hx : x.alive = true) (hB : BRel X L (setLoop w c r') c o cap sz x) :
    Ext L w L (setLoop w c r') ∧ HRel X L (Hp.set h b x) (setLoop w c r') := by
  have hs : (setLoop w c r').heap.size = w.heap.size := by simp [setLoop]
  have ho : ∀ k, k ≠ c → (setLoop w c r').heap[k]? = w.heap[k]? := by intro k hk; simp [setLoop, Array.getElem?_setIfInBounds, Ne.symm hk]
  exact ⟨Ext.put hL hs ho rfl rfl rfl, H.put hL hs ho rfl rfl rfl hx hB⟩
theorem setLoop_get {c : Nat} {r r' : Loop} (hr : w.heap[c]? = some (.loop r)) : (setLoop w c r').heap[c]? = some (.loop r') := by
  obtain ⟨hcl, -⟩ := Array.getElem?_eq_some_iff.1 hr
  simp [setLoop, hcl]

theorem eff_yield {ops : Array Oper} {i : Nat} {rest : List Nat} {k : List Item} {o : Oper} (ih : RecOK P rec) (hT : TabOK P tb) {fr : Fr} {bel : Below} {st : St} {e : Eff} {l : Nat} {args : List AV} (he : evYield tb rec l args fr bel st = e) (hobl : ∀ s, e.st? = some s → AllObl s.obl)
    (hm : F.mode = .run) (ht : F.todo = .inRegion ops (i :: rest) :: k) (ho : ops[i]? = some o) (hw : Region.wanted o (yielded ops F.tmps) = true)
    (H : HRel X L st.hp w) (hds : DRels X L w fr.defs F.defers) (hb : BelR X L w bel F.kind cs) (hρ : OpRel X L w ρ F.eval) {st1 : St} (hy : aEff tb st ρ o.op = .yield l args st1) : EffOut P X L w F cs ops o rest k fr e := by
  unfold evYield at he
  split at he
  · rename_i s0 p0 f t ps a b d0 hl0
    split at he
    · rename_i hlen
      split at he
      · rename_i fr1 bel1 st2 h1
        split at he
        · rename_i p' f' t' ps' a' b' d' hl1
          split at he
          · rename_i out fr2 bel2 st3 h2
            split at he
            · rename_i s3 p3 f3 t3 ps3 a3 b3 d3 hdefs hl3
              -- what is found
              have hal : (st.get l).alive = true := by rw [hl0]; rfl
              obtain ⟨c, oo, cap, sz, hL, hB⟩ := H.at (St.hp_some hal) hal
              rw [hl0] at hB
              obtain ⟨r, q1, q2, q3, q4, q5, q6, q7, q8, q9, q10, q11, q12⟩ := hB
              obtain ⟨_, ⟨cl, hcl⟩, xs, hxs, hrun⟩ := yield_ok (P := P) hρ hy hL
              have hnd : ∀ cc, o.op ≠ .defer cc := by intro cc hh; rw [hcl] at hh; cases hh
              have hsize : xs.size = r.params.size := by rw [q5]; have := hxs.1; simp at this ⊢; omega
              have hr1 : (execOp F.eval o).run P w = .ok (.round c r.fn ((r.params.zip xs).foldl (fun tmps (t, a) => tmps.setIfInBounds t a) r.tmps) r.assign r.body) w := by rw [hrun]; exact run_yield q1 hsize
              have s1 := st_round (cs := cs) hm ht ho hw (.inr hnd) hr1
              have hz : ((r.params.zip xs).foldl (fun tmps (t, a) => tmps.setIfInBounds t a) r.tmps) = ((ps.zip xs.toList).foldl (fun tmps (t, a) => tmps.setIfInBounds t a) r.tmps) := by
                rw [q5, ← Array.foldl_toList, Array.toList_zip]
              obtain ⟨hT1, hsz1⟩ := setSlots_rel ps args xs.toList t r.tmps q8 hxs hlen q12
              rw [hz, q4, q6, q7] at s1
              generalize hG : Frame.round c f ((ps.zip xs.toList).foldl (fun tmps (t, a) => tmps.setIfInBounds t a) r.tmps) a b .normal = G at s1
              have hGm : G.mode = .run := by rw [← hG]; rfl
              have hGt : G.todo = .code a :: [.beginRound, .code b] := by rw [← hG]; rfl
              have hGk : G.kind = .normal := by rw [← hG]; rfl
              have hGr : G.roundOf = some c := by rw [← hG]; rfl
              have hGs : G.tmps.size = r.tmps.size := by rw [← hG]; exact hsz1
              have hGf : FRel X L w { fn := f, tmps := setSlots t (ps.zip args), defs := [], round := some l } G := by
                refine ⟨by rw [← hG]; rfl, by rw [← hG]; exact hT1, by rw [← hG]; exact .nil, ?_⟩
                exact ⟨c, hGr, .inl ⟨_, _, _, hL⟩⟩
              have same : ∀ {L' : Loc} {w' : World} {stt : St} {s p f t ps a b d}, Ext L w L' w' → HRel X L' stt.hp w' → stt.get l = .loop s p f t ps a b d → L' l = .live c oo cap sz ∧ BRel X L' w' c oo cap sz (.loop s p f t ps a b d) ∧ l < stt.next := by
                intro L' w' stt s p f t ps a b d hE' H' hg
                have hal' : (stt.get l).alive = true := by rw [hg]; rfl
                obtain ⟨c', oo', cap', sz', hL', hB'⟩ := H'.at (St.hp_some hal') hal'
                rw [hg] at hB'
                have e1 := hE'.loc l (by rw [hL]; simp)
                rw [hL, hL'] at e1
                rcases e1 with e1 | e1
                · cases e1; exact ⟨hL', hB', St.alive_lt hal'⟩
                · cases e1
              have main : AllObl st3.obl → ∃ L2 w2 G2, Steps P (lone F cs w) (lone G2 (F :: cs) w2) ∧ Ext L w L2 w2 ∧ HRel X L2 st3.hp w2 ∧ FRel X L2 w2 fr2 G2 ∧ G2.kind = .normal ∧ G2.roundOf = some c ∧ OutR X L2 w2 G2 [] out := by
                intro hoe
                have ho2 : AllObl st2.obl := (ih.adv _ _ _ h2).all hoe
                obtain ⟨L1, w1, G1, cs1, l1, hf1, hb1, o1⟩ := ih.code _ _ _ _ _ h1 X L w G [.beginRound, .code b] (F :: cs) H ho2 hGf hGm hGt (by rw [hGs]; exact q10) hGk
                have hu1 := l1.und
                rw [hGk] at hu1
                have hcs1 := hu1.normal
                subst hcs1
                obtain ⟨o1m, o1t⟩ := o1
                obtain ⟨hL1, hB1, hlt1⟩ := same l1.ext l1.heap hl1
                obtain ⟨r1, u1, u2, u3, u4, u5, u6, u7, u8, u9, u10, u11, u12⟩ := hB1
                have s2 := st_begin (P := P) (cs := F :: cs) o1m o1t (l1.round.trans hGr) u1 u2
                have hput := loop_put l1.heap hL1 u1 { r1 with state := .busy } (x := .loop .busy p' f' t' ps' a' b' d') rfl
                have hE1 : Ext L1 w1 L1 (setLoop w1 c { r1 with state := .busy }) := Ext.put hL1 (by simp [setLoop]) (by intro k hk; simp [setLoop, Array.getElem?_setIfInBounds, Ne.symm hk]) rfl rfl rfl
                obtain ⟨_, H1⟩ := hput ⟨_, setLoop_get u1, rfl, u3, u4, u5, u6, u7, u8.mono hE1, u9, u10, u11, u12⟩
                have H1' : HRel X L1 (st2.put l (.loop .busy p' f' t' ps' a' b' d') 0 whole).hp (setLoop w1 c { r1 with state := .busy }) := by rw [St.put_hp _ _ _ _ _ hlt1]; exact H1
                obtain ⟨L2, w2, G2, cs2, l2, hf2, hb2, o2⟩ := ih.code _ _ _ _ _ h2 X L1 _ { G1 with todo := [.code b] } [] (F :: cs) H1' hoe ((hf1.mono hE1).todo _ _) o1m rfl (by
                  show codeOK G1.tmps.size b = true
                  rw [l1.size, hGs]; exact q11) (l1.kind.trans hGk)
                have hu2 := l2.und
                have hk1 : ({ G1 with todo := [.code b] } : Frame).kind = .normal := l1.kind.trans hGk
                rw [hk1] at hu2
                have hcs2 := hu2.normal
                subst hcs2
                exact ⟨L2, w2, G2, .head s1 (l1.steps.trans (.head s2 l2.steps)), l1.ext.trans (hE1.trans l2.ext), l2.heap, hf2, l2.kind.trans hk1, l2.round.trans (l1.round.trans hGr), o2⟩
              have fin : ∀ (jump : Option Code) (s' : LoopState), s' = (if jump.isNone then .ready else .done) → AllObl st3.obl → (∀ L2 w2 G2, OutR X L2 w2 G2 [] out → G2.mode = .run ∧ ((jump = none ∧ G2.todo = []) ∨ (jump = some .ret ∧ ∃ k, G2.todo = .code .ret :: k) ∨ (∃ i k, jump = some (.exit i) ∧ G2.todo = .code (.exit i) :: k ∧ exitTo i k = none))) →
                  EffOut P X L w F cs ops o rest k fr (.val (.bool jump.isNone) fr bel (st3.put l (.loop s' jump f3 t3 ps3 a3 b3 d3) 0 whole)) := by
                intro jump s' hs' hoe hout
                obtain ⟨L2, w2, G2, t1, t2, t3', t4, t5, t6, t7⟩ := main hoe
                obtain ⟨g1, g2⟩ := hout _ _ _ t7
                obtain ⟨hL2, hB2, hlt2⟩ := same t2 t3' hl3
                obtain ⟨r2, u1, u2, u3, u4, u5, u6, u7, u8, u9, u10, u11, u12⟩ := hB2
                have s3 := st_leave (P := P) (F := F) (cs := cs) g1 t6 t5 u1 g2
                rw [finish_op ht ho] at s3
                have hE2 : Ext L2 w2 L2 (setLoop w2 c { r2 with state := if jump.isNone then .ready else .done, pending := jump }) := Ext.put hL2 (by simp [setLoop]) (by intro k hk; simp [setLoop, Array.getElem?_setIfInBounds, Ne.symm hk]) rfl rfl rfl
                obtain ⟨_, H2⟩ := loop_put t3' hL2 u1 { r2 with state := if jump.isNone then .ready else .done, pending := jump } (x := .loop s' jump f3 t3 ps3 a3 b3 d3) rfl ⟨_, setLoop_get u1, hs'.symm, rfl, u4, u5, u6, u7, u8.mono hE2, u9, u10, u11, u12⟩
                have hE := t2.trans hE2
                refine ⟨rfl, rfl, rfl, .bool jump.isNone, L2, _, F.defers, cs, t1.trans (.one s3), hE, ?_, .bool _, hds.mono hE, hb.mono hE, .refl _ _⟩
                rw [St.put_hp _ _ _ _ _ hlt2]; exact H2
              split at he
              · subst he
                exact fin none .ready rfl (by have hh := hobl _ rfl; exact hh) fun L2 w2 G2 ho2 => ⟨ho2.1, .inl ⟨rfl, ho2.2⟩⟩
              · rename_i ii
                subst he
                exact fin (some (.exit ii)) .done rfl (by have hh := hobl _ rfl; exact hh) fun L2 w2 G2 ho2 => by
                  obtain ⟨g1, j, g2, g3⟩ := ho2
                  exact ⟨g1, .inr (.inr ⟨ii, j ++ [], rfl, g2, by rw [g3]; rfl⟩)⟩
              · subst he
                exact fin (some .ret) .done rfl (by have hh := hobl _ rfl; exact hh) fun L2 w2 G2 ho2 => ⟨ho2.1, .inr (.inl ⟨rfl, ho2.2⟩)⟩
              · rename_i v
                split at he
                · rename_i fn hfn
                  subst he
                  obtain ⟨L2, w2, G2, t1, t2, t3', t4, t5, t6, ch, t7, t8⟩ := main (by have hh := hobl _ rfl; exact hh)
                  have hd2 : G2.defers = [] := by
                    have := t4.defs
                    rw [hdefs] at this
                    generalize G2.defers = ds at this
                    cases this; rfl
                  have hlv : G2.leaving P w2 (.panicked ch) := ⟨t7, hd2, fn, by rw [t4.fn]; exact hT.funcs _ _ hfn⟩
                  have s3 := step_leave_panicked (c := F) (cs := cs) hlv
                  have e2 : F.raise ch = { F with mode := .panicking ch } := by simp [Frame.raise, hm]
                  rw [e2] at s3
                  exact ⟨ch, L2, w2, cs, t1.trans (.one s3), t2, t3', t8, hb.mono t2, .refl _ _⟩
                · subst he; trivial
              · subst he; trivial
            · subst he; trivial
          · subst he; trivial
        · subst he; trivial
      · subst he; trivial
      · subst he; trivial
    · subst he; trivial
  · subst he; trivial
end
end Go.Sy
