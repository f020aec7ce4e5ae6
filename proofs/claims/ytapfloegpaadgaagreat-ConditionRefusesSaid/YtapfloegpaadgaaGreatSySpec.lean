/- What a run of the evaluator from a small state says of all runs. -/
import Derived.Test.YtapfloegpaadgaaGreatSySeat
set_option linter.unusedVariables false
set_option linter.unusedSimpArgs false
namespace Go.Sy

noncomputable def stOf (pre : List Blk) (tape : List (Nat × Ask)) : St := { heap := T.ofList pre, next := pre.length, cost := 0, log := [], tape := tape, obl := [] }
theorem stOf_hp (pre : List Blk) (tape : List (Nat × Ask)) : (stOf pre tape).hp = hpL pre := by
  funext b
  simp only [St.hp, stOf, St.get, T.ofList_get, hpL, blt_dec, Bool.cond_eq_ite, decide_eq_true_eq]
  by_cases h : b < pre.length
  · simp [h]
  · simp [h, List.getElem?_eq_none (Nat.not_lt.1 h)]

noncomputable def endSee (st : St) (sel lend : List Nat) : Out → Option End
  | .done v => some (.ret (seeV st sel lend v))
  | .pan v => some (.pan (seeV st sel lend v))
  | _ => none
noncomputable def outSee (st : St) (sel lend : List Nat) : Out → Option Out
  | .done _ => none
  | .pan v => some (.pan (seeV st sel lend v))
  | o => some o
/-- does the row begin with the first blocks? -/
def headOK : Nat → Nat → List Nat → Bool
  | 0, _, _ => true
  | n + 1, k, x :: r => Nat.beq x k && headOK n (k + 1) r
  | _ + 1, _, [] => false
theorem headOK_at : ∀ (n k : Nat) (l : List Nat), headOK n k l = true → ∀ i, i < n → l[i]? = some (k + i)
  | 0, _, _, _, i, hi => by omega
  | n + 1, k, [], h, i, hi => by simp [headOK] at h
  | n + 1, k, x :: r, h, i, hi => by
    simp only [headOK, Bool.and_eq_true, beq_dec, decide_eq_true_eq] at h
    cases i with
    | zero => simp [h.1]
    | succ i =>
      have := headOK_at n (k + 1) r h.2 i (by omega)
      simp only [List.getElem?_cons_succ, this]
      congr 1
      omega
/-- what is left of a call -/
noncomputable def callOut (e : Ex) (npre : Nat) (sel lend : List Nat) : Option (List Prop × End × List Blk) :=
  match e with
  | .ok r => match endSee r.st sel lend r.out, invBlks r.st (posOf sel 0) sel with
    | some o, some post => bif rhoOK r.st sel lend [] && headOK npre 0 sel then some (r.st.obl, o, post) else none
    | _, _ => none
  | .err _ => none
noncomputable def fragOut (e : Ex) (npre : Nat) (sel lend outs : List Nat) : Option (List Prop × Out × List (Nat × AV) × List Blk) :=
  match e with
  | .ok r => match outSee r.st sel lend r.out, invBlks r.st (posOf sel 0) sel, getSlots r.fr.tmps outs, r.fr.defs, r.fr.round with
    | some o, some post, some vs, [], none => bif rhoOK r.st sel lend [] && headOK npre 0 sel then some (r.st.obl, o, vs.map fun e => (e.1, seeV r.st sel lend e.2), post) else none
    | _, _, _, _, _ => none
  | .err _ => none

section
variable {P : Program} {tb : Tab} {X : Nat → Prop} {L L' : Loc} {w w' : World}
theorem sel_ext {pre : List Blk} {st : St} {sel lend : List Nat} (H0 : HRel X L (hpL pre) w) (H : HRel X L' st.hp w') (hE : Ext L w L' w') (hnd : (sel ++ lend).Nodup) {post : List Blk} (hpost : invBlks st (posOf sel 0) sel = some post) (hhead : headOK pre.length 0 sel = true) :
    Ext L w (lowL L' sel) w' ∧ HRel X (lowL L' sel) (hpL post) w' ∧ ∀ v x, VRel X L' w' v x → VRel X (lowL L' sel) w' (seeV st sel lend v) x := by
  have hsh : ∀ c, X c → lowX X L' sel lend c := fun c h => .inl h
  refine ⟨⟨hE.size, hE.same, fun b hb => ?_, fun c hc => ?_, hE.os, hE.tape, hE.output⟩, (down H hnd hpost).shrink hsh, fun v x hv => (see_rel H hnd hv).lift (.shrink hsh)⟩
  · have hlt : b < pre.length := by
      apply Classical.byContradiction
      intro hh
      exact hb (H0.out b (by simp [hpL, List.getElem?_eq_none (Nat.not_lt.1 hh)]))
    have := headOK_at _ _ _ hhead b hlt
    rw [Nat.zero_add] at this
    rw [lowL_at this]
    exact hE.loc b hb
  · obtain ⟨i, b, o, cap, sz, _, h⟩ := lowL_own hc
    exact hE.own c ⟨b, o, cap, sz, h⟩

/-- as `CallSpec`, and the end is the called function's own -/
def CallSpecF (P : Program) (f : Nat) (args : List AV) (pre : List Blk) (r : End) (post : List Blk) : Prop := ∀ (X : Nat → Prop) (L : Loc) (w : World) (xs : Array Value) (cs : List Frame), HRel X L (hpL pre) w → VRels X L w args xs.toList →
  ∃ L' w' F', Steps P (lone (Frame.enter P f xs .normal) cs w) (lone F' cs w') ∧ Ext L w L' w' ∧ HRel X L' (hpL post) w' ∧ F'.fn = f ∧ F'.kind = .normal ∧ LeaveR P X L' w' F' (endOut r)
theorem CallSpecF.spec {f : Nat} {args : List AV} {pre : List Blk} {r : End} {post : List Blk} (h : CallSpecF P f args pre r post) : CallSpec P f args pre r post := by
  intro X L w xs cs H hxs
  obtain ⟨L', w', F', h1, h2, h3, _, h5, h6⟩ := h X L w xs cs H hxs
  exact ⟨L', w', F', h1, h2, h3, h5, h6⟩
theorem call_specF (S : SeatOK P tb) {n f : Nat} {args : List AV} {pre : List Blk} {tape : List (Nat × Ask)} {sel lend : List Nat} {ps : List Prop} {e : End} {post : List Blk}
    (h : callOut (ev tb n (.call f args .none) (stOf pre tape)) pre.length sel lend = some (ps, e, post)) (ho : AllObl ps) : CallSpecF P f args pre e post := by
  intro X L w xs cs H hxs
  unfold callOut at h
  split at h
  · rename_i r hr
    split at h
    · rename_i o post0 h1 h2
      rw [Bool.cond_eq_ite] at h
      split at h
      · rename_i hc
        cases h
        simp only [Bool.and_eq_true] at hc
        obtain ⟨hnd, _, _, _⟩ := rhoOK_inv hc.1
        obtain ⟨L1, w1, F1, cs1, s1, hE, hH, hfn, hk, hu, _, hl⟩ := (ev_ok S n).call _ _ _ _ _ hr X L w xs .normal cs (by rw [stOf_hp]; exact H) ho hxs rfl
        have hcs := hu.normal
        subst hcs
        obtain ⟨q1, q2, q3⟩ := sel_ext H hH hE hnd h2 hc.2
        refine ⟨_, w1, F1, s1, q1, q2, hfn, hk, ?_⟩
        obtain ⟨out, fr, bel, st⟩ := r
        cases out with
        | done v =>
          simp only [endSee, Option.some.injEq] at h1
          subst h1
          obtain ⟨a1, a2, a3, fn, a4, x, a5, a6⟩ := hl
          exact ⟨a1, a2, a3, fn, a4, x, a5, q3 _ _ a6⟩
        | pan v =>
          simp only [endSee, Option.some.injEq] at h1
          subst h1
          obtain ⟨ch, a1, a2, a3, a4, y, older, b1, b2, b3⟩ := hl
          exact ⟨ch, a1, a2, a3, a4, y, older, b1, b2, q3 _ _ b3⟩
        | _ => simp [endSee] at h1
      · cases h
    · cases h
  · cases h

theorem call_spec (S : SeatOK P tb) {n f : Nat} {args : List AV} {pre : List Blk} {tape : List (Nat × Ask)} {sel lend : List Nat} {ps : List Prop} {e : End} {post : List Blk}
    (h : callOut (ev tb n (.call f args .none) (stOf pre tape)) pre.length sel lend = some (ps, e, post)) (ho : AllObl ps) : CallSpec P f args pre e post := (call_specF S h ho).spec

theorem frag_spec (S : SeatOK P tb) {n fn : Nat} {c : Code} {slots outs : List (Nat × AV)} {pre : List Blk} {tape : List (Nat × Ask)} {sel lend os : List Nat} {ps : List Prop} {out : Out} {post : List Blk}
    (h : fragOut (ev tb n (.code c { fn := fn, tmps := setSlots .nil slots, defs := [], round := none } .none) (stOf pre tape)) pre.length sel lend os = some (ps, out, outs, post)) (ho : AllObl ps) : FragSpec P fn c slots pre out outs post := by
  intro X L w F k cs H hfn hdf hrd hk hm ht hc hslots
  unfold fragOut at h
  split at h
  · rename_i r hr
    split at h
    · rename_i o post0 vs h1 h2 h3 hd0 hr0
      rw [Bool.cond_eq_ite] at h
      split at h
      · rename_i hcc
        cases h
        simp only [Bool.and_eq_true] at hcc
        obtain ⟨hnd, _, _, _⟩ := rhoOK_inv hcc.1
        have hf : FRel X L w { fn := fn, tmps := setSlots .nil slots, defs := [], round := none } F := by
          refine ⟨hfn, fun i v hi => ?_, by rw [hdf]; exact .nil, hrd⟩
          rcases setSlots_at _ _ _ _ hi with hi | hi
          · exact hslots _ hi
          · rw [T.get?_nil] at hi; cases hi
        obtain ⟨L1, w1, F1, cs1, l1, hf1, hb1, o1⟩ := (ev_ok S n).code _ _ _ _ _ hr X L w F k cs (by rw [stOf_hp]; exact H) ho hf hm ht hc hk
        have hu := l1.und
        rw [hk] at hu
        have hcs := hu.normal
        subst hcs
        obtain ⟨q1, q2, q3⟩ := sel_ext H l1.heap l1.ext hnd h2 hcc.2
        refine ⟨_, w1, F1, l1.steps, q1, q2, l1.fn.trans hfn, l1.kind.trans hk, l1.round.trans hrd, l1.size, ?_, fun e he => ?_, ?_⟩
        · have := hf1.defs
          rw [hd0] at this
          generalize F1.defers = ds at this
          cases this; rfl
        · obtain ⟨e0, he0, rfl⟩ := List.mem_map.1 he
          obtain ⟨x, hx, hv⟩ := hf1.tmps _ _ (getSlots_at _ _ h3 e0 he0)
          exact ⟨x, hx, q3 _ _ hv⟩
        · obtain ⟨ro, fr, bel, st⟩ := r
          cases ro with
          | norm => simp only [outSee, Option.some.injEq] at h1; subst h1; exact o1
          | exit i => simp only [outSee, Option.some.injEq] at h1; subst h1; exact o1
          | ret => simp only [outSee, Option.some.injEq] at h1; subst h1; exact o1
          | pan v =>
            simp only [outSee, Option.some.injEq] at h1
            subst h1
            obtain ⟨ch, a1, y, older, b1, b2, b3⟩ := o1
            exact ⟨ch, a1, y, older, b1, b2, q3 _ _ b3⟩
          | done v => simp [outSee] at h1
      · cases h
    · cases h
  · cases h

/-- a round, and the rounds behind it -/
theorem loop_more {fn : Nat} {b : Code} {s0 s1 s2 : List (Nat × AV)} {p0 p1 p2 : List Blk} {out : Out} (h1 : FragSpec P fn b s0 p0 .norm s1 p1) (h2 : FragSpec P fn (.loop b) s1 p1 out s2 p2) : FragSpec P fn (.loop b) s0 p0 out s2 p2 := by
  intro X L w F k cs H hfn hdf hrd hk hm ht hc hslots
  have s0' := st_loop (P := P) (cs := cs) (w := w) hm ht
  have hc' : codeOK F.tmps.size b = true := by simpa only [codeOK] using hc
  obtain ⟨L1, w1, F1, t1, t2, t3, t4, t5, t6, t7, t8, t9, om, ot⟩ := h1 X L w { F with todo := .code b :: .inLoop b :: k } (.inLoop b :: k) cs H hfn hdf hrd hk hm rfl hc' hslots
  obtain ⟨L2, w2, F2, u1, u2, u3, u4, u5, u6, u7, u8, u9, o2⟩ := h2 X L1 w1 { F1 with todo := .code (.loop b) :: k } k cs t3 t4 t8 t6 t5 om rfl (by show codeOK F1.tmps.size (.loop b) = true; rw [t7]; exact hc) t9
  have hne : lone { F1 with todo := .code (.loop b) :: k } cs w1 ≠ lone F2 cs w2 := by
    intro e
    have e := lone_frame e
    rw [← e] at o2
    cases out with
    | norm => have := congrArg List.length o2.2; simp at this
    | exit i => obtain ⟨_, j, q, _⟩ := o2; cases q
    | ret => obtain ⟨_, j, q⟩ := o2; cases q
    | pan v => obtain ⟨ch, q, _⟩ := o2; rw [show ({ F1 with todo := .code (.loop b) :: k } : Frame).mode = F1.mode from rfl, om] at q; cases q
    | done v => exact o2
  have sA := st_loop (P := P) (F := { F1 with todo := .code (.loop b) :: k }) (cs := cs) (w := w1) om rfl
  have sB := st_inLoop (P := P) (cs := cs) (w := w1) om ot
  have steps2 : Steps P (lone F1 cs w1) (lone F2 cs w2) := .head sB (steps_later u1 sA hne)
  exact ⟨L2, w2, F2, .head s0' (t1.trans steps2), t2.trans u2, u3, u4, u5, u6, u7.trans t7, u8, u9, o2⟩
/-- a round that leaves the loop -/
theorem loop_last {fn : Nat} {b : Code} {s0 s1 : List (Nat × AV)} {p0 p1 : List Blk} {out : Out} (h1 : FragSpec P fn b s0 p0 out s1 p1) (hn : out ≠ .norm) : FragSpec P fn (.loop b) s0 p0 out s1 p1 := by
  intro X L w F k cs H hfn hdf hrd hk hm ht hc hslots
  have s0' := st_loop (P := P) (cs := cs) (w := w) hm ht
  have hc' : codeOK F.tmps.size b = true := by simpa only [codeOK] using hc
  obtain ⟨L1, w1, F1, t1, t2, t3, t4, t5, t6, t7, t8, t9, o⟩ := h1 X L w { F with todo := .code b :: .inLoop b :: k } (.inLoop b :: k) cs H hfn hdf hrd hk hm rfl hc' hslots
  refine ⟨L1, w1, F1, .head s0' t1, t2, t3, t4, t5, t6, t7, t8, t9, ?_⟩
  cases out with
  | norm => exact absurd rfl hn
  | exit i =>
    obtain ⟨q1, j, q2, q3⟩ := o
    exact ⟨q1, j ++ [.inLoop b], by rw [q2]; simp, fun k => by rw [List.append_assoc, q3]; simp [exitTo]⟩
  | ret => exact o
  | pan v => exact o
  | done v => exact o

/-- blocks let go -/
theorem frag_drop {fn : Nat} {c : Code} {s0 s1 : List (Nat × AV)} {p0 p1 p2 : List Blk} {out : Out} (h : FragSpec P fn c s0 p0 out s1 p1) (hh : ∀ i : Nat, p2[i]? = p1[i]? ∨ (p2[i]? = some .dead ∧ p1[i]? ≠ none)) : FragSpec P fn c s0 p0 out s1 p2 := by
  intro X L w F k cs H hfn hdf hrd hk hm ht hc hslots
  obtain ⟨L1, w1, F1, t1, t2, t3, t4, t5, t6, t7, t8, t9, o⟩ := h X L w F k cs H hfn hdf hrd hk hm ht hc hslots
  obtain ⟨lft, hE⟩ := t3.dropExt (h' := hpL p2) hh
  refine ⟨_, w1, F1, t1, t2.trans hE, t3.drop hh, t4, t5, t6, t7, t8, fun e he => ?_, ?_⟩
  · obtain ⟨x, hx, hv⟩ := t9 e he
    exact ⟨x, hx, hv.lift lft⟩
  · cases out with
    | norm => exact o
    | exit i => exact o
    | ret => exact o
    | pan v =>
      obtain ⟨ch, q1, q2⟩ := o
      exact ⟨ch, q1, q2.lift lft⟩
    | done v => exact o
end
end Go.Sy
