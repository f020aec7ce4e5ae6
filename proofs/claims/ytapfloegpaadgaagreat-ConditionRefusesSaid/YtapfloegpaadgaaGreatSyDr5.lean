/- A region that draws its order: all of its steps. -/
import Derived.Test.YtapfloegpaadgaaGreatSyDr4
set_option linter.unusedVariables false
set_option linter.unusedSimpArgs false
namespace Go.Sy

structure Ro (ops : List Oper) (an : List Nat) (rest : List Nat) : Prop where
  nod : rest.Nodup
  ord : rest.Pairwise fun a b => bit an a b = false
  eff : ∀ a i b, rest = a ++ i :: b → ∀ o, ops[i]? = some o → opKd o.op = .eff → ∀ x ∈ a, bit an i x = true
theorem Ro.tail {ops : List Oper} {an : List Nat} {i : Nat} {rest : List Nat} (h : Ro ops an (i :: rest)) : Ro ops an rest :=
  ⟨(List.nodup_cons.1 h.nod).2, (List.pairwise_cons.1 h.ord).2, fun a j b he o ho hk x hx => h.eff (i :: a) j b (by rw [he]; rfl) o ho hk x (List.mem_cons_of_mem _ hx)⟩
theorem Ro.suffix {ops : List Oper} {an : List Nat} {rest : List Nat} : ∀ {a : List Nat}, Ro ops an (a ++ rest) → Ro ops an rest
  | [], h => h
  | _ :: _, h => Ro.suffix h.tail
def NonEff (ops : List Oper) (i : Nat) : Prop := ∀ o, ops[i]? = some o → opKd o.op ≠ .eff

section
variable {tb : Tab} {rec : Cmd → St → Ex} {ops : List Oper} {an : List Nat}
theorem DR.sub {l : List Nat} {acc : List (Nat × Log)} {fr : Fr} {bel : Below} {st : St} {r : Res} {es : List En} (h : DR tb rec ops an l acc fr bel st r es) : (es.map (·.i)).Sublist l := by
  induction h with
  | nil => exact .slnil
  | non ho h h2 h3 ih => exact .cons_cons _ ih
  | eff ho hw hk he hob ht hkeep h2 h3 ih => exact .cons_cons _ ih
  | pan ho hw hk he hob h2 h3 h4 => rw [h4]; exact .cons _ List.filter_sublist
theorem DR.row {l : List Nat} {acc : List (Nat × Log)} {fr : Fr} {bel : Below} {st : St} {r : Res} {es : List En} (h : DR tb rec ops an l acc fr bel st r es) (ro : Ro ops an l) : Row an es := by
  have hs := h.sub
  have h1 := ro.ord.sublist hs
  rw [List.pairwise_map] at h1
  exact ⟨h1, ro.nod.sublist hs⟩
theorem DR.find {l : List Nat} {acc : List (Nat × Log)} {fr : Fr} {bel : Below} {st : St} {r : Res} {es : List En} (h : DR tb rec ops an l acc fr bel st r es) {j : Nat} (hj : j ∈ l) (hn : NonEff ops j) :
    (∃ e ∈ es, e.i = j) ∨ ∃ m ∈ l, ¬ NonEff ops m ∧ bit an j m = true := by
  induction h with
  | nil => cases hj
  | @non _ _ _ _ _ i o v blk rest r es ho h h2 h3 ih =>
    rcases List.mem_cons.1 hj with rfl | hj
    · exact .inl ⟨_, List.mem_cons_self .., rfl⟩
    · rcases ih hj with ⟨e, he, h⟩ | ⟨m, hm, h⟩
      · exact .inl ⟨e, List.mem_cons_of_mem _ he, h⟩
      · exact .inr ⟨m, List.mem_cons_of_mem _ hm, h⟩
  | @eff _ _ _ _ _ _ _ _ i o v rest r es ho hw hk he hob ht hkeep h2 h3 ih =>
    rcases List.mem_cons.1 hj with rfl | hj
    · exact .inl ⟨_, List.mem_cons_self .., rfl⟩
    · rcases ih hj with ⟨e, he, h⟩ | ⟨m, hm, h⟩
      · exact .inl ⟨e, List.mem_cons_of_mem _ he, h⟩
      · exact .inr ⟨m, List.mem_cons_of_mem _ hm, h⟩
  | @pan _ _ _ _ _ _ _ i o v rest es ho hw hk he hob h2 h3 h4 =>
    rcases List.mem_cons.1 hj with rfl | hj
    · exact absurd hk (hn o ho)
    · cases hb : bit an j i with
      | true => exact .inr ⟨i, List.mem_cons_self .., fun hh => hh o ho hk, hb⟩
      | false =>
        have : j ∈ es.map (·.i) := by rw [h4]; exact List.mem_filter.2 ⟨hj, by simp [hb]⟩
        obtain ⟨e, he, hh⟩ := List.mem_map.1 this
        exact .inl ⟨e, he, hh⟩
end

theorem restrict (t : T AV) : ∀ (l : List Nat), ∃ t' : T AV, (∀ i ∈ l, t'.get? i = t.get? i) ∧ ∀ i, i ∉ l → t'.get? i = none
  | [] => ⟨.nil, (fun i hi => by cases hi), fun i _ => T.get?_nil i⟩
  | j :: l => by
    obtain ⟨t', h1, h2⟩ := restrict t l
    refine ⟨t'.set j (t.get? j), fun i hi => ?_, fun i hi => ?_⟩
    · rw [T.get?_set]
      split
      · rename_i e; rw [e]
      · rename_i e
        rcases List.mem_cons.1 hi with h | h
        · exact absurd h e
        · exact h1 i h
    · rw [T.get?_set, if_neg (fun e : i = j => hi (by rw [e]; exact List.mem_cons_self ..))]
      exact h2 i fun h => hi (List.mem_cons_of_mem _ h)

theorem drop_get (ops : List Oper) : ∀ (l : List Nat) (t : T AV) (i : Nat) (v : AV), (dropSlots ops l t).get? i = some v → t.get? i = some v ∧ ∀ j ∈ l, dstOf ops j ≠ some i := by
  intro l
  induction l with
  | nil => intro t i v h; exact ⟨h, fun j hj => by cases hj⟩
  | cons j l ih =>
    intro t i v h
    have e : dropSlots ops (j :: l) t = dropSlots ops l (match dstOf ops j with | some d => t.set d none | none => t) := rfl
    rw [e] at h
    obtain ⟨h1, h2⟩ := ih _ i v h
    cases hd : dstOf ops j with
    | none =>
      rw [hd] at h1
      refine ⟨h1, fun q hq => ?_⟩
      rcases List.mem_cons.1 hq with rfl | hq
      · rw [hd]; simp
      · exact h2 q hq
    | some d =>
      rw [hd] at h1
      simp only [T.get?_set] at h1
      split at h1
      · cases h1
      · rename_i hne
        refine ⟨h1, fun q hq => ?_⟩
        rcases List.mem_cons.1 hq with rfl | hq
        · rw [hd]; intro hh; cases hh; exact hne rfl
        · exact h2 q hq

section
variable {P : Program} {tb : Tab} {rec : Cmd → St → Ex} {ops : Array Oper} {an : List Nat} {X : Nat → Prop}

def MainR (P : Program) (X : Nat → Prop) (k : List Item) (r : Res) (L M : Loc) (w : World) (F : Frame) (cs : List Frame) : Prop :=
  ∃ L' w' F' cs', Steps P (lone F cs w) (lone F' cs' w') ∧ ExtM L M w L' w' ∧ HRel X L' r.st.hp w' ∧ F'.fn = F.fn ∧ F'.kind = F.kind ∧ F'.roundOf = F.roundOf ∧ F'.tmps.size = F.tmps.size ∧ Unders F.kind cs cs' ∧
        FRel X L' w' r.fr F' ∧ BelR X L' w' r.bel F.kind cs' ∧ OutR X L' w' F' k r.out
theorem integrate_all {s : List Nat} {w : World} {F : Frame} {kd : CallKind} {cs : List Frame} {r : Res} {bel : Below} {acc : List (Nat × Log)} : ∀ (a rest2 : List Nat) (fr : Fr) (st : St) (es : List En) (L M : Loc),
    DR tb rec ops.toList an (a ++ rest2) acc fr bel st r es → Ro ops.toList an (a ++ rest2) → (∀ x ∈ a, x ∉ s ∧ NonEff ops.toList x) → Inv ops.toList an X s es fr st L M w F → BelR (Xn X M st.next) L w bel kd cs →
    ∃ fr2 st2 es2 L2 M2, DR tb rec ops.toList an rest2 acc fr2 bel st2 r es2 ∧ Inv ops.toList an X s es2 fr2 st2 L2 M2 w F ∧ BelR (Xn X M2 st2.next) L2 w bel kd cs ∧ ∀ L' w', ExtM L2 M2 w L' w' → ExtM L M w L' w' := by
  intro a
  induction a with
  | nil => intro rest2 fr st es L M h _ _ I hb; exact ⟨fr, st, es, L, M, h, I, hb, fun _ _ h => h⟩
  | cons x a iha =>
    intro rest2 fr st es L M h ro hx I hb
    obtain ⟨hxs, hxn⟩ := hx x (List.mem_cons_self ..)
    have hmo := h.ch.mono
    cases h with
    | @non _ _ _ _ st' _ o v blk _ _ es ho hns h2 h3 =>
      rw [List.pairwise_cons] at hmo
      obtain ⟨e1, e2, e3, e4⟩ := put_fr fr o.dst v
      obtain ⟨L1, M1, I1, g1, g2, g3, g4⟩ := integrate (e := ⟨x, v, st.next, blk⟩) (fr' := fr.put o.dst v) (st' := st') I hxs rfl (put_tmps ho v) e2 e3 e4 h2 hmo.1.1
      obtain ⟨fr2, st2, es2, L2, M2, k1, k2, k3, k4⟩ := iha rest2 _ _ _ _ _ h3 ro.tail (fun y hy => hx y (List.mem_cons_of_mem _ hy)) I1 (hb.lift g4)
      exact ⟨fr2, st2, es2, L2, M2, k1, k2, k3, fun L' w' hh => (k4 L' w' hh).take g1 g2 g3⟩
    | eff ho hw hk _ _ _ _ _ _ => exact absurd hk (hxn _ ho)
    | pan ho hw hk _ _ _ _ _ => exact absurd hk (hxn _ ho)

theorem core_ops (pl : Pl ops.toList an) {s : List Nat} {j : Nat} {es : List En} {fr : Fr} {st : St} {L M : Loc} {w : World} {F : Frame} (I : Inv ops.toList an X (j :: s) es fr st L M w F) (hord : ∀ p ∈ es, p.i ∉ j :: s → bit an j p.i = false) {o : Oper} (ho : ops.toList[j]? = some o) :
    ∀ t ∈ readsOf ops.toList o, ∀ v, fr.tmps.get? t = some v → ∃ x, F.tmps[t]? = some x ∧ VRel (Xn X M st.next) L w v x := by
  intro t ht v hv
  refine I.slots t v hv fun p hp hps hpt => ?_
  rcases pl.reads _ _ _ _ ho hpt ht with h | h
  · rw [hord p hp hps] at h; cases h
  · rw [I.closed p hp hps j (List.mem_cons_self ..)] at h; cases h

theorem draw_main (ih : RecOK P rec) (hT : TabOK P tb) (hF : FieldsOK tb) (hS : SpecOK P tb) (hfun : ∀ f args b s r, rec (.call f args b) s = .ok r → ∃ fn, tb.funcs.get? f = some fn ∧ fn.body.isSome = true) (pl : Pl ops.toList an) {k : List Item} :
    ∀ (s rest : List Nat) (acc : List (Nat × Log)) (fr : Fr) (bel : Below) (st : St) (r : Res) (es : List En) (L M : Loc) (w : World) (F : Frame) (cs : List Frame), DR tb rec ops.toList an rest acc fr bel st r es → Ro ops.toList an rest →
      s.Nodup → s.Pairwise (fun a b => bit an a b = false) → (∀ j ∈ s, j ∈ rest) → (∀ i ∈ rest, i ∉ s → NonEff ops.toList i) → Inv ops.toList an X s es fr st L M w F → F.mode = .run → F.todo = .inRegion ops s :: k →
      (∀ o ∈ ops.toList, ∀ d, o.dst = some d → d < F.tmps.size) → BelR (Xn X M st.next) L w bel F.kind cs →
      MainR P X k r L M w F cs := by
  intro s
  induction s with
  | nil =>
    intro rest acc fr bel st r es L M w F cs hd ro _ _ _ hne I hm ht _ hb
    obtain ⟨fr2, st2, es2, L2, M2, k1, k2, k3, k4⟩ := integrate_all rest [] fr st es L M (by rw [List.append_nil]; exact hd) (by rw [List.append_nil]; exact ro) (fun x hx => ⟨by simp, hne x hx (by simp)⟩) I hb
    cases k1
    have hsh : ∀ c, X c → Xn X M2 st2.next c := fun c hc => .inl hc
    have hst : step P (lone F cs w) = .next (lone { F with todo := k } cs w) := step_lone_go (by simp [stepG, stepG.exec, hm, ht])
    refine ⟨L2, w, { F with todo := k }, cs, .one hst, k4 _ _ (.refl _ _ _), k2.heap.shrink hsh, rfl, rfl, rfl, rfl, .refl _ _, ⟨k2.fn, fun t v hv => ?_, k2.defs.lift (.shrink hsh), k2.round⟩, k3.lift (.shrink hsh), hm, rfl⟩
    obtain ⟨x, hx, hxv⟩ := k2.slots t v hv (fun p hp => by cases hp)
    exact ⟨x, hx, hxv.lift (.shrink hsh)⟩
  | cons j s ihs =>
    intro rest acc fr bel st r es L M w F cs hd ro hnd hpw hin hne I hm ht hsz hb
    rw [List.nodup_cons] at hnd
    rw [List.pairwise_cons] at hpw
    have hjr := hin j (List.mem_cons_self ..)
    by_cases hje : NonEff ops.toList j
    · -- ahead of its turn
      have hj : ∃ e ∈ es, e.i = j := by
        rcases hd.find hjr hje with h | ⟨m, hmr, hmn, hmb⟩
        · exact h
        · exfalso
          have hms : m ∈ j :: s := by
            apply Classical.byContradiction
            intro hh
            exact hmn (hne m hmr hh)
          rcases List.mem_cons.1 hms with rfl | hms
          · exact hmn hje
          · rw [hpw.1 m hms] at hmb; cases hmb
      obtain ⟨e, hes, rfl⟩ := hj
      obtain ⟨pre, post, rfl⟩ := List.append_of_mem hes
      have hsub := hd.sub
      obtain ⟨M1, w1, x, o, ho, hstep, I1, q1, q2, q3, q4, q5, q6, q7⟩ := early_step (P := P) (cs := cs) hT hF pl rfl (hd.row ro) hd.ch I hpw.1 hnd.1 hje
        (fun p hp hps => hne p.i (hsub.subset (List.mem_map.2 ⟨p, hp, rfl⟩)) hps) hm ht hsz
      obtain ⟨L', w', F', cs', t1, t2, t3, t4, t5, t6, t7, t8, t9, t10, t11⟩ := ihs rest acc fr bel st r _ L M1 w1 _ cs hd ro hnd.2 hpw.2 (fun i hi => hin i (List.mem_cons_of_mem _ hi)) (fun i hi his => by
        by_cases hie : i = e.i
        · rw [hie]; exact hje
        · exact hne i hi (by rw [List.mem_cons]; rintro (h | h); exact hie h; exact his h)) I1 hm rfl (fun o' ho' d hd' => by simp only [putT_size]; exact hsz o' ho' d hd') (hb.lift q7)
      refine ⟨L', w', F', cs', .head hstep t1, t2.early q1 q2 q3 q4 q5 q6, t3, t4, t5, t6, ?_, t8, t9, t10, t11⟩
      rw [t7]; exact putT_size _ _ _
    · -- its turn
      obtain ⟨a, b, rfl⟩ := List.append_of_mem hjr
      have hjo : ∃ o, ops.toList[j]? = some o ∧ opKd o.op = .eff := by
        apply Classical.byContradiction
        intro hh
        exact hje fun o ho hk => hh ⟨o, ho, hk⟩
      obtain ⟨o, ho, hk⟩ := hjo
      have ho2 : ops[j]? = some o := by rw [← Array.getElem?_toList]; exact ho
      have hanc := ro.eff a j b rfl o ho hk
      have hnod := ro.nod
      rw [List.nodup_append, List.nodup_cons] at hnod
      have has : ∀ x ∈ a, x ∉ j :: s := by
        intro x hx hh
        rcases List.mem_cons.1 hh with rfl | hh
        · exact hnod.2.2 x hx x (List.mem_cons_self ..) rfl
        · have := hanc x hx; rw [hpw.1 x hh] at this; cases this
      let L0 := L
      let M0 := M
      obtain ⟨fr, st, es, L2, M, hd, I, hb, hext⟩ := integrate_all a (j :: b) fr st es L M hd ro (fun x hx => ⟨has x hx, hne x (List.mem_append.2 (.inl hx)) (has x hx)⟩) I hb
      have ro2 : Ro ops.toList an (j :: b) := ro.suffix
      have hrow := hd.row ro2
      have hmo := hd.ch.mono
      have hdj : ∀ d, dstOf ops.toList j = some d → d < F.tmps.size := by
        intro d hdd
        rw [dstOf, ho] at hdd
        exact hsz o (List.mem_of_getElem? ho) d hdd
      have hdo : dstOf ops.toList j = o.dst := by simp [dstOf, ho]
      have hin2 : ∀ i ∈ s, i ∈ b := by
        intro i hi
        have h1 := hin i (List.mem_cons_of_mem _ hi)
        rcases List.mem_append.1 h1 with h | h
        · exact absurd (List.mem_cons_of_mem _ hi) (has i h)
        · rcases List.mem_cons.1 h with rfl | h
          · exact absurd hi hnd.1
          · exact h
      have hne2 : ∀ i ∈ b, i ∉ s → NonEff ops.toList i := by
        intro i hi his
        refine hne i (List.mem_append.2 (.inr (List.mem_cons_of_mem _ hi))) ?_
        rw [List.mem_cons]
        rintro (rfl | h)
        · exact hnod.2.1.1 hi
        · exact his h
      -- behind it
      have behind : ∀ {v : AV} {x : Value} {fr2 : Fr} {st2 : St} {L3 : Loc} {w3 : World} {ds : List Deferred} {cs3 : List Frame} {bel2 : Below} {acc2 : List (Nat × Log)} {es2 : List En}, Inv ops.toList an X (j :: s) (⟨j, v, st.next, none⟩ :: es2) fr st L2 M w F → Row an (⟨j, v, st.next, none⟩ :: es2) →
          DR tb rec ops.toList an b acc2 fr2 bel2 st2 r es2 → Steps P (lone F cs w) (lone { F with tmps := putT F.tmps o.dst x, todo := .inRegion ops s :: k, defers := ds } cs3 w3) → Ext L2 w L3 w3 → HRel (Xn X M st.next) L3 st2.hp w3 → st.next ≤ st2.next →
          VRel (Xn X M st.next) L3 w3 v x → fr2.tmps = putA fr.tmps (dstOf ops.toList j) v → fr2.fn = fr.fn → fr2.round = fr.round → DRels (Xn X M st.next) L3 w3 fr2.defs ds → BelR (Xn X M st.next) L3 w3 bel2 F.kind cs3 → Unders F.kind cs cs3 →
          MainR P X k r L2 M w F cs := by
        intro v x fr2 st2 L3 w3 ds cs3 bel2 acc2 es2 I hrow hd2 hsteps hE hH hnx hv h1 h2 h3 hds hb3 hu
        have I2 := core_step (F := F) (fr2 := fr2) (st2 := st2) (F2 := { F with tmps := putT F.tmps o.dst x, todo := .inRegion ops s :: k, defers := ds }) pl I hrow hpw.1 rfl hE hH hnx (hd2.ch.mono.2) hv h1 h2 h3 hds rfl rfl (by rw [hdo]) hdj
        obtain ⟨L', w', F', cs', t1, t2, t3, t4, t5, t6, t7, t8, t9, t10, t11⟩ := ihs b acc2 fr2 bel2 st2 r es2 L3 M w3 _ cs3 hd2 ro2.tail hnd.2 hpw.2 hin2 hne2 I2 hm rfl (fun o' ho' d hd' => by simp only [putT_size]; exact hsz o' ho' d hd') (hb3.lift (.shrink fun c => Xn_mono hnx))
        refine ⟨L', w', F', cs', hsteps.trans t1, t2.core hE, t3, t4, t5, t6, ?_, hu.trans t8, t9, t10, t11⟩
        rw [t7]; exact putT_size _ _ _
      have hordE : ∀ {es2 : List En} {v : AV}, Row an (⟨j, v, st.next, none⟩ :: es2) → ∀ p ∈ (⟨j, v, st.next, none⟩ : En) :: es2, p.i ∉ j :: s → bit an j p.i = false := by
        intro es2 v hrow p hp hps
        rcases List.mem_cons.1 hp with rfl | hp
        · exact absurd (List.mem_cons_self ..) hps
        · exact (List.pairwise_cons.1 hrow.ord).1 p hp
      -- what it looks at
      obtain ⟨T', hT1, hT2⟩ := restrict fr.tmps (readsOf ops.toList o)
      have hag : ∀ x ∈ o.op.operands, fr.eval x = ({ fr with tmps := T' } : Fr).eval x := by
        intro x hx
        cases x with
        | tmp t =>
          have : t ∈ readsOf ops.toList o := List.mem_append.2 (.inl (List.mem_filterMap.2 ⟨.tmp t, Array.mem_toList_iff.2 hx, rfl⟩))
          simp only [Fr.eval, Fr.slot]
          rw [hT1 t this]
        | _ => rfl
      have hrel : ∀ {es : List En}, (∀ t ∈ readsOf ops.toList o, ∀ v, fr.tmps.get? t = some v → ∃ x, F.tmps[t]? = some x ∧ VRel (Xn X M st.next) L2 w v x) → OpRel (Xn X M st.next) L2 w ({ fr with tmps := T' } : Fr).eval F.eval := by
        intro es hops x
        cases x with
        | tmp t =>
          simp only [Fr.eval, Fr.slot, Frame.eval]
          cases hg : T'.get? t with
          | none => exact .junk _
          | some v =>
            have htm : t ∈ readsOf ops.toList o := by
              apply Classical.byContradiction
              intro hh
              rw [hT2 t hh] at hg; cases hg
            obtain ⟨y, hy, hv⟩ := hops t htm v (by rw [← hT1 t htm]; exact hg)
            simp only [Option.getD_some, Array.getD_eq_getD_getElem?, hy]
            exact hv
        | const v => exact .const ..
        | global g => exact .junk _
        | func f => exact .fn rfl rfl (fun j v x h => by simp at h) (fun j v x h => by simp at h)
      have want : ∀ bb, (∀ t ∈ readsOf ops.toList o, ∀ v, fr.tmps.get? t = some v → ∃ x, F.tmps[t]? = some x ∧ VRel (Xn X M st.next) L2 w v x) → wantedA o ops.toList fr = some bb → Region.wanted o (yielded ops F.tmps) = bb := by
        intro bb hops hw
        exact wanted_ok hw fun g wnt d hg hgd v hv => hops d (List.mem_append.2 (.inr (by rw [hg]; simp [hgd]))) v hv
      have hwrap : MainR P X k r L2 M w F cs → MainR P X k r L0 M0 w F cs := fun ⟨L', w', F', cs', t1, t2, t⟩ => ⟨L', w', F', cs', t1, hext _ _ t2, t⟩
      apply hwrap
      cases hd with
      | @non _ _ _ _ st' _ o' v blk _ _ es2 ho' hns h2 h3 =>
        rw [ho] at ho'
        cases ho'
        cases hns with
        | @skip o' ho' hw =>
          rw [ho] at ho'
          cases ho'
          have hops := core_ops pl I (hordE hrow) ho
          have hst := st_skipped (P := P) (cs := cs) (w := w) hm ht ho2 (want _ hops hw)
          obtain ⟨e1, e2, e3, e4⟩ := put_fr fr o.dst undefA
          exact behind I hrow h3 (.one hst) (.refl _ _) (by rw [h2.hp]; exact I.heap) (by rw [h2.next]; exact Nat.le_refl _) undef_rel (put_tmps ho _) e2 e4 (by rw [e3]; exact I.defs) hb (.refl _ _)
        | @val o' _ ho' hw hk' _ _ => rw [ho] at ho'; cases ho'; rw [hk] at hk'; cases hk'
        | @new o' _ _ ho' hw hk' _ => rw [ho] at ho'; cases ho'; rw [hk] at hk'; cases hk'
      | @eff _ _ fr1 _ bel1 _ st1 st' _ o' v _ _ es2 ho' hw hk' he hob htm hkeep h2 h3 =>
        rw [ho] at ho'
        cases ho'
        have hops := core_ops pl I (hordE hrow) ho
        have he' := evEff_tmps (tb := tb) (rec := rec) (bel := bel) (st := { st with log := [] }) hag
        rw [he] at he'
        have := eff_ok ih hT hS he' (fun s' hs' => by cases hs'; exact hob) hfun hm ht ho2 (want _ hops hw) (L := L2) (w := w) (cs := cs) (X := Xn X M st.next) (by rw [hp_log]; exact I.heap) I.defs
          (fun hr => by have := I.round; unfold RoundR at this; have hr' : fr.round = none := hr; rw [hr'] at this; exact this) hb (hrel (es := es2) hops)
        obtain ⟨_, g2, g3, x, L3, w3, ds, cs3, s1, hE, hH, hv, hds, hb3, hu⟩ := this
        obtain ⟨e1, e2, e3, e4⟩ := put_fr fr1 o.dst v
        refine behind I hrow h3 s1 hE (by rw [h2.hp]; exact hH) hkeep.next hv (by rw [put_tmps ho, htm]) (by rw [e2]; exact g2) (by rw [e4]; exact g3) (by rw [e3]; exact hds) hb3 hu
      | @pan _ _ _ bel1 _ st1 st' _ o' v _ _ ho' hw hk' he hob h2 h3 h4 =>
        rw [ho] at ho'
        cases ho'
        have hops := core_ops pl I (fun p hp hps => by
          have : p.i ∈ es.map (·.i) := List.mem_map.2 ⟨p, hp, rfl⟩
          rw [h4] at this
          exact (List.pairwise_cons.1 ro2.ord).1 _ (List.mem_filter.1 this).1) ho
        have he' := evEff_tmps (tb := tb) (rec := rec) (bel := bel) (st := { st with log := [] }) hag
        rw [he] at he'
        have := eff_ok ih hT hS he' (fun s' hs' => by cases hs'; exact hob) hfun hm ht ho2 (want _ hops hw) (L := L2) (w := w) (cs := cs) (X := Xn X M st.next) (by rw [hp_log]; exact I.heap) I.defs
          (fun hr => by have := I.round; unfold RoundR at this; have hr' : fr.round = none := hr; rw [hr'] at this; exact this) hb (hrel (es := es) hops)
        obtain ⟨ch, L3, w3, cs3, s1, hE, hH, hc, hb3, hu⟩ := this
        have hsh : ∀ c, X c → Xn X M st.next c := fun c hc => .inl hc
        have hl : Lift (Xn X M st.next) L2 w X L3 w3 := hE.lift.trans (.shrink hsh)
        refine ⟨L3, w3, { F with mode := .panicking ch }, cs3, s1, hE.toM, by rw [h2.hp]; exact hH.shrink hsh, rfl, rfl, rfl, rfl, hu, ⟨I.fn, fun t u hu' => ?_, I.defs.lift hl, ?_⟩, hb3.lift (.shrink hsh), ch, rfl, hc.lift (.shrink hsh)⟩
        · obtain ⟨k1, k2⟩ := drop_get _ _ _ _ _ hu'
          obtain ⟨x, hx, hxv⟩ := I.slots t u k1 (fun p hp hps => by
            have : p.i ∈ es.map (·.i) := List.mem_map.2 ⟨p, hp, rfl⟩
            rw [h4] at this
            exact k2 _ (List.mem_filter.1 this).1)
          exact ⟨x, hx, hxv.lift hl⟩
        · exact RoundR.lift hl I.round
end
end Go.Sy
