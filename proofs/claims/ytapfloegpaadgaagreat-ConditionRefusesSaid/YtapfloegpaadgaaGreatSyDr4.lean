/- A region that draws its order: the whole. -/
import Derived.Test.YtapfloegpaadgaaGreatSyDr3
set_option linter.unusedVariables false
set_option linter.unusedSimpArgs false
namespace Go.Sy

structure ExtM (L M : Loc) (w : World) (L' : Loc) (w' : World) : Prop where
  size : w.heap.size ≤ w'.heap.size
  same : ∀ c, c < w.heap.size → ¬ Owned L c → ¬ Owned M c → w'.heap[c]? = w.heap[c]?
  loc : ∀ b, L b ≠ .absent → L' b = L b ∨ L' b = .dead
  own : ∀ c, Owned L' c → Owned L c ∨ Owned M c ∨ w.heap.size ≤ c
  os : w'.os = w.os
  tape : w'.tape = w.tape
  output : w'.output = w.output
theorem ExtM.refl (L M : Loc) (w : World) : ExtM L M w L w := ⟨Nat.le_refl _, fun _ _ _ _ => rfl, fun _ _ => .inl rfl, fun _ h => .inl h, rfl, rfl, rfl⟩
theorem Ext.toM {L M L' : Loc} {w w' : World} (h : Ext L w L' w') : ExtM L M w L' w' :=
  ⟨h.size, fun c h1 h2 _ => h.same c h1 h2, h.loc, fun c hc => (h.own c hc).imp id .inr, h.os, h.tape, h.output⟩
/-- first M and w alone turn -/
theorem ExtM.early {L M M' L' : Loc} {w w1 w' : World} (h : ExtM L M' w1 L' w') (h1 : w.heap.size ≤ w1.heap.size) (h2 : ∀ c, c < w.heap.size → w1.heap[c]? = w.heap[c]?) (h3 : ∀ c, Owned M' c → Owned M c ∨ w.heap.size ≤ c) (h4 : w1.os = w.os) (h5 : w1.tape = w.tape) (h6 : w1.output = w.output) :
    ExtM L M w L' w' := by
  refine ⟨Nat.le_trans h1 h.size, fun c hc ho hm => ?_, h.loc, fun c hc => ?_, h.os.trans h4, h.tape.trans h5, h.output.trans h6⟩
  · rw [h.same c (Nat.lt_of_lt_of_le hc h1) ho (fun hh => ?_), h2 c hc]
    rcases h3 c hh with hh | hh
    · exact hm hh
    · omega
  · rcases h.own c hc with hh | hh | hh
    · exact .inl hh
    · exact .inr (h3 c hh)
    · exact .inr (.inr (Nat.le_trans h1 hh))
/-- L takes over from M -/
theorem ExtM.take {L M L1 M1 L' : Loc} {w w' : World} (h : ExtM L1 M1 w L' w') (h1 : ∀ b, L b ≠ .absent → L1 b = L b) (h2 : ∀ c, Owned L1 c → Owned L c ∨ Owned M c) (h3 : ∀ c, Owned M1 c → Owned M c) : ExtM L M w L' w' := by
  refine ⟨h.size, fun c hc ho hm => h.same c hc (fun hh => ?_) (fun hh => hm (h3 c hh)), fun b hb => ?_, fun c hc => ?_, h.os, h.tape, h.output⟩
  · rcases h2 c hh with hh | hh
    · exact ho hh
    · exact hm hh
  · have := h1 b hb
    rw [← this]
    exact h.loc b (by rw [this]; exact hb)
  · rcases h.own c hc with hh | hh | hh
    · rcases h2 c hh with hh | hh
      · exact .inl hh
      · exact .inr (.inl hh)
    · exact .inr (.inl (h3 c hh))
    · exact .inr (.inr hh)
/-- an effect of the core -/
theorem ExtM.core {L M L1 L' : Loc} {w w1 w' : World} (h : ExtM L1 M w1 L' w') (k : Ext L w L1 w1) : ExtM L M w L' w' := by
  refine ⟨Nat.le_trans k.size h.size, fun c hc ho hm => ?_, fun b hb => ?_, fun c hc => ?_, h.os.trans k.os, h.tape.trans k.tape, h.output.trans k.output⟩
  · rw [h.same c (Nat.lt_of_lt_of_le hc k.size) (fun hh => ?_) hm, k.same c hc ho]
    rcases k.own c hh with hh | hh
    · exact ho hh
    · omega
  · rcases k.loc b hb with e | e
    · rcases h.loc b (by rw [e]; exact hb) with e' | e'
      · exact .inl (e'.trans e)
      · exact .inr e'
    · rcases h.loc b (by rw [e]; simp) with e' | e'
      · exact .inr (e'.trans e)
      · exact .inr e'
  · rcases h.own c hc with hh | hh | hh
    · rcases k.own c hh with hh | hh
      · exact .inl hh
      · exact .inr (.inr hh)
    · exact .inr (.inl hh)
    · exact .inr (.inr (Nat.le_trans k.size hh))

section
variable {P : Program} {tb : Tab} {ops : Array Oper} {an : List Nat} {X : Nat → Prop} {s : List Nat} {es : List En} {fr : Fr} {st : St} {L M : Loc} {w : World} {F : Frame} {cs : List Frame}

/-- what has been done comes to its turn -/
theorem integrate {e : En} {fr' : Fr} {st' : St} (I : Inv ops.toList an X s (e :: es) fr st L M w F) (hes : e.i ∉ s) (hn : e.n = st.next) (h1 : fr'.tmps = putA fr.tmps (dstOf ops.toList e.i) e.v) (h2 : fr'.fn = fr.fn) (h3 : fr'.defs = fr.defs) (h4 : fr'.round = fr.round)
    (hl : Like st' (st.adv e.blk)) (hmono : ∀ p ∈ es, e.m ≤ p.n) : ∃ L' M', Inv ops.toList an X s es fr' st' L' M' w F ∧ (∀ b, L b ≠ .absent → L' b = L b) ∧ (∀ c, Owned L' c → Owned L c ∨ Owned M c) ∧ (∀ c, Owned M' c → Owned M c) ∧ Lift (Xn X M st.next) L w (Xn X M' st'.next) L' w := by
  have hslot : ∀ {Y : Nat → Prop} {Λ : Loc}, Lift (Xn X M st.next) L w Y Λ w → (∀ d, dstOf ops.toList e.i = some d → ∃ x, F.tmps[d]? = some x ∧ VRel Y Λ w e.v x) → ∀ t v, fr'.tmps.get? t = some v → (∀ p ∈ es, p.i ∉ s → dstOf ops.toList p.i ≠ some t) → ∃ x, F.tmps[t]? = some x ∧ VRel Y Λ w v x := by
    intro Y Λ hlift hd t v hv hnt
    rw [h1] at hv
    by_cases hdt : dstOf ops.toList e.i = some t
    · rw [hdt] at hv
      simp only [putA, T.get?_set, if_true] at hv
      cases hv
      exact hd t hdt
    · have hv' : fr.tmps.get? t = some v := by
        cases hdd : dstOf ops.toList e.i with
        | none => rw [hdd] at hv; exact hv
        | some d =>
          rw [hdd] at hv hdt
          simp only [putA, T.get?_set] at hv
          rw [if_neg (fun hh => hdt (by rw [hh]))] at hv
          exact hv
      obtain ⟨x, hx, hxv⟩ := I.slots t v hv' (fun p hp hps hpt => by
        rcases List.mem_cons.1 hp with rfl | hp
        · exact hdt hpt
        · exact hnt p hp hps hpt)
      exact ⟨x, hx, hxv.lift hlift⟩
  cases hb : e.blk with
  | none =>
    have hem : e.m = e.n := by unfold En.m; rw [hb]
    have hl' : Like st' st := by rw [hb] at hl; exact hl
    have hnx := hl'.next
    have hhp := hl'.hp
    refine ⟨L, M, ⟨by rw [hnx, hhp]; exact I.heap, fun b hbm => ?_, fun p hp => I.mall p (List.mem_cons_of_mem _ hp), I.minj, I.mfar, fun p hp hps d hd => by rw [hnx]; exact I.early p (List.mem_cons_of_mem _ hp) hps d hd, ?_, fun p hp => I.closed p (List.mem_cons_of_mem _ hp), by rw [h2]; exact I.fn, by rw [hnx, h3]; exact I.defs, by rw [h4]; exact I.round⟩, fun _ _ => rfl, fun _ h => .inl h, fun _ h => h, by rw [hnx]; exact .refl⟩
    · obtain ⟨p, hp, hps, hpn, bl, c, cap, sz, hpb, hr⟩ := I.mlt b hbm
      rcases List.mem_cons.1 hp with rfl | hp
      · rw [hb] at hpb; cases hpb
      · rw [hnx]; exact ⟨p, hp, hps, hpn, bl, c, cap, sz, hpb, hr⟩
    · rw [hnx]
      refine hslot .refl fun d hd => ?_
      obtain ⟨x, hx, hv⟩ := I.early e (List.mem_cons_self ..) hes d hd
      rw [hem, hn, Ln_self I.heap] at hv
      exact ⟨x, hx, hv⟩
  | some blk =>
    have hem : e.m = st.next + 1 := by unfold En.m; rw [hb]; simp [hn]
    have hnx : st'.next = st.next + 1 := by rw [hl.next, hb]; rfl
    have hhp : st'.hp = Hp.set st.hp st.next blk := by rw [hl.hp, hb]; exact St.new_hp st blk
    -- the block
    have hM0 := I.mall e (List.mem_cons_self ..) hes blk hb
    obtain ⟨p, hp, hps, hpn, bl, c0, cap0, sz0, hpb, hMe, hc0, hal, hB⟩ := I.mlt _ hM0
    have hpe : p = e := by
      rcases List.mem_cons.1 hp with h | h
      · exact h
      · have := hmono p h
        rw [hpn] at this
        have e2 : e.m = e.n + 1 := by unfold En.m; rw [hb]
        omega
    subst hpe
    rw [hb] at hpb
    cases hpb
    rw [hn] at hMe hB
    let M' : Loc := Loc.set M st.next .absent
    have hM'o : ∀ b, b ≠ st.next → M' b = M b := by intro b h; simp [M', Loc.set, h]
    have hM's : M' st.next = .absent := by simp [M', Loc.set]
    have hXn : ∀ n, st.next + 1 ≤ n → Xn X M' n = Xn X M n := by
      intro n h
      funext c
      simp only [Xn, eq_iff_iff]
      constructor
      · rintro (hc | ⟨b, hb', o, cp, sz, hbc⟩)
        · exact .inl hc
        · rw [hM'o b (by omega)] at hbc; exact .inr ⟨b, hb', o, cp, sz, hbc⟩
      · rintro (hc | ⟨b, hb', o, cp, sz, hbc⟩)
        · exact .inl hc
        · rw [← hM'o b (by omega)] at hbc; exact .inr ⟨b, hb', o, cp, sz, hbc⟩
    have hLn : ∀ n, st.next + 1 ≤ n → Ln (Ln L M st.next (st.next + 1)) M' (st.next + 1) n = Ln L M st.next n := by
      intro n h
      funext b
      by_cases e1 : b < st.next
      · rw [Ln_lt (by omega), Ln_lt e1, Ln_lt e1]
      · by_cases e2 : b = st.next
        · subst e2; rw [Ln_lt (by omega), Ln_mid (Nat.le_refl _) (by omega), Ln_mid (Nat.le_refl _) (by omega)]
        · by_cases e3 : b < n
          · rw [Ln_mid (by omega) e3, Ln_mid (by omega) e3, hM'o b e2]
          · rw [Ln_out (by omega) (by omega), Ln_out (by omega) (by omega)]
    have hown : ∀ c, Owned (Ln L M st.next (st.next + 1)) c → Owned L c ∨ c = c0 := by
      rintro c ⟨b, o, cp, sz, hb'⟩
      by_cases e1 : b < st.next
      · rw [Ln_lt e1] at hb'; exact .inl ⟨b, o, cp, sz, hb'⟩
      · by_cases e2 : b < st.next + 1
        · have : b = st.next := by omega
          subst this
          rw [Ln_mid (Nat.le_refl _) e2, hMe] at hb'; cases hb'; exact .inr rfl
        · rw [Ln_out (by omega) (by omega)] at hb'; cases hb'
    have hlift : Lift (Xn X M st.next) L w (Xn X M' (st.next + 1)) (Ln L M st.next (st.next + 1)) w := by
      rw [hXn _ (Nat.le_refl _)]
      exact Lift.core I.heap (by omega)
    refine ⟨Ln L M st.next (st.next + 1), M', ⟨?_, fun b hbm => ?_, fun p hp hps bl hpb => ?_, fun b b' c o cp sz o' cp' sz' h h' => ?_, ?_, fun p' hp hps d hd => ?_, ?_, fun p hp => I.closed p (List.mem_cons_of_mem _ hp), by rw [h2]; exact I.fn, ?_, ?_⟩, fun b hb' => ?_, fun c hc => ?_, ?_, by rw [hnx]; exact hlift⟩
    · rw [hnx, hhp]
      refine ⟨fun b h => ?_, fun b h => ?_, fun b x h hx => ?_, fun b b' c o cp sz o' cp' sz' h h' => ?_, fun c hc => ?_, fun c hc hX => ?_, fun c hc => ?_⟩
      · by_cases e1 : b = st.next
        · simp [Hp.set, e1] at h
        · simp only [Hp.set, e1, if_false] at h
          by_cases e2 : b < st.next
          · rw [Ln_lt e2]; exact I.heap.out b h
          · exact Ln_out (by omega) (by omega)
      · by_cases e1 : b = st.next
        · simp only [Hp.set, e1, if_true, Option.some.injEq] at h; subst h; simp [Blk.alive] at hal
        · simp only [Hp.set, e1, if_false] at h
          have e2 : b < st.next := by
            apply Classical.byContradiction
            intro hh
            rw [hp_none (Nat.not_lt.1 hh)] at h; cases h
          rw [Ln_lt e2]; exact I.heap.dead b h
      · by_cases e1 : b = st.next
        · subst e1
          simp only [Hp.set, if_true, Option.some.injEq] at h
          subst h
          refine ⟨c0, 0, cap0, sz0, by rw [Ln_mid (Nat.le_refl _) (by omega)]; exact hMe, ?_⟩
          rw [hXn _ (Nat.le_refl _)]
          exact hB
        · simp only [Hp.set, e1, if_false] at h
          have e2 : b < st.next := by
            apply Classical.byContradiction
            intro hh
            rw [hp_none (Nat.not_lt.1 hh)] at h; cases h
          obtain ⟨c, o, cp, sz, k1, k2⟩ := I.heap.blk b x h hx
          exact ⟨c, o, cp, sz, by rw [Ln_lt e2]; exact k1, k2.lift hlift rfl⟩
      · have far0 : ∀ b o cp sz, L b = .live c0 o cp sz → False := fun b o cp sz h => I.heap.far c0 ⟨b, o, cp, sz, h⟩ (.inr ⟨st.next, Nat.le_refl _, _, _, _, hMe⟩)
        have low : ∀ b c o cp sz, Ln L M st.next (st.next + 1) b = .live c o cp sz → (b < st.next ∧ L b = .live c o cp sz) ∨ (b = st.next ∧ c = c0) := by
          intro b c o cp sz h
          by_cases e1 : b < st.next
          · rw [Ln_lt e1] at h; exact .inl ⟨e1, h⟩
          · by_cases e2 : b < st.next + 1
            · have : b = st.next := by omega
              subst this
              rw [Ln_mid (Nat.le_refl _) e2, hMe] at h; cases h; exact .inr ⟨rfl, rfl⟩
            · rw [Ln_out (by omega) (by omega)] at h; cases h
        rcases low _ _ _ _ _ h with ⟨g1, g2⟩ | ⟨g1, g2⟩ <;> rcases low _ _ _ _ _ h' with ⟨g3, g4⟩ | ⟨g3, g4⟩
        · exact I.heap.inj _ _ _ _ _ _ _ _ _ g2 g4
        · subst g4; exact (far0 _ _ _ _ g2).elim
        · subst g2; exact (far0 _ _ _ _ g4).elim
        · rw [g1, g3]
      · rcases hown c hc with h | rfl
        · exact I.heap.lt c h
        · exact hc0
      · rw [hXn _ (Nat.le_refl _)] at hX
        rcases hown c hc with h | rfl
        · exact I.heap.far c h (Xn_mono (by omega) hX)
        · rcases hX with hX | ⟨b, hb', o, cp, sz, hbc⟩
          · exact I.mfar _ ⟨st.next, _, _, _, hMe⟩ hX
          · have := I.minj _ _ _ _ _ _ _ _ _ hMe hbc; omega
      · rw [hXn _ (Nat.le_refl _)] at hc
        exact I.heap.xlt c (Xn_mono (by omega) hc)
    · have hbn : b ≠ st.next := fun h => hbm (by rw [h]; exact hM's)
      rw [hM'o b hbn] at hbm
      obtain ⟨q, hq, hqs, hqn, bl, c, cp, sz, g1, g2, g3, g4, g5⟩ := I.mlt b hbm
      rcases List.mem_cons.1 hq with rfl | hq
      · exact absurd (hqn.symm.trans hn) hbn
      · have := hmono q hq
        refine ⟨q, hq, hqs, hqn, bl, c, cp, sz, g1, by rw [hM'o b hbn]; exact g2, g3, g4, ?_⟩
        rw [hnx, hXn _ (by omega), hLn _ (by omega)]
        exact g5
    · have := hmono p hp
      rw [hM'o _ (by omega)]
      exact I.mall p (List.mem_cons_of_mem _ hp) hps bl hpb
    · have g1 : b ≠ st.next := by rintro rfl; rw [hM's] at h; cases h
      have g2 : b' ≠ st.next := by rintro rfl; rw [hM's] at h'; cases h'
      rw [hM'o _ g1] at h; rw [hM'o _ g2] at h'
      exact I.minj _ _ _ _ _ _ _ _ _ h h'
    · rintro c ⟨b, o, cp, sz, h⟩
      have g1 : b ≠ st.next := by rintro rfl; rw [hM's] at h; cases h
      rw [hM'o _ g1] at h
      exact I.mfar c ⟨b, o, cp, sz, h⟩
    · have := hmono p' hp
      have h3 := p'.n_le
      rw [hnx, hXn _ (by omega), hLn _ (by omega)]
      exact I.early p' (List.mem_cons_of_mem _ hp) hps d hd
    · rw [hnx]
      refine hslot hlift fun d hd => ?_
      obtain ⟨x, hx, hv⟩ := I.early p (List.mem_cons_self ..) hes d hd
      rw [hem] at hv
      rw [hXn _ (Nat.le_refl _)]
      exact ⟨x, hx, hv⟩
    · rw [hnx, h3]; exact I.defs.lift hlift
    · rw [h4]; exact RoundR.lift hlift I.round
    · rw [Ln_lt]
      apply Classical.byContradiction
      intro hh
      exact hb' (I.heap.out b (hp_none (Nat.not_lt.1 hh)))
    · rcases hown c hc with h | rfl
      · exact .inl h
      · exact .inr ⟨st.next, _, _, _, hMe⟩
    · rintro c ⟨b, o, cp, sz, h⟩
      have g1 : b ≠ st.next := by rintro rfl; rw [hM's] at h; cases h
      rw [hM'o _ g1] at h
      exact ⟨b, o, cp, sz, h⟩

/-- the core turns; what has been done early stays -/
theorem core_step {e : En} {v : AV} {x : Value} {fr2 : Fr} {st2 : St} {L2 : Loc} {w2 : World} {F2 : Frame} (pl : Pl ops.toList an) (I : Inv ops.toList an X (e.i :: s) (e :: es) fr st L M w F) (row : Row an (e :: es)) (hpw : ∀ b ∈ s, bit an e.i b = false)
    (hblk : e.blk = none) (hE : Ext L w L2 w2) (hH : HRel (Xn X M st.next) L2 st2.hp w2) (hnx : st.next ≤ st2.next) (hmono : ∀ p ∈ es, st2.next ≤ p.n) (hv : VRel (Xn X M st.next) L2 w2 v x) (h1 : fr2.tmps = putA fr.tmps (dstOf ops.toList e.i) v)
    (h2 : fr2.fn = fr.fn) (h4 : fr2.round = fr.round) (hds : DRels (Xn X M st.next) L2 w2 fr2.defs F2.defers) (hF1 : F2.fn = F.fn) (hF2 : F2.roundOf = F.roundOf) (hF3 : F2.tmps = putT F.tmps (dstOf ops.toList e.i) x) (hd : ∀ d, dstOf ops.toList e.i = some d → d < F.tmps.size) :
    Inv ops.toList an X s es fr2 st2 L2 M w2 F2 := by
  have hno : ∀ b, M b ≠ .absent → st2.next ≤ b := by
    intro b hb
    obtain ⟨p, hp, hps, hpn, _⟩ := I.mlt b hb
    rcases List.mem_cons.1 hp with rfl | hp
    · exact absurd (List.mem_cons_self ..) hps
    · rw [← hpn]; exact hmono p hp
  have hlc : Lift (Xn X M st.next) L w (Xn X M st.next) L2 w2 := hE.lift
  have hshr : ∀ c, Xn X M st2.next c → Xn X M st.next c := fun c => Xn_mono hnx
  have hl2 : Lift (Xn X M st.next) L w (Xn X M st2.next) L2 w2 := hlc.trans (.shrink hshr)
  have hMlt : ∀ c, Owned M c → c < w.heap.size := by
    rintro c ⟨b, o', cp, sz', hb⟩
    obtain ⟨p, hp, hps, hpn, bl, c', cp', sz'', hpb, h1, h2, _⟩ := I.mlt b (by rw [hb]; simp)
    rw [hb] at h1; cases h1; exact h2
  have hLlt : ∀ b, L b ≠ .absent → b < st.next := by
    intro b hb
    apply Classical.byContradiction
    intro hh
    exact hb (I.heap.out b (hp_none (Nat.not_lt.1 hh)))
  have hl : ∀ n, st2.next ≤ n → Lift (Xn X M n) (Ln L M st.next n) w (Xn X M n) (Ln L2 M st2.next n) w2 := by
    intro n hn
    have ownM : ∀ c, Owned M c → Owned (Ln L M st.next n) c ∨ Xn X M n c := by
      rintro c ⟨b, o, cp, sz, hb⟩
      have := hno b (by rw [hb]; simp)
      by_cases e2 : b < n
      · exact .inl ⟨b, o, cp, sz, by rw [Ln_mid (by omega) e2]; exact hb⟩
      · exact .inr (.inr ⟨b, by omega, o, cp, sz, hb⟩)
    refine ⟨fun b hb => ?_, fun c hc h2 h3 => ?_⟩
    · by_cases e1 : b < st.next
      · rw [Ln_lt e1] at hb ⊢
        rw [Ln_lt (by omega)]
        exact hE.loc b hb
      · by_cases e2 : b < n
        · rw [Ln_mid (by omega) e2] at hb
          rw [Ln_mid (lo := st.next) (by omega) e2, Ln_mid (lo := st2.next) (hno b hb) e2]
          exact .inl rfl
        · exact absurd (Ln_out (by omega) (by omega)) hb
    · have hnL : ¬ Owned L c := by
        rintro ⟨b, o, cp, sz, hb⟩
        exact h2 ⟨b, o, cp, sz, by rw [Ln_lt (hLlt b (by rw [hb]; simp))]; exact hb⟩
      have hnM : ¬ Owned M c := fun hh => (ownM c hh).elim h2 h3
      refine ⟨?_, h3, Nat.lt_of_lt_of_le hc hE.size, hE.same c hc hnL⟩
      rintro ⟨b, o, cp, sz, hb⟩
      by_cases e1 : b < st2.next
      · rw [Ln_lt e1] at hb
        rcases hE.own c ⟨b, o, cp, sz, hb⟩ with h | h
        · exact hnL h
        · omega
      · by_cases e2 : b < n
        · rw [Ln_mid (by omega) e2] at hb; exact hnM ⟨b, o, cp, sz, hb⟩
        · rw [Ln_out (by omega) (by omega)] at hb; cases hb
  have hni : ∀ p ∈ es, p.i ≠ e.i := by
    intro p hp hh
    have := row.nod
    rw [List.map_cons, List.nodup_cons] at this
    exact this.1 (List.mem_map.2 ⟨p, hp, hh⟩)
  have hstill : ∀ p ∈ es, p.i ∉ s → p.i ∉ e.i :: s := by
    intro p hp hps hh
    rcases List.mem_cons.1 hh with hh | hh
    · exact hni p hp hh
    · exact hps hh
  refine ⟨hH.shrink hshr, fun b hb => ?_, fun p hp hps bl hpb => I.mall p (List.mem_cons_of_mem _ hp) (hstill p hp hps) bl hpb, I.minj, I.mfar, fun p hp hps d hpd => ?_, fun t u hu hnt => ?_, fun p hp hps j hj => I.closed p (List.mem_cons_of_mem _ hp) (hstill p hp hps) j (List.mem_cons_of_mem _ hj), by rw [hF1, h2]; exact I.fn, hds.lift (.shrink hshr), ?_⟩
  · obtain ⟨p, hp, hps, hpn, bl, c, cap, sz, g1, g2, g3, g4, g5⟩ := I.mlt b hb
    have hbn := hno b hb
    rcases List.mem_cons.1 hp with rfl | hp'
    · exact absurd (List.mem_cons_self ..) hps
    · refine ⟨p, hp', fun hh => hps (List.mem_cons_of_mem _ hh), hpn, bl, c, cap, sz, g1, g2, Nat.lt_of_lt_of_le g3 hE.size, g4, g5.lift (hl (b + 1) (by omega)) (hE.same c g3 fun hh => ?_)⟩
      exact I.heap.far c hh (.inr ⟨b, by omega, _, _, _, g2⟩)
  · obtain ⟨y, hy, hyv⟩ := I.early p (List.mem_cons_of_mem _ hp) (hstill p hp hps) d hpd
    refine ⟨y, ?_, hyv.lift (hl _ (Nat.le_trans (hmono p hp) p.n_le))⟩
    rw [hF3, put_other (fun hh => hni p hp (pl.dst _ _ d hpd hh))]
    exact hy
  · rw [h1] at hu
    by_cases hdt : dstOf ops.toList e.i = some t
    · rw [hdt] at hu
      simp only [putA, T.get?_set, if_true] at hu
      cases hu
      refine ⟨x, ?_, hv.lift (.shrink hshr)⟩
      rw [hF3, hdt]
      exact put_same (hd t hdt)
    · have hu' : fr.tmps.get? t = some u := by
        cases hdd : dstOf ops.toList e.i with
        | none => rw [hdd] at hu; exact hu
        | some d =>
          rw [hdd] at hu hdt
          simp only [putA, T.get?_set] at hu
          rw [if_neg (fun hh => hdt (by rw [hh]))] at hu
          exact hu
      obtain ⟨y, hy, hyv⟩ := I.slots t u hu' (fun p hp hps hpt => by
        rcases List.mem_cons.1 hp with rfl | hp
        · exact hps (List.mem_cons_self ..)
        · exact hnt p hp (fun hh => hps (List.mem_cons_of_mem _ hh)) hpt)
      refine ⟨y, ?_, hyv.lift hl2⟩
      rw [hF3, put_other hdt]
      exact hy
  · have := RoundR.lift hlc I.round
    rw [h4]
    cases hr : fr.round with
    | none => rw [hr] at this; exact hF2.trans this
    | some l =>
      rw [hr] at this
      obtain ⟨c, k1, k2⟩ := this
      exact ⟨c, hF2.trans k1, k2⟩
end
end Go.Sy
