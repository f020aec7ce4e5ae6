import Derived.Test.YtapfloegpaadgaaGreatSyDr3
/- A region that draws its order: the whole. -/
set_option linter.unusedVariables false
set_option linter.unusedSimpArgs false
namespace Go.Sy

structure ExtM (L M : Loc) (w : World) (L' : Loc) (w' : World) : Prop where
  size : w.heap.size ≤ w'.heap.size
  same : ∀ c, c < w.heap.size → ¬ Owned L c → ¬ Owned M c → w'.heap[c]? = w.heap[c]?
  loc : ∀ b, L b ≠ .absent → L' b = L b ∨ L' b = .dead
  own : ∀ c, Owned L' c → Owned L c ∨ Owned M c ∨ w.heap.size ≤ c
  os : w'.os = w.os
  tape : w'.tape = w.tape
  output : w'.output = w.output
theorem ExtM.refl (L M : Loc) (w : World) : ExtM L M w L w := ⟨Nat.le_refl _, fun _ _ _ _ => rfl, fun _ _ => .inl rfl, fun _ h => .inl h, rfl, rfl, rfl⟩
theorem Ext.toM {L M L' : Loc} {w w' : World} (h : Ext L w L' w') : ExtM L M w L' w' :=
  ⟨h.size, fun c h1 h2 _ => h.same c h1 h2, h.loc, fun c hc => (h.own c hc).imp id .inr, h.os, h.tape, h.output⟩
/-- first M and w alone turn -/
theorem ExtM.early {L M M' L' : Loc} {w w1 w' : World} (h : ExtM L M' w1 L' w') (h1 : w.heap.size ≤ w1.heap.size) (h2 : ∀ c, c < w.heap.size → w1.heap[c]? = w.heap[c]?) (h3 : ∀ c, Owned M' c → Owned M c ∨ w.heap.size ≤ c) (h4 : w1.os = w.os) (h5 : w1.tape = w.tape) (h6 : w1.output = w.output) :
    ExtM L M w L' w' := by
  refine ⟨Nat.le_trans h1 h.size, fun c hc ho hm => ?_, h.loc, fun c hc => ?_, h.os.trans h4, h.tape.trans h5, h.output.trans h6⟩
  · rw [h.same c (Nat.lt_of_lt_of_le hc h1) ho (fun hh => ?_), h2 c hc]
    rcases h3 c hh with hh | hh
    · exact hm hh
    · omega
  · rcases h.own c hc with hh | hh | hh
    · exact .inl hh
    · exact .inr (h3 c hh)
    · exact .inr (.inr (Nat.le_trans h1 hh))
/-- L takes over from M -/
theorem ExtM.take {L M L1 M1 L' : Loc} {w w' : World} (h : ExtM L1 M1 w L' w') (h1 : ∀ b, L b ≠ .absent → L1 b = L b) (h2 : ∀ c, Owned L1 c → Owned L c ∨ Owned M c) (h3 : ∀ c, Owned M1 c → Owned M c) : ExtM L M w L' w' := by
  refine ⟨h.size, fun c hc ho hm => h.same c hc (fun hh => ?_) (fun hh => hm (h3 c hh)), fun b hb => ?_, fun c hc => ?_, h.os, h.tape, h.output⟩
  · rcases h2 c hh with hh | hh
    · exact ho hh
    · exact hm hh
  · have := h1 b hb
    rw [← this]
    exact h.loc b (by rw [this]; exact hb)
  · rcases h.own c hc with hh | hh | hh
    · rcases h2 c hh with hh | hh
      · exact .inl hh
      · exact .inr (.inl hh)
    · exact .inr (.inl (h3 c hh))
    · exact .inr (.inr hh)
/-- an effect of the core -/
theorem ExtM.core {L M L1 L' : Loc} {w w1 w' : World} (h : ExtM L1 M w1 L' w') (k : Ext L w L1 w1) : ExtM L M w L' w' := by
  refine ⟨Nat.le_trans k.size h.size, fun c hc ho hm => ?_, fun b hb => ?_, fun c hc => ?_, h.os.trans k.os, h.tape.trans k.tape, h.output.trans k.output⟩
  · rw [h.same c (Nat.lt_of_lt_of_le hc k.size) (fun hh => ?_) hm, k.same c hc ho]
    rcases k.own c hh with hh | hh
    · exact ho hh
    · omega
  · rcases k.loc b hb with e | e
    · rcases h.loc b (by rw [e]; exact hb) with e' | e'
      · exact .inl (e'.trans e)
      · exact .inr e'
    · rcases h.loc b (by rw [e]; simp) with e' | e'
      · exact .inr (e'.trans e)
      · exact .inr e'
  · rcases h.own c hc with hh | hh | hh
    · rcases k.own c hh with hh | hh
      · exact .inl hh
      · exact .inr (.inr hh)
    · exact .inr (.inl hh)
    · exact .inr (.inr (Nat.le_trans k.size hh))

section
variable {P : Program} {tb : Tab} {ops : Array Oper} {an : List Nat} {X : Nat → Prop} {s : List Nat} {es : List En} {fr : Fr} {st : St} {L M : Loc} {w : World} {F : Frame} {cs : List Frame}

/-- what has been done comes to its turn -/
theorem integrate {e : En} {fr' : Fr} {st' : St} (I : Inv ops.toList an X s (e :: es) fr st L M w F) (hes : e.i ∉ s) (hn : e.n = st.next) (h1 : fr'.tmps = putA fr.tmps (dstOf ops.toList e.i) e.v) (h2 : fr'.fn = fr.fn) (h3 : fr'.defs = fr.defs) (h4 : fr'.round = fr.round)
    (hl : Like st' (st.adv e.blk)) (hmono : ∀ p ∈ es, e.m ≤ p.n) : ∃ L' M', Inv ops.toList an X s es fr' st' L' M' w F ∧ (∀ b, L b ≠ .absent → L' b = L b) ∧ (∀ c, Owned L' c → Owned L c ∨ Owned M c) ∧ (∀ c, Owned M' c → Owned M c) ∧ Lift (Xn X M st.next) L w (Xn X M' st'.next) L' w := by
  have hslot : ∀ {Y : Nat → Prop} {Λ : Loc}, Lift (Xn X M st.next) L w Y Λ w → (∀ d, dstOf ops.toList e.i = some d → ∃ x, F.tmps[d]? = some x ∧ VRel Y Λ w e.v x) → ∀ t v, fr'.tmps.get? t = some v → (∀ p ∈ es, p.i ∉ s → dstOf ops.toList p.i ≠ some t) → ∃ x, F.tmps[t]? = some x ∧ VRel Y Λ w v x := by
    intro Y Λ hlift hd t v hv hnt
    rw [h1] at hv
    by_cases hdt : dstOf ops.toList e.i = some t
    · rw [hdt] at hv
      simp only [putA, T.get?_set, if_true] at hv
      cases hv
      exact hd t hdt
    · have hv' : fr.tmps.get? t = some v := by
        cases hdd : dstOf ops.toList e.i with
        | none => rw [hdd] at hv; exact hv
        | some d =>
          rw [hdd] at hv hdt
          simp only [putA, T.get?_set] at hv
          rw [if_neg (fun hh => hdt (by rw [hh]))] at hv
          exact hv
      obtain ⟨x, hx, hxv⟩ := I.slots t v hv' (fun p hp hps hpt => by
        rcases List.mem_cons.1 hp with rfl | hp
        · exact hdt hpt
        · exact hnt p hp hps hpt)
      exact ⟨x, hx, hxv.lift hlift⟩
  cases hb : e.blk with
  | none =>
    have hem : e.m = e.n := by unfold En.m; rw [hb]
    have hl' : Like st' st := by rw [hb] at hl; exact hl
    have hnx := hl'.next
    have hhp := hl'.hp
    refine ⟨L, M, ⟨by rw [hnx, hhp]; exact I.heap, fun b hbm => ?_, fun p hp => I.mall p (List.mem_cons_of_mem _ hp), I.minj, I.mfar, fun p hp hps d hd => by rw [hnx]; exact I.early p (List.mem_cons_of_mem _ hp) hps d hd, ?_, fun p hp => I.closed p (List.mem_cons_of_mem _ hp), by rw [h2]; exact I.fn, by rw [hnx, h3]; exact I.defs, by rw [h4]; exact I.round⟩, fun _ _ => rfl, fun _ h => .inl h, fun _ h => h, by rw [hnx]; exact .refl⟩
    · obtain ⟨p, hp, hps, hpn, bl, c, cap, sz, hpb, hr⟩ := I.mlt b hbm
      rcases List.mem_cons.1 hp with rfl | hp
      · rw [hb] at hpb; cases hpb
      · rw [hnx]; exact ⟨p, hp, hps, hpn, bl, c, cap, sz, hpb, hr⟩
    · rw [hnx]
      refine hslot .refl fun d hd => ?_
      obtain ⟨x, hx, hv⟩ := I.early e (List.mem_cons_self ..) hes d hd
      rw [hem, hn, Ln_self I.heap] at hv
      exact ⟨x, hx, hv⟩
  | some blk =>
    have hem : e.m = st.next + 1 := by unfold En.m; rw [hb]; simp [hn]
    have hnx : st'.next = st.next + 1 := by rw [hl.next, hb]; rfl
    have hhp : st'.hp = Hp.set st.hp st.next blk := by rw [hl.hp, hb]; exact St.new_hp st blk
    -- the block
    have hM0 := I.mall e (List.mem_cons_self ..) hes blk hb
    obtain ⟨p, hp, hps, hpn, bl, c0, cap0, sz0, hpb, hMe, hc0, hal, hB⟩ := I.mlt _ hM0
    have hpe : p = e := by
      rcases List.mem_cons.1 hp with h | h
      · exact h
      · have := hmono p h
        rw [hpn] at this
        have e2 : e.m = e.n + 1 := by unfold En.m; rw [hb]
        omega
    subst hpe
    rw [hb] at hpb
    cases hpb
    rw [hn] at hMe hB
    let M' : Loc := Loc.set M st.next .absent
    have hM'o : ∀ b, b ≠ st.next → M' b = M b := by intro b h; simp [M', Loc.set, h]
    have hM's : M' st.next = .absent := by simp [M', Loc.set]
    have hXn : ∀ n, st.next + 1 ≤ n → Xn X M' n = Xn X M n := by
      intro n h
      funext c
      simp only [Xn, eq_iff_iff]
      constructor
      · rintro (hc | ⟨b, hb', o, cp, sz, hbc⟩)
        · exact .inl hc
        · rw [hM'o b (by omega)] at hbc; exact .inr ⟨b, hb', o, cp, sz, hbc⟩
      · rintro (hc | ⟨b, hb', o, cp, sz, hbc⟩)
        · exact .inl hc
        · rw [← hM'o b (by omega)] at hbc; exact .inr ⟨b, hb', o, cp, sz, hbc⟩
    have hLn : ∀ n, st.next + 1 ≤ n → Ln (Ln L M st.next (st.next + 1)) M' (st.next + 1) n = Ln L M st.next n := by
      intro n h
      funext b
      by_cases e1 : b < st.next
      · rw [Ln_lt (by omega), Ln_lt e1, Ln_lt e1]
      · by_cases e2 : b = st.next
        · subst e2; rw [Ln_lt (by omega), Ln_mid (Nat.le_refl _) (by omega), Ln_mid (Nat.le_refl _) (by omega)]
        · by_cases e3 : b < n
          · rw [Ln_mid (by omega) e3, Ln_mid (by omega) e3, hM'o b e2]
          · rw [Ln_out (by omega) (by omega), Ln_out (by omega) (by omega)]
    have hown : ∀ c, Owned (Ln L M st.next (st.next + 1)) c → Owned L c ∨ c = c0 := by
      rintro c ⟨b, o, cp, sz, hb'⟩
      by_cases e1 : b < st.next
      · rw [Ln_lt e1] at hb'; exact .inl ⟨b, o, cp, sz, hb'⟩
      · by_cases e2 : b < st.next + 1
        · have : b = st.next := by omega
          subst this
          rw [Ln_mid (Nat.le_refl _) e2, hMe] at hb'; cases hb'; exact .inr rfl
        · rw [Ln_out (by omega) (by omega)] at hb'; cases hb'
    have hlift : Lift (Xn X M st.next) L w (Xn X M' (st.next + 1)) (Ln L M st.next (st.next + 1)) w := by
      rw [hXn _ (Nat.le_refl _)]
      exact Lift.core I.heap (by omega)
    refine ⟨Ln L M st.next (st.next + 1), M', ⟨?_, fun b hbm => ?_, fun p hp hps bl hpb => ?_, fun b b' c o cp sz o' cp' sz' h h' => ?_, ?_, fun p' hp hps d hd => ?_, ?_, fun p hp => I.closed p (List.mem_cons_of_mem _ hp), by rw [h2]; exact I.fn, ?_, ?_⟩, fun b hb' => ?_, fun c hc => ?_, ?_, by rw [hnx]; exact hlift⟩
    · rw [hnx, hhp]
      refine ⟨fun b h => ?_, fun b h => ?_, fun b x h hx => ?_, fun b b' c o cp sz o' cp' sz' h h' => ?_, fun c hc => ?_, fun c hc hX => ?_, fun c hc => ?_⟩
      · by_cases e1 : b = st.next
        · simp [Hp.set, e1] at h
        · simp only [Hp.set, e1, if_false] at h
          by_cases e2 : b < st.next
          · rw [Ln_lt e2]; exact I.heap.out b h
          · exact Ln_out (by omega) (by omega)
      · by_cases e1 : b = st.next
        · simp only [Hp.set, e1, if_true, Option.some.injEq] at h; subst h; simp [Blk.alive] at hal
        · simp only [Hp.set, e1, if_false] at h
          have e2 : b < st.next := by
            apply Classical.byContradiction
            intro hh
            rw [hp_none (Nat.not_lt.1 hh)] at h; cases h
          rw [Ln_lt e2]; exact I.heap.dead b h
      · by_cases e1 : b = st.next
        · subst e1
          simp only [Hp.set, if_true, Option.some.injEq] at h
          subst h
          refine ⟨c0, 0, cap0, sz0, by rw [Ln_mid (Nat.le_refl _) (by omega)]; exact hMe, ?_⟩
          rw [hXn _ (Nat.le_refl _)]
          exact hB
        · simp only [Hp.set, e1, if_false] at h
          have e2 : b < st.next := by
            apply Classical.byContradiction
            intro hh
            rw [hp_none (Nat.not_lt.1 hh)] at h; cases h
          obtain ⟨c, o, cp, sz, k1, k2⟩ := I.heap.blk b x h hx
          exact ⟨c, o, cp, sz, by rw [Ln_lt e2]; exact k1, k2.lift hlift rfl⟩
      · have far0 : ∀ b o cp sz, L b = .live c0 o cp sz → False := fun b o cp sz h => I.heap.far c0 ⟨b, o, cp, sz, h⟩ (.inr ⟨st.next, Nat.le_refl _, _, _, _, hMe⟩)
        have low : ∀ b c o cp sz, Ln L M st.next (st.next + 1) b = .live c o cp sz → (b < st.next ∧ L b = .live c o cp sz) ∨ (b = st.next ∧ c = c0) := by
          intro b c o cp sz h
          by_cases e1 : b < st.next
          · rw [Ln_lt e1] at h; exact .inl ⟨e1, h⟩
          · by_cases e2 : b < st.next + 1
            · have : b = st.next := by omega
              subst this
              rw [Ln_mid (Nat.le_refl _) e2, hMe] at h; cases h; exact .inr ⟨rfl, rfl⟩
            · rw [Ln_out (by omega) (by omega)] at h; cases h
        rcases low _ _ _ _ _ h with ⟨g1, g2⟩ | ⟨g1, g2⟩ <;> rcases low _ _ _ _ _ h' with ⟨g3, g4⟩ | ⟨g3, g4⟩
        · exact I.heap.inj _ _ _ _ _ _ _ _ _ g2 g4
        · subst g4; exact (far0 _ _ _ _ g2).elim
        · subst g2; exact (far0 _ _ _ _ g4).elim
        · rw [g1, g3]
      · rcases hown c hc with h | rfl
        · exact I.heap.lt c h
        · exact hc0
      · rw [hXn _ (Nat.le_refl _)] at hX
        rcases hown c hc with h | rfl
        · exact I.heap.far c h (Xn_mono (by omega) hX)
        · rcases hX with hX | ⟨b, hb', o, cp, sz, hbc⟩
          · exact I.mfar _ ⟨st.next, _, _, _, hMe⟩ hX
          · have := I.minj _ _ _ _ _ _ _ _ _ hMe hbc; omega
      · rw [hXn _ (Nat.le_refl _)] at hc
        exact I.heap.xlt c (Xn_mono (by omega) hc)
    · have hbn : b ≠ st.next := fun h => hbm (by rw [h]; exact hM's)
      rw [hM'o b hbn] at hbm
      obtain ⟨q, hq, hqs, hqn, bl, c, cp, sz, g1, g2, g3, g4, g5⟩ := I.mlt b hbm
      rcases List.mem_cons.1 hq with rfl | hq
      · exact absurd (hqn.symm.trans hn) hbn
      · have := hmono q hq
        refine ⟨q, hq, hqs, hqn, bl, c, cp, sz, g1, by rw [hM'o b hbn]; exact g2, g3, g4, ?_⟩
        rw [hnx, hXn _ (by omega), hLn _ (by omega)]
        exact g5
    · have := hmono p hp
      rw [hM'o _ (by omega)]
      exact I.mall p (List.mem_cons_of_mem _ hp) hps bl hpb
    · have g1 : b ≠ st.next := by rintro rfl; rw [hM's] at h; cases h
      have g2 : b' ≠ st.next := by rintro rfl; rw [hM's] at h'; cases h'
      rw [hM'o _ g1] at h; rw [hM'o _ g2] at h'
      exact I.minj _ _ _ _ _ _ _ _ _ h h'
    · rintro c ⟨b, o, cp, sz, h⟩
      have g1 : b ≠ st.next := by rintro rfl; rw [hM's] at h; cases h
      rw [hM'o _ g1] at h
      exact I.mfar c ⟨b, o, cp, sz, h⟩
    · have := hmono p' hp
      have h3 := p'.n_le
      rw [hnx, hXn _ (by omega), hLn _ (by omega)]
      exact I.early p' (List.mem_cons_of_mem _ hp) hps d hd
    · rw [hnx]
      refine hslot hlift fun d hd => ?_
      obtain ⟨x, hx, hv⟩ := I.early p (List.mem_cons_self ..) hes d hd
      rw [hem] at hv
      rw [hXn _ (Nat.le_refl _)]
      exact ⟨x, hx, hv⟩
    · rw [hnx, h3]; exact I.defs.lift hlift
    · rw [h4]; exact RoundR.lift hlift I.round
    · rw [Ln_lt]
      apply Classical.byContradiction
      intro hh
      exact hb' (I.heap.out b (hp_none (Nat.not_lt.1 hh)))
    · rcases hown c hc with h | rfl
      · exact .inl h
      · exact .inr ⟨st.next, _, _, _, hMe⟩
    · rintro c ⟨b, o, cp, sz, h⟩
      have g1 : b ≠ st.next := by rintro rfl; rw [hM's] at h; cases h
      rw [hM'o _ g1] at h
      exact ⟨b, o, cp, sz, h⟩

/-- the core turns; what has been done early stays -/
theorem core_step {e : En} {v : AV} {x : Value} {fr2 : Fr} {st2 : St} {L2 : Loc} {w2 : World} {F2 : Frame} (pl : Pl ops.toList an) (I : Inv ops.toList an X (e.i :: s) (e :: es) fr st L M w F) (row : Row an (e :: es)) (hpw : ∀ b ∈ s, bit an e.i b = false)
    (hblk : e.blk = none) (hE : Ext L w L2 w2) (hH : HRel (Xn X M st.next) L2 st2.hp w2) (hnx : st.next ≤ st2.next) (hmono : ∀ p ∈ es, st2.next ≤ p.n) (hv : VRel (Xn X M st.next) L2 w2 v x) (h1 : fr2.tmps = putA fr.tmps (dstOf ops.toList e.i) v)
    (h2 : fr2.fn = fr.fn) (h4 : fr2.round = fr.round) (hds : DRels (Xn X M st.next) L2 w2 fr2.defs F2.defers) (hF1 : F2.fn = F.fn) (hF2 : F2.roundOf = F.roundOf) (hF3 : F2.tmps = putT F.tmps (dstOf ops.toList e.i) x) (hd : ∀ d, dstOf ops.toList e.i = some d → d < F.tmps.size) :
    Inv ops.toList an X s es fr2 st2 L2 M w2 F2 := by
  have hno : ∀ b, M b ≠ .absent → st2.next ≤ b := by
    intro b hb
    obtain ⟨p, hp, hps, hpn, _⟩ := I.mlt b hb
    rcases List.mem_cons.1 hp with rfl | hp
    · exact absurd (List.mem_cons_self ..) hps
    · rw [← hpn]; exact hmono p hp
  have hlc : Lift (Xn X M st.next) L w (Xn X M st.next) L2 w2 := hE.lift
  have hshr : ∀ c, Xn X M st2.next c → Xn X M st.next c := fun c => Xn_mono hnx
  have hl2 : Lift (Xn X M st.next) L w (Xn X M st2.next) L2 w2 := hlc.trans (.shrink hshr)
  have hMlt : ∀ c, Owned M c → c < w.heap.size := by
    rintro c ⟨b, o', cp, sz', hb⟩
    obtain ⟨p, hp, hps, hpn, bl, c', cp', sz'', hpb, h1, h2, _⟩ := I.mlt b (by rw [hb]; simp)
    rw [hb] at h1; cases h1; exact h2
  have hLlt : ∀ b, L b ≠ .absent → b < st.next := by
    intro b hb
    apply Classical.byContradiction
    intro hh
    exact hb (I.heap.out b (hp_none (Nat.not_lt.1 hh)))
  have hl : ∀ n, st2.next ≤ n → Lift (Xn X M n) (Ln L M st.next n) w (Xn X M n) (Ln L2 M st2.next n) w2 := by
    intro n hn
    have ownM : ∀ c, Owned M c → Owned (Ln L M st.next n) c ∨ Xn X M n c := by
      rintro c ⟨b, o, cp, sz, hb⟩
      have := hno b (by rw [hb]; simp)
      by_cases e2 : b < n
      · exact .inl ⟨b, o, cp, sz, by rw [Ln_mid (by omega) e2]; exact hb⟩
      · exact .inr (.inr ⟨b, by omega, o, cp, sz, hb⟩)
    refine ⟨fun b hb => ?_, fun c hc h2 h3 => ?_⟩
    · by_cases e1 : b < st.next
      · rw [Ln_lt e1] at hb ⊢
        rw [Ln_lt (by omega)]
        exact hE.loc b hb
      · by_cases e2 : b < n
        · rw [Ln_mid (by omega) e2] at hb
          rw [Ln_mid (lo := st.next) (by omega) e2, Ln_mid (lo := st2.next) (hno b hb) e2]
          exact .inl rfl
        · exact absurd (Ln_out (by omega) (by omega)) hb
    · have hnL : ¬ Owned L c := by
        rintro ⟨b, o, cp, sz, hb⟩
        exact h2 ⟨b, o, cp, sz, by rw [Ln_lt (hLlt b (by rw [hb]; simp))]; exact hb⟩
      have hnM : ¬ Owned M c := fun hh => (ownM c hh).elim h2 h3
      refine ⟨?_, h3, Nat.lt_of_lt_of_le hc hE.size, hE.same c hc hnL⟩
      rintro ⟨b, o, cp, sz, hb⟩
      by_cases e1 : b < st2.next
      · rw [Ln_lt e1] at hb
        rcases hE.own c ⟨b, o, cp, sz, hb⟩ with h | h
        · exact hnL h
        · omega
      · by_cases e2 : b < n
        · rw [Ln_mid (by omega) e2] at hb; exact hnM ⟨b, o, cp, sz, hb⟩
        · rw [Ln_out (by omega) (by omega)] at hb; cases hb
  have hni : ∀ p ∈ es, p.i ≠ e.i := by
    intro p hp hh
    have := row.nod
    rw [List.map_cons, List.nodup_cons] at this
    exact this.1 (List.mem_map.2 ⟨p, hp, hh⟩)
  have hstill : ∀ p ∈ es, p.i ∉ s → p.i ∉ e.i :: s := by
    intro p hp hps hh
    rcases List.mem_cons.1 hh with hh | hh
    · exact hni p hp hh
    · exact hps hh
  refine ⟨hH.shrink hshr, fun b hb => ?_, fun p hp hps bl hpb => I.mall p (List.mem_cons_of_mem _ hp) (hstill p hp hps) bl hpb, I.minj, I.mfar, fun p hp hps d hpd => ?_, fun t u hu hnt => ?_, fun p hp hps j hj => I.closed p (List.mem_cons_of_mem _ hp) (hstill p hp hps) j (List.mem_cons_of_mem _ hj), by rw [hF1, h2]; exact I.fn, hds.lift (.shrink hshr), ?_⟩
  · obtain ⟨p, hp, hps, hpn, bl, c, cap, sz, g1, g2, g3, g4, g5⟩ := I.mlt b hb
    have hbn := hno b hb
    rcases List.mem_cons.1 hp with rfl | hp'
    · exact absurd (List.mem_cons_self ..) hps
    · refine ⟨p, hp', fun hh => hps (List.mem_cons_of_mem _ hh), hpn, bl, c, cap, sz, g1, g2, Nat.lt_of_lt_of_le g3 hE.size, g4, g5.lift (hl (b + 1) (by omega)) (hE.same c g3 fun hh => ?_)⟩
      exact I.heap.far c hh (.inr ⟨b, by omega, _, _, _, g2⟩)
  · obtain ⟨y, hy, hyv⟩ := I.early p (List.mem_cons_of_mem _ hp) (hstill p hp hps) d hpd
    refine ⟨y, ?_, hyv.lift (hl _ (Nat.le_trans (hmono p hp) p.n_le))⟩
    rw [hF3, put_other (fun hh => hni p hp (pl.dst _ _ d hpd hh))]
    exact hy
  · rw [h1] at hu
    by_cases hdt : dstOf ops.toList e.i = some t
    · rw [hdt] at hu
      simp only [putA, T.get?_set, if_true] at hu
      cases hu
      refine ⟨x, ?_, hv.lift (.shrink hshr)⟩
      rw [hF3, hdt]
      exact put_same (hd t hdt)
    · have hu' : fr.tmps.get? t = some u := by
        cases hdd : dstOf ops.toList e.i with
        | none => rw [hdd] at hu; exact hu
        | some d =>
          rw [hdd] at hu hdt
          simp only [putA, T.get?_set] at hu
          rw [if_neg (fun hh => hdt (by rw [hh]))] at hu
          exact hu
      obtain ⟨y, hy, hyv⟩ := I.slots t u hu' (fun p hp hps hpt => by
        rcases List.mem_cons.1 hp with rfl | hp
        · exact hps (List.mem_cons_self ..)
        · exact hnt p hp (fun hh => hps (List.mem_cons_of_mem _ hh)) hpt)
      refine ⟨y, ?_, hyv.lift hl2⟩
      rw [hF3, put_other hdt]
      exact hy
  · have := RoundR.lift hlc I.round
    rw [h4]
    cases hr : fr.round with
    | none => rw [hr] at this; exact hF2.trans this
    | some l =>
      rw [hr] at this
      obtain ⟨c, k1, k2⟩ := this
      exact ⟨c, hF2.trans k1, k2⟩
end
end Go.Sy

/- A region that draws its order: all of its steps. -/
set_option linter.unusedVariables false
set_option linter.unusedSimpArgs false
namespace Go.Sy

structure Ro (ops : List Oper) (an : List Nat) (rest : List Nat) : Prop where
  nod : rest.Nodup
  ord : rest.Pairwise fun a b => bit an a b = false
  eff : ∀ a i b, rest = a ++ i :: b → ∀ o, ops[i]? = some o → opKd o.op = .eff → ∀ x ∈ a, bit an i x = true
theorem Ro.tail {ops : List Oper} {an : List Nat} {i : Nat} {rest : List Nat} (h : Ro ops an (i :: rest)) : Ro ops an rest :=
  ⟨(List.nodup_cons.1 h.nod).2, (List.pairwise_cons.1 h.ord).2, fun a j b he o ho hk x hx => h.eff (i :: a) j b (by rw [he]; rfl) o ho hk x (List.mem_cons_of_mem _ hx)⟩
theorem Ro.suffix {ops : List Oper} {an : List Nat} {rest : List Nat} : ∀ {a : List Nat}, Ro ops an (a ++ rest) → Ro ops an rest
  | [], h => h
  | _ :: _, h => Ro.suffix h.tail
def NonEff (ops : List Oper) (i : Nat) : Prop := ∀ o, ops[i]? = some o → opKd o.op ≠ .eff

section
variable {tb : Tab} {rec : Cmd → St → Ex} {ops : List Oper} {an : List Nat}
theorem DR.sub {l : List Nat} {acc : List (Nat × Log)} {fr : Fr} {bel : Below} {st : St} {r : Res} {es : List En} (h : DR tb rec ops an l acc fr bel st r es) : (es.map (·.i)).Sublist l := by
  induction h with
  | nil => exact .slnil
  | non ho h h2 h3 ih => exact .cons_cons _ ih
  | eff ho hw hk he hob ht hkeep h2 h3 ih => exact .cons_cons _ ih
  | pan ho hw hk he hob h2 h3 h4 => rw [h4]; exact .cons _ List.filter_sublist
theorem DR.row {l : List Nat} {acc : List (Nat × Log)} {fr : Fr} {bel : Below} {st : St} {r : Res} {es : List En} (h : DR tb rec ops an l acc fr bel st r es) (ro : Ro ops an l) : Row an es := by
  have hs := h.sub
  have h1 := ro.ord.sublist hs
  rw [List.pairwise_map] at h1
  exact ⟨h1, ro.nod.sublist hs⟩
theorem DR.find {l : List Nat} {acc : List (Nat × Log)} {fr : Fr} {bel : Below} {st : St} {r : Res} {es : List En} (h : DR tb rec ops an l acc fr bel st r es) {j : Nat} (hj : j ∈ l) (hn : NonEff ops j) :
    (∃ e ∈ es, e.i = j) ∨ ∃ m ∈ l, ¬ NonEff ops m ∧ bit an j m = true := by
  induction h with
  | nil => cases hj
  | @non _ _ _ _ _ i o v blk rest r es ho h h2 h3 ih =>
    rcases List.mem_cons.1 hj with rfl | hj
    · exact .inl ⟨_, List.mem_cons_self .., rfl⟩
    · rcases ih hj with ⟨e, he, h⟩ | ⟨m, hm, h⟩
      · exact .inl ⟨e, List.mem_cons_of_mem _ he, h⟩
      · exact .inr ⟨m, List.mem_cons_of_mem _ hm, h⟩
  | @eff _ _ _ _ _ _ _ _ i o v rest r es ho hw hk he hob ht hkeep h2 h3 ih =>
    rcases List.mem_cons.1 hj with rfl | hj
    · exact .inl ⟨_, List.mem_cons_self .., rfl⟩
    · rcases ih hj with ⟨e, he, h⟩ | ⟨m, hm, h⟩
      · exact .inl ⟨e, List.mem_cons_of_mem _ he, h⟩
      · exact .inr ⟨m, List.mem_cons_of_mem _ hm, h⟩
  | @pan _ _ _ _ _ _ _ i o v rest es ho hw hk he hob h2 h3 h4 =>
    rcases List.mem_cons.1 hj with rfl | hj
    · exact absurd hk (hn o ho)
    · cases hb : bit an j i with
      | true => exact .inr ⟨i, List.mem_cons_self .., fun hh => hh o ho hk, hb⟩
      | false =>
        have : j ∈ es.map (·.i) := by rw [h4]; exact List.mem_filter.2 ⟨hj, by simp [hb]⟩
        obtain ⟨e, he, hh⟩ := List.mem_map.1 this
        exact .inl ⟨e, he, hh⟩
end

theorem restrict (t : T AV) : ∀ (l : List Nat), ∃ t' : T AV, (∀ i ∈ l, t'.get? i = t.get? i) ∧ ∀ i, i ∉ l → t'.get? i = none
  | [] => ⟨.nil, (fun i hi => by cases hi), fun i _ => T.get?_nil i⟩
  | j :: l => by
    obtain ⟨t', h1, h2⟩ := restrict t l
    refine ⟨t'.set j (t.get? j), fun i hi => ?_, fun i hi => ?_⟩
    · rw [T.get?_set]
      split
      · rename_i e; rw [e]
      · rename_i e
        rcases List.mem_cons.1 hi with h | h
        · exact absurd h e
        · exact h1 i h
    · rw [T.get?_set, if_neg (fun e : i = j => hi (by rw [e]; exact List.mem_cons_self ..))]
      exact h2 i fun h => hi (List.mem_cons_of_mem _ h)

theorem drop_get (ops : List Oper) : ∀ (l : List Nat) (t : T AV) (i : Nat) (v : AV), (dropSlots ops l t).get? i = some v → t.get? i = some v ∧ ∀ j ∈ l, dstOf ops j ≠ some i := by
  intro l
  induction l with
  | nil => intro t i v h; exact ⟨h, fun j hj => by cases hj⟩
  | cons j l ih =>
    intro t i v h
    have e : dropSlots ops (j :: l) t = dropSlots ops l (match dstOf ops j with | some d => t.set d none | none => t) := rfl
    rw [e] at h
    obtain ⟨h1, h2⟩ := ih _ i v h
    cases hd : dstOf ops j with
    | none =>
      rw [hd] at h1
      refine ⟨h1, fun q hq => ?_⟩
      rcases List.mem_cons.1 hq with rfl | hq
      · rw [hd]; simp
      · exact h2 q hq
    | some d =>
      rw [hd] at h1
      simp only [T.get?_set] at h1
      split at h1
      · cases h1
      · rename_i hne
        refine ⟨h1, fun q hq => ?_⟩
        rcases List.mem_cons.1 hq with rfl | hq
        · rw [hd]; intro hh; cases hh; exact hne rfl
        · exact h2 q hq

section
variable {P : Program} {tb : Tab} {rec : Cmd → St → Ex} {ops : Array Oper} {an : List Nat} {X : Nat → Prop}

def MainR (P : Program) (X : Nat → Prop) (k : List Item) (r : Res) (L M : Loc) (w : World) (F : Frame) (cs : List Frame) : Prop :=
  ∃ L' w' F' cs', Steps P (lone F cs w) (lone F' cs' w') ∧ ExtM L M w L' w' ∧ HRel X L' r.st.hp w' ∧ F'.fn = F.fn ∧ F'.kind = F.kind ∧ F'.roundOf = F.roundOf ∧ F'.tmps.size = F.tmps.size ∧ Unders F.kind cs cs' ∧
        FRel X L' w' r.fr F' ∧ BelR X L' w' r.bel F.kind cs' ∧ OutR X L' w' F' k r.out
theorem integrate_all {s : List Nat} {w : World} {F : Frame} {kd : CallKind} {cs : List Frame} {r : Res} {bel : Below} {acc : List (Nat × Log)} : ∀ (a rest2 : List Nat) (fr : Fr) (st : St) (es : List En) (L M : Loc),
    DR tb rec ops.toList an (a ++ rest2) acc fr bel st r es → Ro ops.toList an (a ++ rest2) → (∀ x ∈ a, x ∉ s ∧ NonEff ops.toList x) → Inv ops.toList an X s es fr st L M w F → BelR (Xn X M st.next) L w bel kd cs →
    ∃ fr2 st2 es2 L2 M2, DR tb rec ops.toList an rest2 acc fr2 bel st2 r es2 ∧ Inv ops.toList an X s es2 fr2 st2 L2 M2 w F ∧ BelR (Xn X M2 st2.next) L2 w bel kd cs ∧ ∀ L' w', ExtM L2 M2 w L' w' → ExtM L M w L' w' := by
  intro a
  induction a with
  | nil => intro rest2 fr st es L M h _ _ I hb; exact ⟨fr, st, es, L, M, h, I, hb, fun _ _ h => h⟩
  | cons x a iha =>
    intro rest2 fr st es L M h ro hx I hb
    obtain ⟨hxs, hxn⟩ := hx x (List.mem_cons_self ..)
    have hmo := h.ch.mono
    cases h with
    | @non _ _ _ _ st' _ o v blk _ _ es ho hns h2 h3 =>
      rw [List.pairwise_cons] at hmo
      obtain ⟨e1, e2, e3, e4⟩ := put_fr fr o.dst v
      obtain ⟨L1, M1, I1, g1, g2, g3, g4⟩ := integrate (e := ⟨x, v, st.next, blk⟩) (fr' := fr.put o.dst v) (st' := st') I hxs rfl (put_tmps ho v) e2 e3 e4 h2 hmo.1.1
      obtain ⟨fr2, st2, es2, L2, M2, k1, k2, k3, k4⟩ := iha rest2 _ _ _ _ _ h3 ro.tail (fun y hy => hx y (List.mem_cons_of_mem _ hy)) I1 (hb.lift g4)
      exact ⟨fr2, st2, es2, L2, M2, k1, k2, k3, fun L' w' hh => (k4 L' w' hh).take g1 g2 g3⟩
    | eff ho hw hk _ _ _ _ _ _ => exact absurd hk (hxn _ ho)
    | pan ho hw hk _ _ _ _ _ => exact absurd hk (hxn _ ho)

theorem core_ops (pl : Pl ops.toList an) {s : List Nat} {j : Nat} {es : List En} {fr : Fr} {st : St} {L M : Loc} {w : World} {F : Frame} (I : Inv ops.toList an X (j :: s) es fr st L M w F) (hord : ∀ p ∈ es, p.i ∉ j :: s → bit an j p.i = false) {o : Oper} (ho : ops.toList[j]? = some o) :
    ∀ t ∈ readsOf ops.toList o, ∀ v, fr.tmps.get? t = some v → ∃ x, F.tmps[t]? = some x ∧ VRel (Xn X M st.next) L w v x := by
  intro t ht v hv
  refine I.slots t v hv fun p hp hps hpt => ?_
  rcases pl.reads _ _ _ _ ho hpt ht with h | h
  · rw [hord p hp hps] at h; cases h
  · rw [I.closed p hp hps j (List.mem_cons_self ..)] at h; cases h

theorem draw_main (ih : RecOK P rec) (hT : TabOK P tb) (hF : FieldsOK tb) (hS : SpecOK P tb) (hfun : ∀ f args b s r, rec (.call f args b) s = .ok r → ∃ fn, tb.funcs.get? f = some fn ∧ fn.body.isSome = true) (pl : Pl ops.toList an) {k : List Item} :
    ∀ (s rest : List Nat) (acc : List (Nat × Log)) (fr : Fr) (bel : Below) (st : St) (r : Res) (es : List En) (L M : Loc) (w : World) (F : Frame) (cs : List Frame), DR tb rec ops.toList an rest acc fr bel st r es → Ro ops.toList an rest →
      s.Nodup → s.Pairwise (fun a b => bit an a b = false) → (∀ j ∈ s, j ∈ rest) → (∀ i ∈ rest, i ∉ s → NonEff ops.toList i) → Inv ops.toList an X s es fr st L M w F → F.mode = .run → F.todo = .inRegion ops s :: k →
      (∀ o ∈ ops.toList, ∀ d, o.dst = some d → d < F.tmps.size) → BelR (Xn X M st.next) L w bel F.kind cs →
      MainR P X k r L M w F cs := by
  intro s
  induction s with
  | nil =>
    intro rest acc fr bel st r es L M w F cs hd ro _ _ _ hne I hm ht _ hb
    obtain ⟨fr2, st2, es2, L2, M2, k1, k2, k3, k4⟩ := integrate_all rest [] fr st es L M (by rw [List.append_nil]; exact hd) (by rw [List.append_nil]; exact ro) (fun x hx => ⟨by simp, hne x hx (by simp)⟩) I hb
    cases k1
    have hsh : ∀ c, X c → Xn X M2 st2.next c := fun c hc => .inl hc
    have hst : step P (lone F cs w) = .next (lone { F with todo := k } cs w) := step_lone_go (by simp [stepG, stepG.exec, hm, ht])
    refine ⟨L2, w, { F with todo := k }, cs, .one hst, k4 _ _ (.refl _ _ _), k2.heap.shrink hsh, rfl, rfl, rfl, rfl, .refl _ _, ⟨k2.fn, fun t v hv => ?_, k2.defs.lift (.shrink hsh), k2.round⟩, k3.lift (.shrink hsh), hm, rfl⟩
    obtain ⟨x, hx, hxv⟩ := k2.slots t v hv (fun p hp => by cases hp)
    exact ⟨x, hx, hxv.lift (.shrink hsh)⟩
  | cons j s ihs =>
    intro rest acc fr bel st r es L M w F cs hd ro hnd hpw hin hne I hm ht hsz hb
    rw [List.nodup_cons] at hnd
    rw [List.pairwise_cons] at hpw
    have hjr := hin j (List.mem_cons_self ..)
    by_cases hje : NonEff ops.toList j
    · -- ahead of its turn
      have hj : ∃ e ∈ es, e.i = j := by
        rcases hd.find hjr hje with h | ⟨m, hmr, hmn, hmb⟩
        · exact h
        · exfalso
          have hms : m ∈ j :: s := by
            apply Classical.byContradiction
            intro hh
            exact hmn (hne m hmr hh)
          rcases List.mem_cons.1 hms with rfl | hms
          · exact hmn hje
          · rw [hpw.1 m hms] at hmb; cases hmb
      obtain ⟨e, hes, rfl⟩ := hj
      obtain ⟨pre, post, rfl⟩ := List.append_of_mem hes
      have hsub := hd.sub
      obtain ⟨M1, w1, x, o, ho, hstep, I1, q1, q2, q3, q4, q5, q6, q7⟩ := early_step (P := P) (cs := cs) hT hF pl rfl (hd.row ro) hd.ch I hpw.1 hnd.1 hje
        (fun p hp hps => hne p.i (hsub.subset (List.mem_map.2 ⟨p, hp, rfl⟩)) hps) hm ht hsz
      obtain ⟨L', w', F', cs', t1, t2, t3, t4, t5, t6, t7, t8, t9, t10, t11⟩ := ihs rest acc fr bel st r _ L M1 w1 _ cs hd ro hnd.2 hpw.2 (fun i hi => hin i (List.mem_cons_of_mem _ hi)) (fun i hi his => by
        by_cases hie : i = e.i
        · rw [hie]; exact hje
        · exact hne i hi (by rw [List.mem_cons]; rintro (h | h); exact hie h; exact his h)) I1 hm rfl (fun o' ho' d hd' => by simp only [putT_size]; exact hsz o' ho' d hd') (hb.lift q7)
      refine ⟨L', w', F', cs', .head hstep t1, t2.early q1 q2 q3 q4 q5 q6, t3, t4, t5, t6, ?_, t8, t9, t10, t11⟩
      rw [t7]; exact putT_size _ _ _
    · -- its turn
      obtain ⟨a, b, rfl⟩ := List.append_of_mem hjr
      have hjo : ∃ o, ops.toList[j]? = some o ∧ opKd o.op = .eff := by
        apply Classical.byContradiction
        intro hh
        exact hje fun o ho hk => hh ⟨o, ho, hk⟩
      obtain ⟨o, ho, hk⟩ := hjo
      have ho2 : ops[j]? = some o := by rw [← Array.getElem?_toList]; exact ho
      have hanc := ro.eff a j b rfl o ho hk
      have hnod := ro.nod
      rw [List.nodup_append, List.nodup_cons] at hnod
      have has : ∀ x ∈ a, x ∉ j :: s := by
        intro x hx hh
        rcases List.mem_cons.1 hh with rfl | hh
        · exact hnod.2.2 x hx x (List.mem_cons_self ..) rfl
        · have := hanc x hx; rw [hpw.1 x hh] at this; cases this
      let L0 := L
      let M0 := M
      obtain ⟨fr, st, es, L2, M, hd, I, hb, hext⟩ := integrate_all a (j :: b) fr st es L M hd ro (fun x hx => ⟨has x hx, hne x (List.mem_append.2 (.inl hx)) (has x hx)⟩) I hb
      have ro2 : Ro ops.toList an (j :: b) := ro.suffix
      have hrow := hd.row ro2
      have hmo := hd.ch.mono
      have hdj : ∀ d, dstOf ops.toList j = some d → d < F.tmps.size := by
        intro d hdd
        rw [dstOf, ho] at hdd
        exact hsz o (List.mem_of_getElem? ho) d hdd
      have hdo : dstOf ops.toList j = o.dst := by simp [dstOf, ho]
      have hin2 : ∀ i ∈ s, i ∈ b := by
        intro i hi
        have h1 := hin i (List.mem_cons_of_mem _ hi)
        rcases List.mem_append.1 h1 with h | h
        · exact absurd (List.mem_cons_of_mem _ hi) (has i h)
        · rcases List.mem_cons.1 h with rfl | h
          · exact absurd hi hnd.1
          · exact h
      have hne2 : ∀ i ∈ b, i ∉ s → NonEff ops.toList i := by
        intro i hi his
        refine hne i (List.mem_append.2 (.inr (List.mem_cons_of_mem _ hi))) ?_
        rw [List.mem_cons]
        rintro (rfl | h)
        · exact hnod.2.1.1 hi
        · exact his h
      -- behind it
      have behind : ∀ {v : AV} {x : Value} {fr2 : Fr} {st2 : St} {L3 : Loc} {w3 : World} {ds : List Deferred} {cs3 : List Frame} {bel2 : Below} {acc2 : List (Nat × Log)} {es2 : List En}, Inv ops.toList an X (j :: s) (⟨j, v, st.next, none⟩ :: es2) fr st L2 M w F → Row an (⟨j, v, st.next, none⟩ :: es2) →
          DR tb rec ops.toList an b acc2 fr2 bel2 st2 r es2 → Steps P (lone F cs w) (lone { F with tmps := putT F.tmps o.dst x, todo := .inRegion ops s :: k, defers := ds } cs3 w3) → Ext L2 w L3 w3 → HRel (Xn X M st.next) L3 st2.hp w3 → st.next ≤ st2.next →
          VRel (Xn X M st.next) L3 w3 v x → fr2.tmps = putA fr.tmps (dstOf ops.toList j) v → fr2.fn = fr.fn → fr2.round = fr.round → DRels (Xn X M st.next) L3 w3 fr2.defs ds → BelR (Xn X M st.next) L3 w3 bel2 F.kind cs3 → Unders F.kind cs cs3 →
          MainR P X k r L2 M w F cs := by
        intro v x fr2 st2 L3 w3 ds cs3 bel2 acc2 es2 I hrow hd2 hsteps hE hH hnx hv h1 h2 h3 hds hb3 hu
        have I2 := core_step (F := F) (fr2 := fr2) (st2 := st2) (F2 := { F with tmps := putT F.tmps o.dst x, todo := .inRegion ops s :: k, defers := ds }) pl I hrow hpw.1 rfl hE hH hnx (hd2.ch.mono.2) hv h1 h2 h3 hds rfl rfl (by rw [hdo]) hdj
        obtain ⟨L', w', F', cs', t1, t2, t3, t4, t5, t6, t7, t8, t9, t10, t11⟩ := ihs b acc2 fr2 bel2 st2 r es2 L3 M w3 _ cs3 hd2 ro2.tail hnd.2 hpw.2 hin2 hne2 I2 hm rfl (fun o' ho' d hd' => by simp only [putT_size]; exact hsz o' ho' d hd') (hb3.lift (.shrink fun c => Xn_mono hnx))
        refine ⟨L', w', F', cs', hsteps.trans t1, t2.core hE, t3, t4, t5, t6, ?_, hu.trans t8, t9, t10, t11⟩
        rw [t7]; exact putT_size _ _ _
      have hordE : ∀ {es2 : List En} {v : AV}, Row an (⟨j, v, st.next, none⟩ :: es2) → ∀ p ∈ (⟨j, v, st.next, none⟩ : En) :: es2, p.i ∉ j :: s → bit an j p.i = false := by
        intro es2 v hrow p hp hps
        rcases List.mem_cons.1 hp with rfl | hp
        · exact absurd (List.mem_cons_self ..) hps
        · exact (List.pairwise_cons.1 hrow.ord).1 p hp
      -- what it looks at
      obtain ⟨T', hT1, hT2⟩ := restrict fr.tmps (readsOf ops.toList o)
      have hag : ∀ x ∈ o.op.operands, fr.eval x = ({ fr with tmps := T' } : Fr).eval x := by
        intro x hx
        cases x with
        | tmp t =>
          have : t ∈ readsOf ops.toList o := List.mem_append.2 (.inl (List.mem_filterMap.2 ⟨.tmp t, Array.mem_toList_iff.2 hx, rfl⟩))
          simp only [Fr.eval, Fr.slot]
          rw [hT1 t this]
        | _ => rfl
      have hrel : ∀ {es : List En}, (∀ t ∈ readsOf ops.toList o, ∀ v, fr.tmps.get? t = some v → ∃ x, F.tmps[t]? = some x ∧ VRel (Xn X M st.next) L2 w v x) → OpRel (Xn X M st.next) L2 w ({ fr with tmps := T' } : Fr).eval F.eval := by
        intro es hops x
        cases x with
        | tmp t =>
          simp only [Fr.eval, Fr.slot, Frame.eval]
          cases hg : T'.get? t with
          | none => exact .junk _
          | some v =>
            have htm : t ∈ readsOf ops.toList o := by
              apply Classical.byContradiction
              intro hh
              rw [hT2 t hh] at hg; cases hg
            obtain ⟨y, hy, hv⟩ := hops t htm v (by rw [← hT1 t htm]; exact hg)
            simp only [Option.getD_some, Array.getD_eq_getD_getElem?, hy]
            exact hv
        | const v => exact .const ..
        | global g => exact .junk _
        | func f => exact .fn rfl rfl (fun j v x h => by simp at h) (fun j v x h => by simp at h)
      have want : ∀ bb, (∀ t ∈ readsOf ops.toList o, ∀ v, fr.tmps.get? t = some v → ∃ x, F.tmps[t]? = some x ∧ VRel (Xn X M st.next) L2 w v x) → wantedA o ops.toList fr = some bb → Region.wanted o (yielded ops F.tmps) = bb := by
        intro bb hops hw
        exact wanted_ok hw fun g wnt d hg hgd v hv => hops d (List.mem_append.2 (.inr (by rw [hg]; simp [hgd]))) v hv
      have hwrap : MainR P X k r L2 M w F cs → MainR P X k r L0 M0 w F cs := fun ⟨L', w', F', cs', t1, t2, t⟩ => ⟨L', w', F', cs', t1, hext _ _ t2, t⟩
      apply hwrap
      cases hd with
      | @non _ _ _ _ st' _ o' v blk _ _ es2 ho' hns h2 h3 =>
        rw [ho] at ho'
        cases ho'
        cases hns with
        | @skip o' ho' hw =>
          rw [ho] at ho'
          cases ho'
          have hops := core_ops pl I (hordE hrow) ho
          have hst := st_skipped (P := P) (cs := cs) (w := w) hm ht ho2 (want _ hops hw)
          obtain ⟨e1, e2, e3, e4⟩ := put_fr fr o.dst undefA
          exact behind I hrow h3 (.one hst) (.refl _ _) (by rw [h2.hp]; exact I.heap) (by rw [h2.next]; exact Nat.le_refl _) undef_rel (put_tmps ho _) e2 e4 (by rw [e3]; exact I.defs) hb (.refl _ _)
        | @val o' _ ho' hw hk' _ _ => rw [ho] at ho'; cases ho'; rw [hk] at hk'; cases hk'
        | @new o' _ _ ho' hw hk' _ => rw [ho] at ho'; cases ho'; rw [hk] at hk'; cases hk'
      | @eff _ _ fr1 _ bel1 _ st1 st' _ o' v _ _ es2 ho' hw hk' he hob htm hkeep h2 h3 =>
        rw [ho] at ho'
        cases ho'
        have hops := core_ops pl I (hordE hrow) ho
        have he' := evEff_tmps (tb := tb) (rec := rec) (bel := bel) (st := { st with log := [] }) hag
        rw [he] at he'
        have := eff_ok ih hT hS he' (fun s' hs' => by cases hs'; exact hob) hfun hm ht ho2 (want _ hops hw) (L := L2) (w := w) (cs := cs) (X := Xn X M st.next) (by rw [hp_log]; exact I.heap) I.defs
          (fun hr => by have := I.round; unfold RoundR at this; have hr' : fr.round = none := hr; rw [hr'] at this; exact this) hb (hrel (es := es2) hops)
        obtain ⟨_, g2, g3, x, L3, w3, ds, cs3, s1, hE, hH, hv, hds, hb3, hu⟩ := this
        obtain ⟨e1, e2, e3, e4⟩ := put_fr fr1 o.dst v
        refine behind I hrow h3 s1 hE (by rw [h2.hp]; exact hH) hkeep.next hv (by rw [put_tmps ho, htm]) (by rw [e2]; exact g2) (by rw [e4]; exact g3) (by rw [e3]; exact hds) hb3 hu
      | @pan _ _ _ bel1 _ st1 st' _ o' v _ _ ho' hw hk' he hob h2 h3 h4 =>
        rw [ho] at ho'
        cases ho'
        have hops := core_ops pl I (fun p hp hps => by
          have : p.i ∈ es.map (·.i) := List.mem_map.2 ⟨p, hp, rfl⟩
          rw [h4] at this
          exact (List.pairwise_cons.1 ro2.ord).1 _ (List.mem_filter.1 this).1) ho
        have he' := evEff_tmps (tb := tb) (rec := rec) (bel := bel) (st := { st with log := [] }) hag
        rw [he] at he'
        have := eff_ok ih hT hS he' (fun s' hs' => by cases hs'; exact hob) hfun hm ht ho2 (want _ hops hw) (L := L2) (w := w) (cs := cs) (X := Xn X M st.next) (by rw [hp_log]; exact I.heap) I.defs
          (fun hr => by have := I.round; unfold RoundR at this; have hr' : fr.round = none := hr; rw [hr'] at this; exact this) hb (hrel (es := es) hops)
        obtain ⟨ch, L3, w3, cs3, s1, hE, hH, hc, hb3, hu⟩ := this
        have hsh : ∀ c, X c → Xn X M st.next c := fun c hc => .inl hc
        have hl : Lift (Xn X M st.next) L2 w X L3 w3 := hE.lift.trans (.shrink hsh)
        refine ⟨L3, w3, { F with mode := .panicking ch }, cs3, s1, hE.toM, by rw [h2.hp]; exact hH.shrink hsh, rfl, rfl, rfl, rfl, hu, ⟨I.fn, fun t u hu' => ?_, I.defs.lift hl, ?_⟩, hb3.lift (.shrink hsh), ch, rfl, hc.lift (.shrink hsh)⟩
        · obtain ⟨k1, k2⟩ := drop_get _ _ _ _ _ hu'
          obtain ⟨x, hx, hxv⟩ := I.slots t u k1 (fun p hp hps => by
            have : p.i ∈ es.map (·.i) := List.mem_map.2 ⟨p, hp, rfl⟩
            rw [h4] at this
            exact k2 _ (List.mem_filter.1 this).1)
          exact ⟨x, hx, hxv.lift hl⟩
        · exact RoundR.lift hl I.round
end
end Go.Sy

/- Regions. -/
set_option linter.unusedVariables false
set_option linter.unusedSimpArgs false
namespace Go.Sy

section
variable {ops : List Oper} {an : List Nat}
theorem planRow_ok : ∀ (c pre : List Nat), planRow ops an ops.length pre c = true → (∀ x ∈ c, x < ops.length ∧ x ∉ pre) ∧ c.Nodup ∧ c.Pairwise (fun a b => bit an a b = false) ∧
    ∀ a i b, c = a ++ i :: b → ∀ o, ops[i]? = some o → opKd o.op = .eff → (∀ x ∈ pre, bit an i x = true) ∧ ∀ x ∈ a, bit an i x = true := by
  intro c
  induction c with
  | nil => intro pre _; exact ⟨(fun x hx => by cases hx), .nil, .nil, fun a i b h => by simp at h⟩
  | cons i c ih =>
    intro pre h
    simp only [planRow, Bool.and_eq_true, blt_dec, decide_eq_true_eq, Bool.not_eq_true'] at h
    obtain ⟨⟨⟨⟨h1, h2⟩, h3⟩, h4⟩, h5⟩ := h
    obtain ⟨q1, q2, q3, q4⟩ := ih (i :: pre) h5
    have hipre : i ∉ pre := by
      intro hh
      rw [List.contains_iff_mem.2 hh] at h2; cases h2
    refine ⟨fun x hx => ?_, List.nodup_cons.2 ⟨fun hh => (q1 i hh).2 (List.mem_cons_self ..), q2⟩, List.pairwise_cons.2 ⟨fun b hb => ?_, q3⟩, fun a j b he o ho hk => ?_⟩
    · rcases List.mem_cons.1 hx with rfl | hx
      · exact ⟨h1, hipre⟩
      · exact ⟨(q1 x hx).1, fun hh => (q1 x hx).2 (List.mem_cons_of_mem _ hh)⟩
    · cases hbb : bit an i b with
      | false => rfl
      | true =>
        exfalso
        have := List.all_eq_true.1 h3 b (List.mem_range.2 (q1 b hb).1)
        simp only [hbb, Bool.not_true, Bool.false_or] at this
        exact (q1 b hb).2 (List.mem_cons_of_mem _ (List.contains_iff_mem.1 this))
    · cases a with
      | nil =>
        simp only [List.nil_append, List.cons.injEq] at he
        obtain ⟨rfl, rfl⟩ := he
        rw [ho] at h4
        simp only [isEff, hk, Bool.not_true, Bool.false_or] at h4
        exact ⟨fun x hx => List.all_eq_true.1 h4 x hx, fun x hx => by cases hx⟩
      | cons y a =>
        simp only [List.cons_append, List.cons.injEq] at he
        obtain ⟨rfl, rfl⟩ := he
        obtain ⟨k1, k2⟩ := q4 a j b rfl o ho hk
        refine ⟨fun x hx => k1 x (List.mem_cons_of_mem _ hx), fun x hx => ?_⟩
        rcases List.mem_cons.1 hx with rfl | hx
        · exact k1 _ (List.mem_cons_self ..)
        · exact k2 x hx
theorem canon_mem (j : Nat) (h : j < ops.length) : j ∈ canon ops an := by
  unfold canon
  simp only [List.mem_append, List.mem_filter, List.mem_range, Bool.not_eq_true']
  by_cases hh : j ∈ canonGo ops an (List.range ops.length) []
  · exact .inl hh
  · refine .inr ⟨h, ?_⟩
    cases hc : (canonGo ops an (List.range ops.length) []).contains j with
    | false => rfl
    | true => exact absurd (List.contains_iff_mem.1 hc) hh
structure PlanFacts (ops : List Oper) (an c : List Nat) : Prop where
  pl : Pl ops an
  ro : Ro ops an c
  edge : ∀ i o, ops[i]? = some o → ∀ e ∈ edgesOf o, e < i
  anc : ∀ i o j, ops[i]? = some o → j < ops.length → bit an i j = true → ∃ e ∈ edgesOf o, e = j ∨ bit an e j = true
theorem planOK_ok {c : List Nat} (h : planOK ops an c = true) : PlanFacts ops an c := by
  simp only [planOK, Bool.and_eq_true] at h
  obtain ⟨⟨h1, h2⟩, _⟩ := h
  have one : ∀ i o, ops[i]? = some o → planOne ops an c i o = true := by
    intro i o ho
    have := List.all_eq_true.1 h1 (o, i) (List.mem_zipIdx_iff_getElem?.2 ho)
    exact this
  obtain ⟨q1, q2, q3, q4⟩ := planRow_ok c [] h2
  refine ⟨⟨fun i j d hi hj => ?_, fun i o j d ho hj hd => ?_⟩, ⟨q2, q3, fun a i b he o ho hk => (q4 a i b he o ho hk).2⟩, fun i o ho e he => ?_, fun i o j ho hj hb => ?_⟩
  · obtain ⟨o, ho, hod⟩ := Option.bind_eq_some_iff.1 hi
    have h := one i o ho
    simp only [planOne, Bool.and_eq_true] at h
    obtain ⟨oj, hoj, hojd⟩ := Option.bind_eq_some_iff.1 hj
    have := List.all_eq_true.1 h.2 j (List.mem_range.2 (List.getElem?_eq_some_iff.1 hoj).1)
    have hj' : (ops[j]?).bind (·.dst) = some d := hj
    rw [hj'] at this
    simp only [Bool.and_eq_true, Bool.or_eq_true, beq_dec, decide_eq_true_eq] at this
    rcases this.2 with h | h
    · exact h
    · rw [hod] at h; simp at h
  · have h := one i o ho
    simp only [planOne, Bool.and_eq_true] at h
    obtain ⟨oj, hoj, hojd⟩ := Option.bind_eq_some_iff.1 hj
    have := List.all_eq_true.1 h.2 j (List.mem_range.2 (List.getElem?_eq_some_iff.1 hoj).1)
    have hj' : (ops[j]?).bind (·.dst) = some d := hj
    rw [hj'] at this
    simp only [Bool.and_eq_true, Bool.or_eq_true] at this
    rcases this.1 with (h | h) | h
    · rw [List.contains_iff_mem.2 hd] at h; cases h
    · exact .inl h
    · exact .inr h
  · have h := one i o ho
    simp only [planOne, Bool.and_eq_true] at h
    have := List.all_eq_true.1 h.1.1.1 e he
    simpa [blt_dec] using this
  · have h := one i o ho
    simp only [planOne, Bool.and_eq_true] at h
    have := List.all_eq_true.1 h.1.1.2 j (List.mem_range.2 hj)
    simp only [hb, Bool.not_true, Bool.false_or, List.any_eq_true, Bool.or_eq_true, beq_dec, decide_eq_true_eq] at this
    exact this
end

section
variable {P : Program} {tb : Tab} {rec : Cmd → St → Ex} {X : Nat → Prop}
theorem st_region {id : Nat} {ops : Array Oper} {F : Frame} {cs : List Frame} {w : World} {k : List Item} (hm : F.mode = .run) (ht : F.todo = .code (.region id ops false) :: k) : step P (lone F cs w) = .next (lone { F with todo := .inRegion ops (List.range ops.size) :: k } cs w) :=
  step_lone_go (by simp [stepG, stepG.exec, hm, ht])
theorem st_draw {id : Nat} {ops : Array Oper} {F : Frame} {cs : List Frame} {w : World} {k : List Item} (hx : P.follows .mixedOrders = true) (hm : F.mode = .run) (ht : F.todo = .code (.region id ops true) :: k) :
    step P (lone F cs w) = .next (lone { F with todo := .inRegion ops (Region.linearise .any ops (w.tape w.drawn (.order F.fn id))) :: k } cs { w with drawn := w.drawn + 1 }) :=
  step_lone_go (by simp [stepG, stepG.exec, hm, ht, choose, Sem.run, Question.forced, Question.cut, Region.schedule, hx])

theorem region_ok (ih : RecOK P rec) (hT : TabOK P tb) (hF : FieldsOK tb) (hS : SpecOK P tb) (hfun : ∀ f args b s r, rec (.call f args b) s = .ok r → ∃ fn, tb.funcs.get? f = some fn ∧ fn.body.isSome = true)
    {id : Nat} {ops : Array Oper} {draw : Bool} {fr : Fr} {bel : Below} {st : St} {r : Res} (h : evRegion tb rec id ops.toList draw fr bel st = .ok r) {L : Loc} {w : World} {F : Frame} {k : List Item} {cs : List Frame}
    (H : HRel X L st.hp w) (ho : AllObl r.st.obl) (hf : FRel X L w fr F) (hm : F.mode = .run) (ht : F.todo = .code (.region id ops draw) :: k) (hc : codeOK F.tmps.size (.region id ops draw) = true) (hb : BelR X L w bel F.kind cs) :
    ∃ L' w' F' cs', Lands P X L w F cs r.st L' w' F' cs' ∧ FRel X L' w' r.fr F' ∧ BelR X L' w' r.bel F.kind cs' ∧ OutR X L' w' F' k r.out := by
  unfold evRegion at h
  have h := at_ok h
  simp only [codeOK, regionOK, Bool.and_eq_true] at hc
  have hd : ∀ o ∈ ops.toList, ∀ d, o.dst = some d → d < F.tmps.size := by
    intro o hoo d hdd
    have := List.all_eq_true.1 hc.1 o hoo
    rw [hdd] at this
    simpa [blt_dec] using this
  cases draw with
  | false =>
    simp only [cond_false] at h
    rw [Array.length_toList] at h
    obtain ⟨L', w', F', cs', l, h1, h2, h3⟩ := evOps_ok (X := X) ih hT hF hS hfun (k := k) _ _ _ _ _ h L w { F with todo := .inRegion ops (List.range ops.size) :: k } cs H ho (hf.todo _ _) hm rfl hd hb
    exact ⟨L', w', F', cs', Lands.head (st_region hm ht) l, h1, h2, h3⟩
  | true =>
    simp only [cond_true] at h
    have pf := planOK_ok (by simpa using hc.2)
    obtain ⟨es, dr⟩ := dr_of ih.adv _ _ _ _ _ _ h ho
    obtain ⟨s1, s2, s3⟩ := sched_ok (ops := ops) (an := ancs ops.toList []) (fun i o ho => pf.edge i o (by rw [Array.getElem?_toList]; exact ho)) (fun i o j ho hj hb => pf.anc i o j (by rw [Array.getElem?_toList]; exact ho) (by simpa using hj) hb) (w.tape w.drawn (.order F.fn id))
    have hst := st_draw (P := P) (cs := cs) (w := w) hT.mixed hm ht
    generalize Region.linearise .any ops (w.tape w.drawn (.order F.fn id)) = s at s1 s2 s3 hst
    have hE0 : Ext L w L { w with drawn := w.drawn + 1 } := Ext.ofEq rfl rfl rfl rfl
    let M0 : Loc := fun _ => .absent
    have hM0 : ∀ c, ¬ Owned M0 c := by rintro c ⟨b, o, cp, sz, hb⟩; cases hb
    have hX : ∀ n, Xn X M0 n = X := by
      intro n
      funext c
      simp only [Xn, eq_iff_iff]
      constructor
      · rintro (h | ⟨b, _, o, cp, sz, hb⟩)
        · exact h
        · cases hb
      · exact .inl
    have hall : ∀ p ∈ es, p.i ∈ s := by
      intro p hp
      have h1 := dr.sub.subset (List.mem_map.2 ⟨p, hp, rfl⟩)
      refine (s3 _).2 ?_
      simp only [planOK, Bool.and_eq_true] at hc
      have := (planRow_ok _ [] (by have := hc.2; simp at this; exact this.1.2)).1 p.i h1
      simpa using this.1
    have hf0 := hf.mono hE0
    have I : Inv ops.toList (ancs ops.toList []) X s es fr st L M0 { w with drawn := w.drawn + 1 } { F with todo := .inRegion ops s :: k } := by
      refine ⟨by rw [hX]; exact H.same rfl rfl rfl rfl, fun b hb => absurd rfl hb, fun p hp hps => absurd (hall p hp) hps, (fun b b' c o cp sz o' cp' sz' h => by cases h), fun c hc => absurd hc (hM0 c), fun p hp hps => absurd (hall p hp) hps, fun t v hv _ => ?_, fun p hp hps => absurd (hall p hp) hps, hf0.fn, by rw [hX]; exact hf0.defs, hf0.round⟩
      rw [hX]
      exact hf0.tmps t v hv
    obtain ⟨L', w', F', cs', t1, t2, t3, t4, t5, t6, t7, t8, t9, t10, t11⟩ := draw_main (X := X) ih hT hF hS hfun pf.pl (k := k) s _ [] fr bel st r es L M0 _ { F with todo := .inRegion ops s :: k } cs dr pf.ro s1 s2 (fun j hj => canon_mem j (by have := (s3 j).1 hj; simpa using this)) (fun i hi his => by
      exfalso
      apply his
      refine (s3 _).2 ?_
      have := (planRow_ok _ [] (by have := hc.2; simp [planOK] at this; exact this.1.2)).1 i hi
      simpa using this.1) I hm rfl hd (by rw [hX]; exact hb.mono hE0)
    have hE : Ext L { w with drawn := w.drawn + 1 } L' w' := ⟨t2.size, fun c h1 h2 => t2.same c h1 h2 (hM0 c), t2.loc, fun c hc => by
      rcases t2.own c hc with h | h | h
      · exact .inl h
      · exact absurd h (hM0 c)
      · exact .inr h, t2.os, t2.tape, t2.output⟩
    exact ⟨L', w', F', cs', ⟨.head hst t1, hE0.trans hE, t3, t4, t5, t6, t7, t8⟩, t9, t10, t11⟩
end
end Go.Sy

/- 'x = append(x, v)' in one of two ways. -/
set_option linter.unusedVariables false
set_option linter.unusedSimpArgs false
namespace Go.Sy

mutual
theorem AV.eqb_eq : (a b : AV) → AV.eqb a b = true → a = b
  | .bool a, b, h => by cases b <;> simp_all [AV.eqb]
  | .int j a, b, h => by cases b <;> simp_all [AV.eqb]
  | .str s, b, h => by cases b <;> simp_all [AV.eqb]
  | .nilp, b, h => by cases b <;> simp_all [AV.eqb]
  | .ptr x y, b, h => by cases b <;> simp_all [AV.eqb, beq_dec]
  | .iptr x y, b, h => by cases b <;> simp_all [AV.eqb]
  | .nils, b, h => by cases b <;> simp_all [AV.eqb]
  | .sl x y z w, b, h => by cases b <;> simp_all [AV.eqb, beq_dec]
  | .imm x y z, b, h => by cases b <;> simp_all [AV.eqb]
  | .nilm, b, h => by cases b <;> simp_all [AV.eqb]
  | .map x, b, h => by cases b <;> simp_all [AV.eqb, beq_dec]
  | .nilf, b, h => by cases b <;> simp_all [AV.eqb]
  | .fn f x y, b, h => by
    cases b with
    | fn g z w =>
      simp only [AV.eqb, Bool.and_eq_true, decide_eq_true_eq] at h
      rw [h.1.1, AV.eqbs_eq _ _ h.1.2, AV.eqbs_eq _ _ h.2]
    | _ => simp [AV.eqb] at h
  | .nili, b, h => by cases b <;> simp_all [AV.eqb]
  | .iface t a, b, h => by
    cases b with
    | iface u c =>
      simp only [AV.eqb, Bool.and_eq_true, beq_dec, decide_eq_true_eq] at h
      rw [h.1, AV.eqb_eq _ _ h.2]
    | _ => simp [AV.eqb] at h
  | .agg x, b, h => by
    cases b with
    | agg y => simp only [AV.eqb] at h; rw [AV.eqbs_eq _ _ h]
    | _ => simp [AV.eqb] at h
  | .tup x, b, h => by
    cases b with
    | tup y => simp only [AV.eqb] at h; rw [AV.eqbs_eq _ _ h]
    | _ => simp [AV.eqb] at h
  | .junk, b, h => by cases b <;> simp_all [AV.eqb]
theorem AV.eqbs_eq : (a b : List AV) → AV.eqbs a b = true → a = b
  | [], b, h => by cases b <;> simp_all [AV.eqbs]
  | a :: x, b, h => by
    cases b with
    | nil => simp [AV.eqbs] at h
    | cons b y =>
      simp only [AV.eqbs, Bool.and_eq_true] at h
      rw [AV.eqb_eq _ _ h.1, AV.eqbs_eq _ _ h.2]
end
theorem pairs_eq : ∀ (a b : List (Int × AV)), a.map (·.1) = b.map (·.1) → a.map (·.2) = b.map (·.2) → a = b
  | [], [], _, _ => rfl
  | [], _ :: _, h, _ => by simp at h
  | _ :: _, [], h, _ => by simp at h
  | x :: a, y :: b, h, k => by
    simp only [List.map_cons, List.cons.injEq] at h k
    rw [pairs_eq a b h.2 k.2]
    congr 1
    exact Prod.ext h.1 k.1
theorem Blk.eqb_eq (a b : Blk) (h : Blk.eqb a b = true) : a = b := by
  cases a <;> cases b <;> simp only [Blk.eqb] at h <;> first | (cases h; done) | skip
  · rw [AV.eqbs_eq _ _ h]
  · simp only [Bool.and_eq_true, decide_eq_true_eq] at h
    rw [pairs_eq _ _ h.1 (AV.eqbs_eq _ _ h.2)]
  · simp at h; rw [h]
  · rfl
theorem meet_get : ∀ (a b : T AV) (i : Nat) (v : AV), (T.meet a b).get? i = some v → a.get? i = some v ∧ b.get? i = some v := by
  intro a
  induction a with
  | nil => intro b i v h; simp [T.meet, T.get?_nil] at h
  | node l x r ihl ihr =>
    intro b i v h
    cases b with
    | nil => simp [T.meet, T.get?_nil] at h
    | node l' x' r' =>
      simp only [T.meet, T.get?_node] at h ⊢
      split at h
      · rename_i h0
        rw [if_pos h0, if_pos h0]
        cases x with
        | none => cases h
        | some a =>
          cases x' with
          | none => cases h
          | some b =>
            simp only [Bool.cond_eq_ite] at h
            split at h
            · rename_i he
              cases h
              exact ⟨rfl, by rw [AV.eqb_eq _ _ he]⟩
            · cases h
      · rename_i h0
        rw [if_neg h0, if_neg h0]
        split at h
        · rename_i h1; rw [if_pos h1, if_pos h1]; exact ihl _ _ _ h
        · rename_i h1; rw [if_neg h1, if_neg h1]; exact ihr _ _ _ h
theorem meetHeap_in (a b : T Blk) (i : Nat) : ∀ (l : List Nat), i ∈ l → ((meetHeap a b l).get? i = a.get? i ∧ Blk.eqb ((a.get? i).getD .dead) ((b.get? i).getD .dead) = true) ∨ (meetHeap a b l).get? i = none
  | j :: l, h => by
    unfold meetHeap
    by_cases hi : i ∈ l
    · have ih := meetHeap_in a b i l hi
      cases he : Blk.eqb ((a.get? j).getD .dead) ((b.get? j).getD .dead)
      · simp only [cond_false, T.get?_set]
        split
        · exact .inr rfl
        · exact ih
      · exact ih
    · have hij : i = j := by
        rcases List.mem_cons.1 h with h | h
        · exact h
        · exact absurd h hi
      subst hij
      cases he : Blk.eqb ((a.get? i).getD .dead) ((b.get? i).getD .dead)
      · simp only [cond_false, T.get?_set, if_true]; exact .inr trivial
      · refine .inl ⟨?_, rfl⟩
        simp only [cond_true]
        exact meetHeap_get a b i l hi

section
variable {tb : Tab} {rec : Cmd → St → Ex} {ops : List Oper} {i : Nat} {l : List Nat} {o : Oper} {fr : Fr} {bel : Below} {st : St}
theorem ops_new (ho : ops[i]? = some o) (hg : o.guard = none) (hk : opKd o.op = .new) {blk : Blk} {mk : Nat → AV} (hn : aNew tb fr.eval o.op = some (blk, mk)) :
    evOps tb rec ops (i :: l) fr bel st = evOps tb rec ops l (fr.put o.dst (mk st.next)) bel (st.new blk).tick := by
  simp only [evOps, opOne, ho, wantedA, hg, hk, opN, hn]
theorem ops_eff (ho : ops[i]? = some o) (hg : o.guard = none) (hk : opKd o.op = .eff) {v : AV} {st1 : St} (he : aEff tb st fr.eval o.op = .val v st1) :
    evOps tb rec ops (i :: l) fr bel st = evOps tb rec ops l (fr.put o.dst v) bel st1.tick := by
  simp only [evOps, opOne, ho, wantedA, hg, hk, opE, evEff, he]
theorem ops_val (ho : ops[i]? = some o) (hg : o.guard = none) (hk : opKd o.op = .val) {v : AV} (hv : aValS tb st fr.eval o.op = some v) (ht : st.tape = []) :
    evOps tb rec ops (i :: l) fr bel st = evOps tb rec ops l (fr.put o.dst v) bel st.tick := by
  simp only [evOps, opOne, ho, wantedA, hg, hk, opV, hv, St.askV, ht, Option.map_some]
end

theorem tick_tape (st : St) : st.tick.tape = st.tape := by rw [St.tick_eq]
theorem tick_next (st : St) : st.tick.next = st.next := by rw [St.tick_eq]

/-- the four operations of the choice, in one of their two orders -/
theorem choice_ops {tb : Tab} {rec : Cmd → St → Ex} {o0 o1 o2 o3 : Oper} {e x d : Nat} (hb : tb.under e = some .bool) (hs : tb.size e = some 1) (hz : tb.zero e = some (.bool false)) (h0 : o0.op = .alloc e) (d0 : o0.dst = some x) (g0 : o0.guard = none)
    (h1 : o1.op = .store e (.tmp x) (.const (.bool true))) (d1 : o1.dst = none) (g1 : o1.guard = none) (h2 : o2.op = .store e (.tmp x) (.const (.bool false))) (d2 : o2.dst = none) (g2 : o2.guard = none) (h3 : o3.op = .load e (.tmp x)) (d3 : o3.dst = some d) (g3 : o3.guard = none)
    (fr : Fr) (bel : Below) (st : St) (ht : st.tape = []) (i j : Nat) (hij : (i = 1 ∧ j = 2) ∨ (i = 2 ∧ j = 1)) :
    ∃ b st', evOps tb rec [o0, o1, o2, o3] [0, i, j, 3] fr bel st = .ok ⟨.norm, (fr.put (some x) (.ptr st.next 0)).put (some d) (.bool b), bel, st'⟩ ∧ st'.hp = Hp.set st.hp st.next (.cells [.bool b]) ∧ st'.obl = st.obl := by
  have sl : (fr.put (some x) (.ptr st.next 0)).eval (.tmp x) = .ptr st.next 0 := by simp [Fr.eval, Fr.slot, Fr.put, T.get?_set]
  have hag : tb.aggSize e = some (false, 1) := by
    have : tb.isAgg e = false := by unfold Tab.isAgg; rw [hb]
    unfold Tab.aggSize
    rw [hb, hs, this]
  have store : ∀ (s : St) (v : Bool) (w : Bool), s.tape = [] → s.get st.next = .cells [.bool w] → aEff tb s (fr.put (some x) (.ptr st.next 0)).eval (.store e (.tmp x) (.const (.bool v))) = .val undefA (s.put st.next (.cells [.bool v]) 0 1) := by
    intro s v w hts hg
    have hc : (fr.put (some x) (.ptr st.next 0)).eval (.const (.bool v)) = .bool v := rfl
    have hst : storeC [.bool w] 0 [.bool v] = some [.bool v] := by simp [storeC, AV.leaf, setL]
    simp only [aEff, eStore, sl, hs, hg, hc, AV.solid, AV.cells, List.length_singleton, and_self, if_true, hst, St.askC, hts, Option.map_some]
  have key : ∀ (a b : Nat) (oa ob : Oper) (va vb : Bool), [o0, o1, o2, o3][a]? = some oa → [o0, o1, o2, o3][b]? = some ob → oa.op = .store e (.tmp x) (.const (.bool va)) → ob.op = .store e (.tmp x) (.const (.bool vb)) → oa.dst = none → ob.dst = none → oa.guard = none → ob.guard = none →
      ∃ b' st', evOps tb rec [o0, o1, o2, o3] [0, a, b, 3] fr bel st = .ok ⟨.norm, (fr.put (some x) (.ptr st.next 0)).put (some d) (.bool b'), bel, st'⟩ ∧ st'.hp = Hp.set st.hp st.next (.cells [.bool b']) ∧ st'.obl = st.obl := by
    intro a b oa ob va vb hoa hob hpa hpb hda hdb hga hgb
    have n0 : aNew tb fr.eval o0.op = some (.cells [.bool false], fun b => .ptr b 0) := by rw [h0]; simp [aNew, nAlloc, hz, AV.cells]
    rw [ops_new (o := o0) rfl g0 (by rw [h0]; rfl) n0, d0]
    generalize hS1 : (st.new (.cells [.bool false])).tick = S1
    have t1 : S1.tape = [] := by rw [← hS1, tick_tape]; exact ht
    have x1 : S1.next = st.next + 1 := by rw [← hS1, tick_next]; rfl
    have p1 : S1.hp = Hp.set st.hp st.next (.cells [.bool false]) := by rw [← hS1, (Like.tick _).hp]; exact St.new_hp _ _
    have c1 : S1.get st.next = .cells [.bool false] := by rw [← hS1, get_tick]; exact get_new_self _ _
    have q1 : S1.obl = st.obl := by rw [← hS1, St.tick_eq]; rfl
    rw [ops_eff hoa hga (by rw [hpa]; rfl) (by rw [hpa]; exact store S1 va false t1 c1), hda]
    generalize hS2 : (S1.put st.next (.cells [.bool va]) 0 1).tick = S2
    have t2 : S2.tape = [] := by rw [← hS2, tick_tape]; exact t1
    have x2 : S2.next = st.next + 1 := by rw [← hS2, tick_next]; exact x1
    have p2 : S2.hp = Hp.set S1.hp st.next (.cells [.bool va]) := by rw [← hS2, (Like.tick _).hp]; exact St.put_hp _ _ _ _ _ (by omega)
    have c2 : S2.get st.next = .cells [.bool va] := by rw [← hS2, get_tick, St.get_put, if_pos (by omega), if_pos rfl]
    have q2 : S2.obl = st.obl := by rw [← hS2, St.tick_eq]; exact q1
    have e0 : (fr.put (some x) (.ptr st.next 0)).put none undefA = fr.put (some x) (.ptr st.next 0) := rfl
    rw [e0, ops_eff hob hgb (by rw [hpb]; rfl) (by rw [hpb]; exact store S2 vb va t2 c2), hdb, e0]
    generalize hS3 : (S2.put st.next (.cells [.bool vb]) 0 1).tick = S3
    have t3 : S3.tape = [] := by rw [← hS3, tick_tape]; exact t2
    have p3 : S3.hp = Hp.set S2.hp st.next (.cells [.bool vb]) := by rw [← hS3, (Like.tick _).hp]; exact St.put_hp _ _ _ _ _ (by omega)
    have c3 : S3.get st.next = .cells [.bool vb] := by rw [← hS3, get_tick, St.get_put, if_pos (by omega), if_pos rfl]
    have q3 : S3.obl = st.obl := by rw [← hS3, St.tick_eq]; exact q2
    have hv : aValS tb S3 (fr.put (some x) (.ptr st.next 0)).eval o3.op = some (.bool vb) := by
      rw [h3]
      have htt : touches tb (fr.put (some x) (.ptr st.next 0)).eval (.load e (.tmp x)) = [(st.next, live0, 1), (st.next, 0, 1)] := by simp [touches, tLoad, sl, hs]
      have hvv : aVal tb S3 (fr.put (some x) (.ptr st.next 0)).eval (.load e (.tmp x)) = some (.bool vb) := by simp [aVal, vLoad, hag, sl, c3, loadC]
      unfold aValS
      rw [htt, hvv]
      simp [c3, Blk.alive]
    rw [ops_val (o := o3) rfl g3 (by rw [h3]; rfl) hv t3, d3]
    refine ⟨vb, S3.tick, rfl, ?_, ?_⟩
    · rw [(Like.tick _).hp, p3, p2, p1]
      funext i
      simp only [Hp.set]
      split <;> simp_all
    · rw [St.tick_eq]; exact q3
  rcases hij with ⟨rfl, rfl⟩ | ⟨rfl, rfl⟩
  · exact key 1 2 o1 o2 true false rfl rfl h1 h2 d1 d2 g1 g2
  · exact key 2 1 o2 o1 false true rfl rfl h2 h1 d2 d1 g2 g1

theorem four (l : List Nat) (h1 : l.Nodup) (h2 : l.Pairwise (fun a b => bit [0, 1, 1, 7] a b = false)) (h3 : ∀ j, j ∈ l ↔ j < 4) : l = [0, 1, 2, 3] ∨ l = [0, 2, 1, 3] := by
  have m0 := (h3 0).2 (by omega)
  have m1 := (h3 1).2 (by omega)
  have m2 := (h3 2).2 (by omega)
  have m3 := (h3 3).2 (by omega)
  match l, h1, h2, h3, m0, m1, m2, m3 with
  | [], _, _, _, m0, _, _, _ => cases m0
  | [a], _, _, _, m0, m1, _, _ => simp at m0 m1; omega
  | [a, b], _, _, _, m0, m1, m2, _ => simp at m0 m1 m2; omega
  | [a, b, c], _, _, _, m0, m1, m2, m3 => simp at m0 m1 m2 m3; omega
  | [a, b, c, d], h1, h2, h3, _, _, _, _ =>
    have ha := (h3 a).1 (by simp)
    have hb := (h3 b).1 (by simp)
    have hc := (h3 c).1 (by simp)
    have hd := (h3 d).1 (by simp)
    have b10 : bit [0, 1, 1, 7] 1 0 = true := rfl
    have b20 : bit [0, 1, 1, 7] 2 0 = true := rfl
    have b30 : bit [0, 1, 1, 7] 3 0 = true := rfl
    have b31 : bit [0, 1, 1, 7] 3 1 = true := rfl
    have b32 : bit [0, 1, 1, 7] 3 2 = true := rfl
    simp only [List.nodup_cons, List.mem_cons, not_or, List.pairwise_cons, List.not_mem_nil, or_false, forall_eq_or_imp, forall_eq] at h1 h2
    obtain ⟨⟨g1, g2, g3⟩, ⟨g4, g5⟩, g6, _⟩ := h2
    have ha0 : a = 0 := by
      apply Classical.byContradiction
      intro hne
      have h0 : b = 0 ∨ c = 0 ∨ d = 0 := by omega
      have hcase : a = 1 ∨ a = 2 ∨ a = 3 := by omega
      rcases hcase with rfl | rfl | rfl <;> rcases h0 with rfl | rfl | rfl <;> simp_all
    subst ha0
    have hb3 : b ≠ 3 := by
      rintro rfl
      have h0 : c = 1 ∨ d = 1 := by omega
      rcases h0 with rfl | rfl <;> simp_all
    have hc3 : c ≠ 3 := by
      rintro rfl
      have h0 : d = 1 ∨ d = 2 := by omega
      rcases h0 with rfl | rfl <;> simp_all
    have hd3 : d = 3 := by omega
    subst hd3
    have h : (b = 1 ∧ c = 2) ∨ (b = 2 ∧ c = 1) := by omega
    rcases h with ⟨rfl, rfl⟩ | ⟨rfl, rfl⟩
    · exact .inl rfl
    · exact .inr rfl
  | a :: b :: c :: d :: e :: r, h1, _, h3, _, _, _, _ =>
    have ha := (h3 a).1 (by simp)
    have hb := (h3 b).1 (by simp)
    have hc := (h3 c).1 (by simp)
    have hd := (h3 d).1 (by simp)
    have he := (h3 e).1 (by simp)
    simp only [List.nodup_cons, List.mem_cons, not_or] at h1
    omega

theorem pat_inv {ops : List Oper} {x d e : Nat} (h : choicePat ops = some (x, d, e)) : ∃ o0 o1 o2 o3, ops = [o0, o1, o2, o3] ∧ o0.op = .alloc e ∧ o0.dst = some x ∧ o0.guard = none ∧ o1.op = .store e (.tmp x) (.const (.bool true)) ∧ o1.dst = none ∧ o1.guard = none ∧
    o2.op = .store e (.tmp x) (.const (.bool false)) ∧ o2.dst = none ∧ o2.guard = none ∧ o3.op = .load e (.tmp x) ∧ o3.dst = some d ∧ o3.guard = none ∧ x ≠ d ∧ edgesOf o0 = [] ∧ (0 ∈ edgesOf o1 ∧ ∀ j ∈ edgesOf o1, j = 0) ∧ (0 ∈ edgesOf o2 ∧ ∀ j ∈ edgesOf o2, j = 0) ∧
    (0 ∈ edgesOf o3 ∧ 1 ∈ edgesOf o3 ∧ 2 ∈ edgesOf o3 ∧ ∀ j ∈ edgesOf o3, j < 3) := by
  unfold choicePat at h
  split at h
  · rename_i o0 o1 o2 o3
    split at h
    · rename_i e' x' t1 x1 t2 x2 t3 x3 d' h0 d0 g0 h1 d1 g1 h2 d2 g2 h3 d3 g3
      simp only [Bool.cond_eq_ite] at h
      split at h
      · rename_i hc
        simp only [Bool.and_eq_true, beq_dec, decide_eq_true_eq, Bool.not_eq_true', decide_eq_false_iff_not, List.contains_iff_mem, List.all_eq_true, blt_dec, List.isEmpty_iff] at hc
        simp only [Option.some.injEq, Prod.mk.injEq] at h
        obtain ⟨rfl, rfl, rfl⟩ := h
        obtain ⟨⟨⟨⟨⟨⟨⟨⟨⟨⟨⟨⟨⟨⟨⟨a1, a2⟩, a3⟩, a4⟩, a5⟩, a6⟩, a7⟩, a8⟩, a9⟩, a10⟩, a11⟩, a12⟩, a13⟩, a14⟩, a15⟩, a16⟩ := hc
        subst a1; subst a2; subst a3; subst a4; subst a5; subst a6
        exact ⟨o0, o1, o2, o3, rfl, h0, d0, g0, h1, d1, g1, h2, d2, g2, h3, d3, g3, a7, a13, ⟨a8, a14⟩, ⟨a9, a15⟩, ⟨a10, a11, a12, a16⟩⟩
      · cases h
    · cases h
  · cases h

theorem pat_sched {ops : Array Oper} {x d e : Nat} (h : choicePat ops.toList = some (x, d, e)) (t : Nat) : Region.linearise .any ops t = [0, 1, 2, 3] ∨ Region.linearise .any ops t = [0, 2, 1, 3] := by
  obtain ⟨o0, o1, o2, o3, hl, _, _, _, _, _, _, _, _, _, _, _, _, _, k0, ⟨k1, k2⟩, ⟨k3, k4⟩, ⟨k5, k6, k7, k8⟩⟩ := pat_inv h
  have hsz : ops.size = 4 := by rw [← Array.length_toList, hl]; rfl
  have get : ∀ i o, ops[i]? = some o → (i = 0 ∧ o = o0) ∨ (i = 1 ∧ o = o1) ∨ (i = 2 ∧ o = o2) ∨ (i = 3 ∧ o = o3) := by
    intro i o ho
    rw [← Array.getElem?_toList, hl] at ho
    match i, ho with
    | 0, ho => simp at ho; exact .inl ⟨rfl, ho.symm⟩
    | 1, ho => simp at ho; exact .inr (.inl ⟨rfl, ho.symm⟩)
    | 2, ho => simp at ho; exact .inr (.inr (.inl ⟨rfl, ho.symm⟩))
    | 3, ho => simp at ho; exact .inr (.inr (.inr ⟨rfl, ho.symm⟩))
    | i + 4, ho => simp at ho
  obtain ⟨s1, s2, s3⟩ := sched_ok (ops := ops) (an := [0, 1, 1, 7]) (fun i o ho e he => by
    rcases get i o ho with ⟨rfl, rfl⟩ | ⟨rfl, rfl⟩ | ⟨rfl, rfl⟩ | ⟨rfl, rfl⟩
    · rw [k0] at he; cases he
    · rw [k2 e he]; omega
    · rw [k4 e he]; omega
    · exact k8 e he) (fun i o j ho hj hb => by
    rw [hsz] at hj
    have tab : ∀ j, j < 4 → (bit [0, 1, 1, 7] 0 j = true → False) ∧ (bit [0, 1, 1, 7] 1 j = true → j = 0) ∧ (bit [0, 1, 1, 7] 2 j = true → j = 0) ∧ (bit [0, 1, 1, 7] 3 j = true → j < 3) := by decide
    obtain ⟨b0, b1, b2, b3⟩ := tab j hj
    rcases get i o ho with ⟨rfl, rfl⟩ | ⟨rfl, rfl⟩ | ⟨rfl, rfl⟩ | ⟨rfl, rfl⟩
    · exact (b0 hb).elim
    · exact ⟨0, k1, .inl (b1 hb).symm⟩
    · exact ⟨0, k3, .inl (b2 hb).symm⟩
    · have := b3 hb
      have : j = 0 ∨ j = 1 ∨ j = 2 := by omega
      rcases this with rfl | rfl | rfl
      · exact ⟨_, k5, .inl rfl⟩
      · exact ⟨_, k6, .inl rfl⟩
      · exact ⟨_, k7, .inl rfl⟩) t
  exact four _ s1 s2 (fun j => by rw [s3, hsz])
end Go.Sy

/- 'x = append(x, v)' in one of two ways: the whole. -/
set_option linter.unusedVariables false
set_option linter.unusedSimpArgs false
namespace Go.Sy

section
variable {X : Nat → Prop} {L : Loc} {w : World} {h h' : Hp}
open Classical in
noncomputable def dropL (L : Loc) (h' : Hp) : Loc := fun b => if h' b = some .dead then .dead else L b
theorem HRel.drop (H : HRel X L h w) (hh : ∀ b, h' b = h b ∨ (h' b = some .dead ∧ h b ≠ none)) : HRel X (dropL L h') h' w := by
  have own : ∀ c, Owned (dropL L h') c → Owned L c := by
    rintro c ⟨b, o, cap, sz, hb⟩
    unfold dropL at hb
    split at hb
    · cases hb
    · exact ⟨b, o, cap, sz, hb⟩
  have lft : Lift X L w X (dropL L h') w := by
    refine ⟨fun b _ => ?_, fun c h1 h2 h3 => ⟨fun hh => h2 (own c hh), h3, h1, rfl⟩⟩
    unfold dropL
    split
    · exact .inr rfl
    · exact .inl rfl
  have live : ∀ b c o cap sz, dropL L h' b = .live c o cap sz → L b = .live c o cap sz := by
    intro b c o cap sz hb
    unfold dropL at hb
    split at hb
    · cases hb
    · exact hb
  refine ⟨fun b hb => ?_, fun b hb => by simp [dropL, hb], fun b x hb hx => ?_, fun b b' c o cap sz o' cap' sz' h1 h2 => H.inj _ _ _ _ _ _ _ _ _ (live _ _ _ _ _ h1) (live _ _ _ _ _ h2), fun c hc => H.lt c (own c hc), fun c hc => H.far c (own c hc), H.xlt⟩
  · have : h b = none := by
      rcases hh b with e | ⟨e, _⟩
      · rw [← e]; exact hb
      · rw [hb] at e; cases e
    simp only [dropL, hb]
    simpa using H.out b this
  · have : h b = some x := by
      rcases hh b with e | ⟨e, _⟩
      · rw [← e]; exact hb
      · rw [hb] at e; cases e; cases hx
    obtain ⟨c, o, cap, sz, h1, h2⟩ := H.blk b x this hx
    refine ⟨c, o, cap, sz, ?_, h2.lift lft rfl⟩
    have hne : h' b ≠ some .dead := by rw [hb]; intro e; cases e; cases hx
    simp only [dropL, if_neg hne]
    exact h1
theorem HRel.dropExt (H : HRel X L h w) (hh : ∀ b, h' b = h b ∨ (h' b = some .dead ∧ h b ≠ none)) : Lift X L w X (dropL L h') w ∧ Ext L w (dropL L h') w := by
  have own : ∀ c, Owned (dropL L h') c → Owned L c := by
    rintro c ⟨b, o, cap, sz, hb⟩
    unfold dropL at hb
    split at hb
    · cases hb
    · exact ⟨b, o, cap, sz, hb⟩
  have loc : ∀ b, L b ≠ .absent → dropL L h' b = L b ∨ dropL L h' b = .dead := by
    intro b _
    unfold dropL
    split
    · exact .inr rfl
    · exact .inl rfl
  exact ⟨⟨loc, fun c h1 h2 h3 => ⟨fun hh => h2 (own c hh), h3, h1, rfl⟩⟩, ⟨Nat.le_refl _, fun _ _ _ => rfl, loc, fun c hc => .inl (own c hc), rfl, rfl, rfl⟩⟩
/-- a cell that nobody looks at -/
theorem HRel.junk {b0 : Nat} {v : AV} (H : HRel X L (Hp.set h b0 (.cells [v])) w) : HRel X L (Hp.set h b0 (.cells [.junk])) w := by
  refine ⟨fun b hb => H.out b ?_, fun b hb => H.dead b ?_, fun b x hb hx => ?_, H.inj, H.lt, H.far, H.xlt⟩
  · unfold Hp.set at *
    split at hb
    · cases hb
    · rename_i e; rw [if_neg e]; exact hb
  · unfold Hp.set at *
    split at hb
    · cases hb
    · rename_i e; rw [if_neg e]; exact hb
  · by_cases e : b = b0
    · subst e
      simp only [Hp.set, if_true, Option.some.injEq] at hb
      subst hb
      obtain ⟨c, o, cap, sz, h1, arr, t, k1, k2, k3, k4⟩ := H.blk b (.cells [v]) (by simp [Hp.set]) rfl
      refine ⟨c, o, cap, sz, h1, arr, t, k1, k2, k3, ?_⟩
      refine ⟨k4.1, fun j u y hj hy => ?_⟩
      cases j with
      | zero => simp at hj; subst hj; exact .junk _
      | succ j => simp at hj
    · exact H.blk b x (by simp only [Hp.set, e, if_false] at hb ⊢; exact hb) hx
end

theorem kept_eq {st st' : St} {l : Log} (k : Keep st st' l) {b : Nat} (hb : b < st.next) (hn : b ∉ l.map (·.1)) : st'.get b = st.get b := by
  have hc : ∀ q, ¬ covered l b q := by
    rintro q ⟨e, he, h1, _⟩
    exact hn (List.mem_map.2 ⟨e, he, h1⟩)
  have := k.same b hb (hc _)
  split at this
  · rename_i cs hcs
    obtain ⟨cs', h1, h2⟩ := this
    have : cs' = cs := List.ext_getElem? fun q => h2 q (hc q)
    rw [h1, hcs, this]
  · exact this

section
variable {P : Program} {tb : Tab} {rec : Cmd → St → Ex} {X : Nat → Prop}
theorem choiceOf_inv {a b : Code} {x d e : Nat} {u v : Code} (h : choiceOf a b = some (x, d, e, u, v)) : ∃ id ops, a = .region id ops true ∧ b = .cond (.tmp d) u v ∧ choicePat ops.toList = some (x, d, e) := by
  unfold choiceOf at h
  split at h
  · rename_i id ops d' u' v'
    split at h
    · rename_i x' d'' e' hp
      rw [Bool.cond_eq_ite] at h
      split at h
      · rename_i hd
        rw [beq_dec] at hd
        simp at hd
        subst hd
        simp only [Option.some.injEq, Prod.mk.injEq] at h
        obtain ⟨rfl, rfl, rfl, rfl, rfl⟩ := h
        exact ⟨id, ops, rfl, rfl, hp⟩
      · cases h
    · cases h
  · cases h
theorem isBool_inv {e : Nat} (h : isBool tb e = true) : tb.under e = some .bool ∧ tb.size e = some 1 ∧ tb.zero e = some (.bool false) := by
  unfold isBool at h
  split at h
  · rename_i h1 h2 h3; exact ⟨h1, h2, h3⟩
  · cases h

theorem choice_ok (ih : RecOK P rec) (hT : TabOK P tb) (hF : FieldsOK tb) (hS : SpecOK P tb) (hfun : ∀ f args b s r, rec (.call f args b) s = .ok r → ∃ fn, tb.funcs.get? f = some fn ∧ fn.body.isSome = true)
    {a b : Code} {x d e : Nat} {u v : Code} (hcho : choiceOf a b = some (x, d, e, u, v)) (hbool : isBool tb e = true) {fr : Fr} {bel : Below} {st : St} {r : Res} (h : evChoice rec x d u v fr bel st = .ok r)
    {L : Loc} {w : World} {F : Frame} {k : List Item} {cs : List Frame}
    (H : HRel X L st.hp w) (ho : AllObl r.st.obl) (hf : FRel X L w fr F) (hm : F.mode = .run) (ht : F.todo = .code (.seq a b) :: k) (hc : codeOK F.tmps.size (.seq a b) = true) (hb : BelR X L w bel F.kind cs) :
    ∃ L' w' F' cs', Lands P X L w F cs r.st L' w' F' cs' ∧ FRel X L' w' r.fr F' ∧ BelR X L' w' r.bel F.kind cs' ∧ OutR X L' w' F' k r.out := by
  have hobl0 : AllObl st.obl := (evChoice_adv ih.adv h).all ho
  simp only [codeOK, Bool.and_eq_true, hcho] at hc
  obtain ⟨id, ops, rfl, rfl, hpat⟩ := choiceOf_inv hcho
  obtain ⟨hb1, hb2, hb3⟩ := isBool_inv hbool
  unfold evChoice at h
  simp only [] at h
  split at h
  · split at h
    · rename_i frA stA hA
      split at h
      · rename_i frB stB hB
        have aA := ih.adv _ _ _ hA
        have aB := ih.adv _ _ _ hB
        unfold choiceMeet at h
        split at h
        · rename_i hdA hdB hd0
          rw [Bool.cond_eq_ite] at h
          split at h
          · rename_i hsame
            cases h
            simp only [Bool.and_eq_true, beq_dec, decide_eq_true_eq] at hsame
            obtain ⟨hnext, hsame⟩ := hsame
            have hoA : AllObl stA.obl := fun p hp => ho p (List.mem_append.2 (.inl hp))
            have hoB : AllObl stB.obl := fun p hp => ho p (List.mem_append.2 (.inr hp))
            simp only [codeOK, Bool.and_eq_true] at hc
            -- to the test
            have s0 := st_seq (P := P) (cs := cs) (w := w) hm ht
            have s1 := st_draw (P := P) (F := { F with todo := .code (.region id ops true) :: .code (.cond (.tmp d) u v) :: k }) (cs := cs) (w := w) hT.mixed hm rfl
            have hsch := pat_sched hpat (w.tape w.drawn (.order F.fn id))
            simp only at s1
            generalize Region.linearise .any ops (w.tape w.drawn (.order F.fn id)) = l at s1 hsch
            obtain ⟨o0, o1, o2, o3, hl, p1, p2, p3, p4, p5, p6, p7, p8, p9, p10, p11, p12, hxd, _⟩ := pat_inv hpat
            have hev : ∃ bb st', evOps tb rec ops.toList l fr .none { st with tape := [] } = .ok ⟨.norm, (fr.put (some x) (.ptr st.next 0)).put (some d) (.bool bb), .none, st'⟩ ∧ st'.hp = Hp.set st.hp st.next (.cells [.bool bb]) ∧ st'.obl = st.obl := by
              rw [hl]
              rcases hsch with rfl | rfl
              · exact choice_ops hb1 hb2 hb3 p1 p2 p3 p4 p5 p6 p7 p8 p9 p10 p11 p12 fr .none { st with tape := [] } rfl 1 2 (.inl ⟨rfl, rfl⟩)
              · exact choice_ops hb1 hb2 hb3 p1 p2 p3 p4 p5 p6 p7 p8 p9 p10 p11 p12 fr .none { st with tape := [] } rfl 2 1 (.inr ⟨rfl, rfl⟩)
            obtain ⟨bb, st', hev, hhp, hobl⟩ := hev
            have hE0 : Ext L w L { w with drawn := w.drawn + 1 } := Ext.ofEq rfl rfl rfl rfl
            have hdd : ∀ o ∈ ops.toList, ∀ d, o.dst = some d → d < F.tmps.size := by
              intro o hoo d hdo
              have := List.all_eq_true.1 hc.1 o hoo
              rw [hdo] at this
              simpa [blt_dec] using this
            obtain ⟨L1, w1, F1, cs1, l1, hf1, hb1', o1m, o1t⟩ := evOps_ok (X := X) ih hT hF hS hfun (k := .code (.cond (.tmp d) u v) :: k) l fr .none { st with tape := [] } _ hev L { w with drawn := w.drawn + 1 } { F with todo := .inRegion ops l :: .code (.cond (.tmp d) u v) :: k } cs (H.same rfl rfl rfl rfl) (by show AllObl st'.obl; rw [hobl]; exact hobl0) ((hf.mono hE0).todo _ _) hm rfl hdd (hb.mono hE0)
            have hcv := hf1.evals (.tmp d)
            have hsl : ((fr.put (some x) (.ptr st.next 0)).put (some d) (.bool bb)).eval (.tmp d) = .bool bb := by simp [Fr.eval, Fr.slot, Fr.put, T.get?_set]
            rw [hsl] at hcv
            have s2 := st_cond (P := P) (cs := cs1) (w := w1) o1m o1t hcv.bool_inv
            have hH1 : HRel X L1 (st.new (.cells [.junk])).hp w1 := by
              have := l1.heap
              rw [show st'.hp = Hp.set st.hp st.next (.cells [.bool bb]) from hhp] at this
              rw [St.new_hp]
              exact this.junk
            have hsz1 : F1.tmps.size = F.tmps.size := l1.size
            have hkd : F1.kind = F.kind := l1.kind
            -- whichever way
            have fin : ∀ (c : Code) (frX : Fr) (stX : St), rec (.code c { fr with tmps := (fr.tmps.set x (some (.ptr st.next 0))).set d (some (.bool bb)) } .none) { st.new (.cells [.junk]) with log := [] } = .ok ⟨.norm, frX, .none, stX⟩ → AllObl stX.obl → codeOK F.tmps.size c = true → frX.defs = [] →
                (if bb = true then u else v) = c → (∀ t y, (T.meet frA.tmps frB.tmps).get? t = some y → frX.tmps.get? t = some y) →
                (∀ b, b < stA.next → ({ stA with heap := meetHeap stA.heap stB.heap ((List.range (Nat.sub stA.next (st.new (.cells [.junk])).next)).map (· + (st.new (.cells [.junk])).next)), log := stA.log ++ stB.log ++ st.log, obl := stA.obl ++ stB.obl } : St).get b = stX.get b ∨ ({ stA with heap := meetHeap stA.heap stB.heap ((List.range (Nat.sub stA.next (st.new (.cells [.junk])).next)).map (· + (st.new (.cells [.junk])).next)), log := stA.log ++ stB.log ++ st.log, obl := stA.obl ++ stB.obl } : St).get b = .dead) → stX.next = stA.next →
                ∃ L' w' F' cs', Lands P X L w F cs { stA with heap := meetHeap stA.heap stB.heap ((List.range (Nat.sub stA.next (st.new (.cells [.junk])).next)).map (· + (st.new (.cells [.junk])).next)), log := stA.log ++ stB.log ++ st.log, obl := stA.obl ++ stB.obl } L' w' F' cs' ∧ FRel X L' w' { fr with tmps := T.meet frA.tmps frB.tmps } F' ∧ BelR X L' w' .none F.kind cs' ∧ OutR X L' w' F' k .norm := by
              intro c frX stX hX hoX hcX hdX hcc hmeet hget hnx
              rw [hcc] at s2
              obtain ⟨L2, w2, F2, cs2, l2, hf2, hb2', o2m, o2t⟩ := ih.code _ _ _ _ _ hX X L1 w1 { F1 with todo := .code c :: k } k cs1 hH1 hoX (hf1.todo _ _) o1m rfl (by show codeOK F1.tmps.size c = true; rw [hsz1]; exact hcX) (by show BelR X L1 w1 .none F1.kind cs1; rw [hkd]; exact hb1')
              generalize hR : ({ stA with heap := meetHeap stA.heap stB.heap ((List.range (Nat.sub stA.next (st.new (.cells [.junk])).next)).map (· + (st.new (.cells [.junk])).next)), log := stA.log ++ stB.log ++ st.log, obl := stA.obl ++ stB.obl } : St) = R at hget ⊢
              have hRn : R.next = stA.next := by rw [← hR]
              have hh : ∀ b, R.hp b = stX.hp b ∨ (R.hp b = some .dead ∧ stX.hp b ≠ none) := by
                intro b
                simp only [St.hp, hRn, hnx]
                by_cases hlt : b < stA.next
                · rcases hget b hlt with e | e
                  · left; rw [if_pos hlt, if_pos hlt, e]
                  · right; rw [if_pos hlt, if_pos hlt, e]; exact ⟨rfl, by simp⟩
                · left; rw [if_neg hlt, if_neg hlt]
              obtain ⟨lft, hE3⟩ := l2.heap.dropExt hh
              have hE12 : Ext L w L2 w2 := (hE0.trans l1.ext).trans l2.ext
              refine ⟨dropL L2 R.hp, w2, F2, cs2, ⟨.head s0 (.head s1 (l1.steps.trans (.head s2 l2.steps))), hE12.trans hE3, l2.heap.drop hh, l2.fn.trans l1.fn, l2.kind.trans l1.kind, l2.round.trans l1.round, l2.size.trans l1.size, l1.und.trans (hkd ▸ l2.und)⟩, ⟨?_, fun t y hy => ?_, ?_, ?_⟩, ?_, o2m, o2t⟩
              · exact l2.fn.trans (l1.fn.trans hf.fn)
              · obtain ⟨z, hz, hzv⟩ := hf2.tmps t y (hmeet t y hy)
                exact ⟨z, hz, hzv.lift lft⟩
              · have := hf2.defs
                rw [hdX] at this
                show DRels X _ w2 fr.defs F2.defers
                rw [hd0]
                generalize F2.defers = ds at this
                cases this; exact .nil
              · have hr := RoundR.lift (hE12.trans hE3).lift (X := X) (r := fr.round) (F := F) hf.round
                have e2 : F2.roundOf = F.roundOf := l2.round.trans l1.round
                show RoundR _ fr.round F2
                cases hrr : fr.round with
                | none => rw [hrr] at hr; exact e2.trans hr
                | some q => rw [hrr] at hr; obtain ⟨cc, g1, g2⟩ := hr; exact ⟨cc, e2.trans g1, g2⟩
              · have e3 : ({ F1 with todo := .code c :: k } : Frame).kind = F.kind := hkd
                rw [e3] at hb2'
                exact hb2'
            have n1 : (st.new (.cells [.junk])).next = st.next + 1 := rfl
            have lowA : ∀ b, b < st.next + 1 → ({ stA with heap := meetHeap stA.heap stB.heap ((List.range (Nat.sub stA.next (st.new (.cells [.junk])).next)).map (· + (st.new (.cells [.junk])).next)), log := stA.log ++ stB.log ++ st.log, obl := stA.obl ++ stB.obl } : St).get b = stA.get b := by
              intro b hlt
              simp only [St.get]
              rw [meetHeap_get _ _ _ _ (fun hmm => ?_)]
              simp only [List.mem_map, List.mem_range] at hmm
              obtain ⟨j, _, rfl⟩ := hmm
              rw [n1] at hlt
              omega
            have high : ∀ b, st.next + 1 ≤ b → b < stA.next → b ∈ (List.range (Nat.sub stA.next (st.new (.cells [.junk])).next)).map (· + (st.new (.cells [.junk])).next) := by
              intro b h1 h2
              refine List.mem_map.2 ⟨b - (st.next + 1), List.mem_range.2 ?_, ?_⟩
              · rw [n1]; show b - (st.next + 1) < stA.next - (st.next + 1); omega
              · rw [n1]; omega
            cases bb with
            | true =>
              refine fin u frA stA hA hoA hc.2.1 hdA rfl (fun t y hy => (meet_get _ _ _ _ hy).1) (fun b hlt => ?_) rfl
              by_cases hb' : b < st.next + 1
              · exact .inl (lowA b hb')
              · rcases meetHeap_in stA.heap stB.heap b _ (high b (by omega) hlt) with ⟨g1, _⟩ | g1
                · left; simp only [St.get]; rw [g1]
                · right; simp only [St.get]; rw [g1]; cases Nat.blt b stA.next <;> rfl
            | false =>
              refine fin v frB stB hB hoB hc.2.2 hdB rfl (fun t y hy => (meet_get _ _ _ _ hy).2) (fun b hlt => ?_) hnext.symm
              by_cases hb' : b < st.next + 1
              · left
                rw [lowA b hb']
                by_cases hin : b ∈ (stA.log ++ stB.log).map (·.1)
                · have := List.all_eq_true.1 hsame b (List.mem_filter.2 ⟨hin, by rw [blt_dec, n1]; simpa using hb'⟩)
                  have := Blk.eqb_eq _ _ this
                  simp only [St.get, ← hnext, this]
                · rw [List.map_append, List.mem_append, not_or] at hin
                  have e1 := kept_eq (aA.go hoA) (b := b) hb' hin.1
                  have e2 := kept_eq (aB.go hoB) (b := b) hb' hin.2
                  rw [e1, e2]
              · rcases meetHeap_in stA.heap stB.heap b _ (high b (by omega) hlt) with ⟨g1, g2⟩ | g1
                · left
                  have := Blk.eqb_eq _ _ g2
                  simp only [St.get, ← hnext]
                  rw [g1, this]
                · right; simp only [St.get]; rw [g1]; cases Nat.blt b stA.next <;> rfl
          · cases h
        · cases h
      · cases h
      · cases h
    · cases h
    · cases h
  · cases h
end
end Go.Sy

/- The evaluator is sound. -/
set_option linter.unusedVariables false
set_option linter.unusedSimpArgs false
namespace Go.Sy

/-- what is asked of a program's tables, once -/
structure SeatOK (P : Program) (tb : Tab) : Prop where
  tab : TabOK P tb
  fields : FieldsOK tb
  spec : SpecOK P tb
  code : ∀ f fn b, tb.funcs.get? f = some fn → fn.body = some b → codeOK fn.ntmps b = true

theorem getSlots_at {t : T AV} : ∀ (l : List Nat) (s : List (Nat × AV)), getSlots t l = some s → ∀ e ∈ s, t.get? e.1 = some e.2
  | [], s, h => by cases h; intro e he; cases he
  | i :: l, s, h => by
    simp only [getSlots] at h
    split at h
    · rename_i v vs h1 h2
      cases h
      intro e he
      rcases List.mem_cons.1 he with rfl | he
      · exact h1
      · exact getSlots_at l vs h2 e he
    · cases h
theorem toldFrag_ok {P : Program} {tb : Tab} (hS : SpecOK P tb) {c : Code} {fr : Fr} {bel : Below} {st : St} {rho lend wr ins : List Nat} {out : Out} {outs : List (Nat × AV)} {post : List Blk} {r : Res} (h : toldFrag tb c fr bel st rho lend wr ins out outs post = .ok r)
    {X : Nat → Prop} {L : Loc} {w : World} {F : Frame} {k : List Item} {cs : List Frame}
    (H : HRel X L st.hp w) (ho : AllObl r.st.obl) (hf : FRel X L w fr F) (hm : F.mode = .run) (ht : F.todo = .code c :: k) (hc : codeOK F.tmps.size c = true) (hb : BelR X L w bel F.kind cs) :
    ∃ L' w' F' cs', Lands P X L w F cs r.st L' w' F' cs' ∧ FRel X L' w' r.fr F' ∧ BelR X L' w' r.bel F.kind cs' ∧ OutR X L' w' F' k r.out := by
  unfold toldFrag at h
  split at h
  · rename_i pre rho' st2 slots hr0 hd0 htold hsl
    split at h
    · rename_i o hout
      cases h
      have hs := ho _ (List.mem_cons_self ..)
      have hun : Unch rho.length wr pre post := ho _ (List.mem_cons_of_mem _ (List.mem_cons_self ..))
      have hp := hS.frag _ _ _ _ _ _ _ hs
      obtain ⟨post', t1, t2, t3, t4, t5, t6, t7⟩ := told_inv htold
      obtain ⟨hnd, _, _, _⟩ := rhoOK_inv t3
      have hlow := down H hnd t1
      have hk : F.kind = .normal := hb
      have hrd : F.roundOf = none := by have := hf.round; rw [hr0] at this; exact this
      have hdf : F.defers = [] := by
        have := hf.defs
        rw [hd0] at this
        generalize F.defers = ds at this
        cases this; rfl
      obtain ⟨L0', w', F', s1, hE, hH, q1, q2, q3, q4, q5, q6, q7⟩ := hp _ _ w F k cs hlow hf.fn hdf hrd hk hm ht hc (fun e he => by
        obtain ⟨e0, he0, rfl⟩ := List.mem_map.1 he
        obtain ⟨x, hx, hv⟩ := hf.tmps _ _ (getSlots_at _ _ hsl e0 he0)
        exact ⟨x, hx, see_rel H hnd hv⟩)
      obtain ⟨L', u1, u2, u3⟩ := up H htold hun hE hH
      have hfx := hf.mono u1
      refine ⟨L', w', F', cs, ⟨s1, u1, u2, by rw [q1]; exact hf.fn.symm, by rw [q2]; exact hk.symm, by rw [q3]; exact hrd.symm, q4, .refl _ _⟩, ⟨q1, fun i v hi => ?_, ?_, ?_⟩, hk, ?_⟩
      · rcases setSlots_at _ _ _ _ hi with hi | hi
        · obtain ⟨e, he, hee⟩ := List.mem_map.1 hi
          cases hee
          obtain ⟨x, hx, hv⟩ := q6 e he
          exact ⟨x, hx, u3 _ _ (List.mem_append.2 (.inr (List.mem_map.2 ⟨e, he, rfl⟩))) hv⟩
        · rw [T.get?_nil] at hi; cases hi
      · show DRels X L' w' fr.defs F'.defers
        rw [hd0, q5]; exact .nil
      · show match fr.round with | none => F'.roundOf = none | some l => _
        rw [hr0]; exact q3
      · cases out with
        | norm => simp only [Out.ren, Option.some.injEq] at hout; subst hout; exact q7
        | exit i => simp only [Out.ren, Option.some.injEq] at hout; subst hout; exact q7
        | ret => simp only [Out.ren, Option.some.injEq] at hout; subst hout; exact q7
        | pan v =>
          simp only [Out.ren, Option.some.injEq] at hout
          subst hout
          obtain ⟨ch, g1, y, older, g2, g3, g4⟩ := q7
          exact ⟨ch, g1, y, older, g2, g3, u3 _ _ (List.mem_append.2 (.inl (by simp [outVs]))) g4⟩
        | done v => simp [Out.ren] at hout
    · cases h
  · cases h

section
variable {P : Program} {tb : Tab} {rec : Cmd → St → Ex}
theorem code_ok (ih : RecOK P rec) (S : SeatOK P tb) (hfun : ∀ f args b s r, rec (.call f args b) s = .ok r → ∃ fn, tb.funcs.get? f = some fn ∧ fn.body.isSome = true) {c : Code} {fr : Fr} {bel : Below} {st : St} {r : Res} (h : evCode tb rec c fr bel st = .ok r)
    (X : Nat → Prop) (L : Loc) (w : World) (F : Frame) (k : List Item) (cs : List Frame)
    (H : HRel X L st.hp w) (ho : AllObl r.st.obl) (hf : FRel X L w fr F) (hm : F.mode = .run) (ht : F.todo = .code c :: k) (hc : codeOK F.tmps.size c = true) (hb : BelR X L w bel F.kind cs) :
    ∃ L' w' F' cs', Lands P X L w F cs r.st L' w' F' cs' ∧ FRel X L' w' r.fr F' ∧ BelR X L' w' r.bel F.kind cs' ∧ OutR X L' w' F' k r.out := by
  have one : ∀ {s : step P (lone F cs w) = .next (lone { F with todo := k } cs w)}, r = ⟨.norm, fr, bel, st⟩ → ∃ L' w' F' cs', Lands P X L w F cs r.st L' w' F' cs' ∧ FRel X L' w' r.fr F' ∧ BelR X L' w' r.bel F.kind cs' ∧ OutR X L' w' F' k r.out := by
    intro s hr
    subst hr
    exact ⟨L, w, { F with todo := k }, cs, ⟨.one s, .refl _ _, H, rfl, rfl, rfl, rfl, .refl _ _⟩, hf.todo k F.mode, hb, hm, rfl⟩
  have stay : ∀ {out : Out}, r = ⟨out, fr, bel, st⟩ → OutR X L w F k out → ∃ L' w' F' cs', Lands P X L w F cs r.st L' w' F' cs' ∧ FRel X L' w' r.fr F' ∧ BelR X L' w' r.bel F.kind cs' ∧ OutR X L' w' F' k r.out := by
    intro out hr hout
    subst hr
    exact ⟨L, w, F, cs, ⟨.refl _ _, .refl _ _, H, rfl, rfl, rfl, rfl, .refl _ _⟩, hf, hb, hout⟩
  unfold evCode at h
  split at h
  · exact one (s := st_skip hm ht) (by cases h; rfl)
  · exact one (s := st_label hm ht) (by cases h; rfl)
  · rename_i a b
    unfold evSeq at h
    split at h
    · rename_i x d e u v hcho
      rw [Bool.cond_eq_ite] at h
      split at h
      · rename_i hbool
        exact choice_ok ih S.tab S.fields S.spec hfun hcho hbool h H ho hf hm ht hc hb
      · cases h
    · rename_i hcho
      have hc' : codeOK F.tmps.size a = true ∧ codeOK F.tmps.size b = true := by
        simp only [codeOK, hcho, Bool.and_eq_true] at hc
        exact hc
      exact seq_ok ih h H ho hf hm ht hc' hb
  · exact cond_ok ih h H ho hf hm ht hc hb
  · exact block_ok ih h H ho hf hm ht hc hb
  · unfold evLoop at h
    split at h
    · rw [Bool.cond_eq_ite] at h
      split at h
      · exact toldFrag_ok S.spec h H ho hf hm ht hc hb
      · exact loop_ok ih h H ho hf hm ht hc hb
    · exact loop_ok ih h H ho hf hm ht hc hb
  · rename_i i
    exact stay (out := .exit i) (by cases h; rfl) ⟨hm, [], by simpa using ht, fun _ => rfl⟩
  · cases h
  · exact stay (out := .ret) (by cases h; rfl) ⟨hm, k, ht⟩
  · cases h
  · cases h
  · exact region_ok ih S.tab S.fields S.spec hfun h H ho hf hm ht hc hb
  · exact range_ok ih S.tab hfun h H ho hf hm ht hc hb
end

theorem ev_fun (tb : Tab) : ∀ (n : Nat) (f : Nat) (args : List AV) (b : Below) (s : St) (r : Res), ev tb n (.call f args b) s = .ok r → ∃ fn, tb.funcs.get? f = some fn ∧ fn.body.isSome = true := by
  intro n f args b s r h
  cases n with
  | zero => simp [ev] at h
  | succ n =>
    simp only [ev, evStep, evFn] at h
    split at h
    · cases h
    · rename_i fn hfn
      split at h
      · cases h
      · rename_i body hbody
        exact ⟨fn, hfn, by rw [hbody]; rfl⟩

theorem ev_ok {P : Program} {tb : Tab} (S : SeatOK P tb) : ∀ n, RecOK P (ev tb n) := by
  intro n
  induction n with
  | zero => exact ⟨fun c fr bel st r h => by simp [ev] at h, fun f args bel st r h => by simp [ev] at h, fun fr how st r h => by simp [ev] at h, ev_adv tb 0⟩
  | succ n ih =>
    refine ⟨fun c fr bel st r h X L w F k cs H ho hf hm ht hc hb => ?_, fun f args bel st r h X L w xs kd cs H ho hx hb => ?_, fun fr how st r h X L w F cs H ho hf hr hh => ?_, ev_adv tb (n + 1)⟩
    · exact code_ok ih S (ev_fun tb n) h X L w F k cs H ho hf hm ht hc hb
    · exact fn_ok ih S.tab S.code h X L w xs kd cs H ho hx hb
    · exact unwind_ok ih S.tab (ev_fun tb n) h X L w F cs H ho hf hr hh
end Go.Sy

/- What is asked of a program's tables, from facts that are reckoned. -/
set_option linter.unusedVariables false
set_option linter.unusedSimpArgs false
namespace Go.Sy

section
variable {P : Program}
theorem flatV_inv : ∀ {xs ys : List Value} {r : Bool}, eqFlatV xs ys = some r → ∃ as bs : List Int, xs = as.map (.int .i64) ∧ ys = bs.map (.int .i64) ∧ as.length = bs.length ∧ r = decide (as = bs) := by
  intro xs
  induction xs with
  | nil =>
    intro ys r h
    cases ys with
    | nil => simp [eqFlatV] at h; exact ⟨[], [], rfl, rfl, rfl, by simp [← h]⟩
    | cons y ys => simp [eqFlatV] at h
  | cons x xs ih =>
    intro ys r h
    cases ys with
    | nil => simp [eqFlatV] at h
    | cons y ys =>
      unfold eqFlatV at h
      split at h
      · rename_i e0 _; cases e0
      · rename_i a x2 b y2 e1 e2
        cases e1; cases e2
        obtain ⟨q, hq, rfl⟩ := Option.map_eq_some_iff.1 h
        obtain ⟨as, bs, rfl, rfl, hl, rfl⟩ := ih hq
        refine ⟨a :: as, b :: bs, rfl, rfl, by simp [hl], ?_⟩
        simp
      · cases h

theorem run_equal_int {d t : Nat} {k : IntKind} (h : P.underlying t = some (.int k)) (j : IntKind) (a b : Int) (w : World) : (Op.equalIn (d + 1) t (.int j a) (.int j b)).run P w = .ok (a == b) w := by
  have hu : (underlying t).run P w = .ok (.int k) w := by simp [underlying, h]
  simp only [Op.equalIn, Sem.run_bind, hu, Result.andThen_ok, if_true, Sem.run_pure]
theorem run_part_int {t : Nat} {k : IntKind} (h : P.underlying t = some (.int k)) {cs : Array Value} {i : Nat} {v : Value} (hv : cs[i]? = some v) (w : World) : (part t cs i).run P w = .ok v w := by
  have hu : (underlying t).run P w = .ok (.int k) w := by simp [underlying, h]
  simp only [part, isAgg, Sem.run_bind, hu, Result.andThen_ok, Sem.run_pure, hv]
  rfl

/-- a struct of two whole numbers -/
theorem eq_two {t : Nat} {f0 f1 : Field} {k0 k1 : IntKind} (h : P.underlying t = some (.struct #[f0, f1])) (n0 : f0.name ≠ "_") (n1 : f1.name ≠ "_") (u0 : P.underlying f0.type = some (.int k0)) (u1 : P.underlying f1.type = some (.int k1)) (o0 : f0.offset = 0) (o1 : f1.offset = 1)
    (hs : P.stoodInHeld t = false) (hg : P.eqGuardType P.depth t = false) : EqOK P t 2 := by
  intro xs ys r w hx he
  have hu : (underlying t).run P w = .ok (.struct #[f0, f1]) w := by simp [underlying, h]
  obtain ⟨as, bs, e1, e2, hl, rfl⟩ := flatV_inv he
  have hal : as.length = 2 := by have := congrArg List.length e1; simp at this; omega
  match as, bs, hal, hl with
  | [a0, a1], [b0, b1], _, _ =>
    have hxs : xs = #[.int .i64 a0, .int .i64 a1] := list2 e1
    have hys : ys = #[.int .i64 b0, .int .i64 b1] := list2 e2
    subst hxs; subst hys
    refine ⟨by simp [eqGuard, Sem.run, program, hg], ?_⟩
    have p0 : ∀ w, (part f0.type #[.int .i64 a0, .int .i64 a1] f0.offset).run P w = .ok (.int .i64 a0) w := fun w => run_part_int u0 (by rw [o0]; rfl) w
    have p1 : ∀ w, (part f1.type #[.int .i64 a0, .int .i64 a1] f1.offset).run P w = .ok (.int .i64 a1) w := fun w => run_part_int u1 (by rw [o1]; rfl) w
    have q0 : ∀ w, (part f0.type #[.int .i64 b0, .int .i64 b1] f0.offset).run P w = .ok (.int .i64 b0) w := fun w => run_part_int u0 (by rw [o0]; rfl) w
    have q1 : ∀ w, (part f1.type #[.int .i64 b0, .int .i64 b1] f1.offset).run P w = .ok (.int .i64 b1) w := fun w => run_part_int u1 (by rw [o1]; rfl) w
    have hp : ∀ w, (program).run P w = .ok P w := fun w => rfl
    have gen : ∀ d, (Op.equalIn (d + 1 + 1) t (.agg #[.int .i64 a0, .int .i64 a1]) (.agg #[.int .i64 b0, .int .i64 b1])).run P w = .ok (decide ([a0, a1] = [b0, b1])) w := by
      intro d
      have r0 := fun w => run_equal_int (d := d) u0 .i64 a0 b0 w
      have r1 := fun w => run_equal_int (d := d) u1 .i64 a1 b1 w
      rw [Op.equalIn]
      generalize hE : Op.equalIn (d + 1) = E at r0 r1
      simp only [Sem.run_bind, hu, Result.andThen_ok, hp, hs]
      rw [← Array.forIn_toList]
      simp only [Bool.false_eq_true, if_false, List.forIn_cons, List.forIn_nil, n0, n1, ne_eq, not_false_eq_true, if_true, Sem.run_bind, p0, p1, q0, q1, Result.andThen_ok, r0, r1, Sem.run_pure]
      by_cases h0 : a0 = b0
      · subst h0
        by_cases h1 : a1 = b1
        · subst h1; simp [p0, p1, q0, q1, r0, r1]
        · simp [h1, p0, p1, q0, q1, r0, r1]
      · simp [h0]
    exact gen 9998

theorem info_of {t : Nat} {i : TypeInfo} (h : P.types[t]? = some i) : P.info? t = some i := by
  unfold Tables.info?
  rw [if_pos (Array.getElem?_eq_some_iff.1 h).1, h]

theorem seat_of {tb : Tab} (h1 : tb.types = T.ofList P.types.toList) (h2 : tb.funcs = T.ofList P.funcs.toList) (h3 : P.follows .mixedOrders = true) (h4 : (P.funcs.toList.all fun fn => fn.name != "runtime.NumGoroutine") = true)
    (h5 : ((List.range P.types.size).all fun t => match tb.under t with | some (.struct fs) => fs.toList.all (fun f => (tb.size f.type).isSome) | _ => true) = true) (h6 : ∀ t n, tb.eqs.contains t = true → tb.size t = some n → EqOK P t n)
    (h7 : P.funcs.toList.all funcOK = true) (hs : SpecOK P tb) : SeatOK P tb := by
  have hf : ∀ f fn, tb.funcs.get? f = some fn → P.funcs[f]? = some fn := by
    intro f fn h
    rw [h2, T.ofList_get, Array.getElem?_toList] at h
    exact h
  refine ⟨⟨fun t i h => ?_, hf, fun f fn h hb args w => ?_, h3, h6⟩, fun t fs h f hfm => ?_, hs, fun f fn b h hb => ?_⟩
  · rw [Tab.info, h1, T.ofList_get, Array.getElem?_toList] at h
    exact info_of h
  · have hP := hf f fn h
    have hn := List.all_eq_true.1 h4 fn (by rw [← Array.getElem?_toList] at hP; exact List.mem_of_getElem? hP)
    have hn' : (fn.name == "runtime.NumGoroutine") = false := by
      have hn2 : (!(fn.name == "runtime.NumGoroutine")) = true := hn
      simpa only [Bool.not_eq_true'] using hn2
    have hb' : fn.body.isNone = false := by cases hh : fn.body <;> simp_all
    have hp : ∀ w, (program).run P w = .ok P w := fun w => rfl
    simp only [callFunc, Sem.run_bind, hp, Result.andThen_ok, hP, hn', hb', Bool.false_eq_true, if_false, Sem.run_pure]
  · have ht : t < P.types.size := by
      apply Classical.byContradiction
      intro hh
      have hi : tb.info t = none := by rw [Tab.info, h1, T.ofList_get]; simp; omega
      unfold Tab.under at h
      rw [hi] at h
      cases h
    have := List.all_eq_true.1 h5 t (List.mem_range.2 ht)
    rw [h] at this
    exact Option.isSome_iff_exists.1 (List.all_eq_true.1 this f hfm)
  · have hP := hf f fn h
    have := List.all_eq_true.1 h7 fn (by rw [← Array.getElem?_toList] at hP; exact List.mem_of_getElem? hP)
    simpa [funcOK, hb] using this
end
end Go.Sy

/- What a run of the evaluator from a small state says of all runs. -/
set_option linter.unusedVariables false
set_option linter.unusedSimpArgs false
namespace Go.Sy

noncomputable def stOf (pre : List Blk) (tape : List (Nat × Ask)) : St := { heap := T.ofList pre, next := pre.length, cost := 0, log := [], tape := tape, obl := [] }
theorem stOf_hp (pre : List Blk) (tape : List (Nat × Ask)) : (stOf pre tape).hp = hpL pre := by
  funext b
  simp only [St.hp, stOf, St.get, T.ofList_get, hpL, blt_dec, Bool.cond_eq_ite, decide_eq_true_eq]
  by_cases h : b < pre.length
  · simp [h]
  · simp [h, List.getElem?_eq_none (Nat.not_lt.1 h)]

noncomputable def endSee (st : St) (sel lend : List Nat) : Out → Option End
  | .done v => some (.ret (seeV st sel lend v))
  | .pan v => some (.pan (seeV st sel lend v))
  | _ => none
noncomputable def outSee (st : St) (sel lend : List Nat) : Out → Option Out
  | .done _ => none
  | .pan v => some (.pan (seeV st sel lend v))
  | o => some o
/-- does the row begin with the first blocks? -/
def headOK : Nat → Nat → List Nat → Bool
  | 0, _, _ => true
  | n + 1, k, x :: r => Nat.beq x k && headOK n (k + 1) r
  | _ + 1, _, [] => false
theorem headOK_at : ∀ (n k : Nat) (l : List Nat), headOK n k l = true → ∀ i, i < n → l[i]? = some (k + i)
  | 0, _, _, _, i, hi => by omega
  | n + 1, k, [], h, i, hi => by simp [headOK] at h
  | n + 1, k, x :: r, h, i, hi => by
    simp only [headOK, Bool.and_eq_true, beq_dec, decide_eq_true_eq] at h
    cases i with
    | zero => simp [h.1]
    | succ i =>
      have := headOK_at n (k + 1) r h.2 i (by omega)
      simp only [List.getElem?_cons_succ, this]
      congr 1
      omega
/-- what is left of a call -/
noncomputable def callOut (e : Ex) (npre : Nat) (sel lend : List Nat) : Option (List Prop × End × List Blk) :=
  match e with
  | .ok r => match endSee r.st sel lend r.out, invBlks r.st (posOf sel 0) sel with
    | some o, some post => bif rhoOK r.st sel lend [] && headOK npre 0 sel then some (r.st.obl, o, post) else none
    | _, _ => none
  | .err _ => none
noncomputable def fragOut (e : Ex) (npre : Nat) (sel lend outs : List Nat) : Option (List Prop × Out × List (Nat × AV) × List Blk) :=
  match e with
  | .ok r => match outSee r.st sel lend r.out, invBlks r.st (posOf sel 0) sel, getSlots r.fr.tmps outs, r.fr.defs, r.fr.round with
    | some o, some post, some vs, [], none => bif rhoOK r.st sel lend [] && headOK npre 0 sel then some (r.st.obl, o, vs.map fun e => (e.1, seeV r.st sel lend e.2), post) else none
    | _, _, _, _, _ => none
  | .err _ => none

section
variable {P : Program} {tb : Tab} {X : Nat → Prop} {L L' : Loc} {w w' : World}
theorem sel_ext {pre : List Blk} {st : St} {sel lend : List Nat} (H0 : HRel X L (hpL pre) w) (H : HRel X L' st.hp w') (hE : Ext L w L' w') (hnd : (sel ++ lend).Nodup) {post : List Blk} (hpost : invBlks st (posOf sel 0) sel = some post) (hhead : headOK pre.length 0 sel = true) :
    Ext L w (lowL L' sel) w' ∧ HRel X (lowL L' sel) (hpL post) w' ∧ ∀ v x, VRel X L' w' v x → VRel X (lowL L' sel) w' (seeV st sel lend v) x := by
  have hsh : ∀ c, X c → lowX X L' sel lend c := fun c h => .inl h
  refine ⟨⟨hE.size, hE.same, fun b hb => ?_, fun c hc => ?_, hE.os, hE.tape, hE.output⟩, (down H hnd hpost).shrink hsh, fun v x hv => (see_rel H hnd hv).lift (.shrink hsh)⟩
  · have hlt : b < pre.length := by
      apply Classical.byContradiction
      intro hh
      exact hb (H0.out b (by simp [hpL, List.getElem?_eq_none (Nat.not_lt.1 hh)]))
    have := headOK_at _ _ _ hhead b hlt
    rw [Nat.zero_add] at this
    rw [lowL_at this]
    exact hE.loc b hb
  · obtain ⟨i, b, o, cap, sz, _, h⟩ := lowL_own hc
    exact hE.own c ⟨b, o, cap, sz, h⟩

/-- as `CallSpec`, and the end is the called function's own -/
def CallSpecF (P : Program) (f : Nat) (args : List AV) (pre : List Blk) (r : End) (post : List Blk) : Prop := ∀ (X : Nat → Prop) (L : Loc) (w : World) (xs : Array Value) (cs : List Frame), HRel X L (hpL pre) w → VRels X L w args xs.toList →
  ∃ L' w' F', Steps P (lone (Frame.enter P f xs .normal) cs w) (lone F' cs w') ∧ Ext L w L' w' ∧ HRel X L' (hpL post) w' ∧ F'.fn = f ∧ F'.kind = .normal ∧ LeaveR P X L' w' F' (endOut r)
theorem CallSpecF.spec {f : Nat} {args : List AV} {pre : List Blk} {r : End} {post : List Blk} (h : CallSpecF P f args pre r post) : CallSpec P f args pre r post := by
  intro X L w xs cs H hxs
  obtain ⟨L', w', F', h1, h2, h3, _, h5, h6⟩ := h X L w xs cs H hxs
  exact ⟨L', w', F', h1, h2, h3, h5, h6⟩
theorem call_specF (S : SeatOK P tb) {n f : Nat} {args : List AV} {pre : List Blk} {tape : List (Nat × Ask)} {sel lend : List Nat} {ps : List Prop} {e : End} {post : List Blk}
    (h : callOut (ev tb n (.call f args .none) (stOf pre tape)) pre.length sel lend = some (ps, e, post)) (ho : AllObl ps) : CallSpecF P f args pre e post := by
  intro X L w xs cs H hxs
  unfold callOut at h
  split at h
  · rename_i r hr
    split at h
    · rename_i o post0 h1 h2
      rw [Bool.cond_eq_ite] at h
      split at h
      · rename_i hc
        cases h
        simp only [Bool.and_eq_true] at hc
        obtain ⟨hnd, _, _, _⟩ := rhoOK_inv hc.1
        obtain ⟨L1, w1, F1, cs1, s1, hE, hH, hfn, hk, hu, _, hl⟩ := (ev_ok S n).call _ _ _ _ _ hr X L w xs .normal cs (by rw [stOf_hp]; exact H) ho hxs rfl
        have hcs := hu.normal
        subst hcs
        obtain ⟨q1, q2, q3⟩ := sel_ext H hH hE hnd h2 hc.2
        refine ⟨_, w1, F1, s1, q1, q2, hfn, hk, ?_⟩
        obtain ⟨out, fr, bel, st⟩ := r
        cases out with
        | done v =>
          simp only [endSee, Option.some.injEq] at h1
          subst h1
          obtain ⟨a1, a2, a3, fn, a4, x, a5, a6⟩ := hl
          exact ⟨a1, a2, a3, fn, a4, x, a5, q3 _ _ a6⟩
        | pan v =>
          simp only [endSee, Option.some.injEq] at h1
          subst h1
          obtain ⟨ch, a1, a2, a3, a4, y, older, b1, b2, b3⟩ := hl
          exact ⟨ch, a1, a2, a3, a4, y, older, b1, b2, q3 _ _ b3⟩
        | _ => simp [endSee] at h1
      · cases h
    · cases h
  · cases h

theorem call_spec (S : SeatOK P tb) {n f : Nat} {args : List AV} {pre : List Blk} {tape : List (Nat × Ask)} {sel lend : List Nat} {ps : List Prop} {e : End} {post : List Blk}
    (h : callOut (ev tb n (.call f args .none) (stOf pre tape)) pre.length sel lend = some (ps, e, post)) (ho : AllObl ps) : CallSpec P f args pre e post := (call_specF S h ho).spec

theorem frag_spec (S : SeatOK P tb) {n fn : Nat} {c : Code} {slots outs : List (Nat × AV)} {pre : List Blk} {tape : List (Nat × Ask)} {sel lend os : List Nat} {ps : List Prop} {out : Out} {post : List Blk}
    (h : fragOut (ev tb n (.code c { fn := fn, tmps := setSlots .nil slots, defs := [], round := none } .none) (stOf pre tape)) pre.length sel lend os = some (ps, out, outs, post)) (ho : AllObl ps) : FragSpec P fn c slots pre out outs post := by
  intro X L w F k cs H hfn hdf hrd hk hm ht hc hslots
  unfold fragOut at h
  split at h
  · rename_i r hr
    split at h
    · rename_i o post0 vs h1 h2 h3 hd0 hr0
      rw [Bool.cond_eq_ite] at h
      split at h
      · rename_i hcc
        cases h
        simp only [Bool.and_eq_true] at hcc
        obtain ⟨hnd, _, _, _⟩ := rhoOK_inv hcc.1
        have hf : FRel X L w { fn := fn, tmps := setSlots .nil slots, defs := [], round := none } F := by
          refine ⟨hfn, fun i v hi => ?_, by rw [hdf]; exact .nil, hrd⟩
          rcases setSlots_at _ _ _ _ hi with hi | hi
          · exact hslots _ hi
          · rw [T.get?_nil] at hi; cases hi
        obtain ⟨L1, w1, F1, cs1, l1, hf1, hb1, o1⟩ := (ev_ok S n).code _ _ _ _ _ hr X L w F k cs (by rw [stOf_hp]; exact H) ho hf hm ht hc hk
        have hu := l1.und
        rw [hk] at hu
        have hcs := hu.normal
        subst hcs
        obtain ⟨q1, q2, q3⟩ := sel_ext H l1.heap l1.ext hnd h2 hcc.2
        refine ⟨_, w1, F1, l1.steps, q1, q2, l1.fn.trans hfn, l1.kind.trans hk, l1.round.trans hrd, l1.size, ?_, fun e he => ?_, ?_⟩
        · have := hf1.defs
          rw [hd0] at this
          generalize F1.defers = ds at this
          cases this; rfl
        · obtain ⟨e0, he0, rfl⟩ := List.mem_map.1 he
          obtain ⟨x, hx, hv⟩ := hf1.tmps _ _ (getSlots_at _ _ h3 e0 he0)
          exact ⟨x, hx, q3 _ _ hv⟩
        · obtain ⟨ro, fr, bel, st⟩ := r
          cases ro with
          | norm => simp only [outSee, Option.some.injEq] at h1; subst h1; exact o1
          | exit i => simp only [outSee, Option.some.injEq] at h1; subst h1; exact o1
          | ret => simp only [outSee, Option.some.injEq] at h1; subst h1; exact o1
          | pan v =>
            simp only [outSee, Option.some.injEq] at h1
            subst h1
            obtain ⟨ch, a1, y, older, b1, b2, b3⟩ := o1
            exact ⟨ch, a1, y, older, b1, b2, q3 _ _ b3⟩
          | done v => simp [outSee] at h1
      · cases h
    · cases h
  · cases h

/-- a round, and the rounds behind it -/
theorem loop_more {fn : Nat} {b : Code} {s0 s1 s2 : List (Nat × AV)} {p0 p1 p2 : List Blk} {out : Out} (h1 : FragSpec P fn b s0 p0 .norm s1 p1) (h2 : FragSpec P fn (.loop b) s1 p1 out s2 p2) : FragSpec P fn (.loop b) s0 p0 out s2 p2 := by
  intro X L w F k cs H hfn hdf hrd hk hm ht hc hslots
  have s0' := st_loop (P := P) (cs := cs) (w := w) hm ht
  have hc' : codeOK F.tmps.size b = true := by simpa only [codeOK] using hc
  obtain ⟨L1, w1, F1, t1, t2, t3, t4, t5, t6, t7, t8, t9, om, ot⟩ := h1 X L w { F with todo := .code b :: .inLoop b :: k } (.inLoop b :: k) cs H hfn hdf hrd hk hm rfl hc' hslots
  obtain ⟨L2, w2, F2, u1, u2, u3, u4, u5, u6, u7, u8, u9, o2⟩ := h2 X L1 w1 { F1 with todo := .code (.loop b) :: k } k cs t3 t4 t8 t6 t5 om rfl (by show codeOK F1.tmps.size (.loop b) = true; rw [t7]; exact hc) t9
  have hne : lone { F1 with todo := .code (.loop b) :: k } cs w1 ≠ lone F2 cs w2 := by
    intro e
    have e := lone_frame e
    rw [← e] at o2
    cases out with
    | norm => have := congrArg List.length o2.2; simp at this
    | exit i => obtain ⟨_, j, q, _⟩ := o2; cases q
    | ret => obtain ⟨_, j, q⟩ := o2; cases q
    | pan v => obtain ⟨ch, q, _⟩ := o2; rw [show ({ F1 with todo := .code (.loop b) :: k } : Frame).mode = F1.mode from rfl, om] at q; cases q
    | done v => exact o2
  have sA := st_loop (P := P) (F := { F1 with todo := .code (.loop b) :: k }) (cs := cs) (w := w1) om rfl
  have sB := st_inLoop (P := P) (cs := cs) (w := w1) om ot
  have steps2 : Steps P (lone F1 cs w1) (lone F2 cs w2) := .head sB (steps_later u1 sA hne)
  exact ⟨L2, w2, F2, .head s0' (t1.trans steps2), t2.trans u2, u3, u4, u5, u6, u7.trans t7, u8, u9, o2⟩
/-- a round that leaves the loop -/
theorem loop_last {fn : Nat} {b : Code} {s0 s1 : List (Nat × AV)} {p0 p1 : List Blk} {out : Out} (h1 : FragSpec P fn b s0 p0 out s1 p1) (hn : out ≠ .norm) : FragSpec P fn (.loop b) s0 p0 out s1 p1 := by
  intro X L w F k cs H hfn hdf hrd hk hm ht hc hslots
  have s0' := st_loop (P := P) (cs := cs) (w := w) hm ht
  have hc' : codeOK F.tmps.size b = true := by simpa only [codeOK] using hc
  obtain ⟨L1, w1, F1, t1, t2, t3, t4, t5, t6, t7, t8, t9, o⟩ := h1 X L w { F with todo := .code b :: .inLoop b :: k } (.inLoop b :: k) cs H hfn hdf hrd hk hm rfl hc' hslots
  refine ⟨L1, w1, F1, .head s0' t1, t2, t3, t4, t5, t6, t7, t8, t9, ?_⟩
  cases out with
  | norm => exact absurd rfl hn
  | exit i =>
    obtain ⟨q1, j, q2, q3⟩ := o
    exact ⟨q1, j ++ [.inLoop b], by rw [q2]; simp, fun k => by rw [List.append_assoc, q3]; simp [exitTo]⟩
  | ret => exact o
  | pan v => exact o
  | done v => exact o

/-- blocks let go -/
theorem frag_drop {fn : Nat} {c : Code} {s0 s1 : List (Nat × AV)} {p0 p1 p2 : List Blk} {out : Out} (h : FragSpec P fn c s0 p0 out s1 p1) (hh : ∀ i : Nat, p2[i]? = p1[i]? ∨ (p2[i]? = some .dead ∧ p1[i]? ≠ none)) : FragSpec P fn c s0 p0 out s1 p2 := by
  intro X L w F k cs H hfn hdf hrd hk hm ht hc hslots
  obtain ⟨L1, w1, F1, t1, t2, t3, t4, t5, t6, t7, t8, t9, o⟩ := h X L w F k cs H hfn hdf hrd hk hm ht hc hslots
  obtain ⟨lft, hE⟩ := t3.dropExt (h' := hpL p2) hh
  refine ⟨_, w1, F1, t1, t2.trans hE, t3.drop hh, t4, t5, t6, t7, t8, fun e he => ?_, ?_⟩
  · obtain ⟨x, hx, hv⟩ := t9 e he
    exact ⟨x, hx, hv.lift lft⟩
  · cases out with
    | norm => exact o
    | exit i => exact o
    | ret => exact o
    | pan v =>
      obtain ⟨ch, q1, q2⟩ := o
      exact ⟨ch, q1, q2.lift lft⟩
    | done v => exact o
end
end Go.Sy

/- Pieces of code by their place. -/
set_option linter.unusedVariables false
namespace Go.Sy
/-- the outermost loops' bodies, in order -/
def loopsOf : Code → List Code
  | .loop b => [b]
  | .seq a b => loopsOf a ++ loopsOf b
  | .cond _ a b => loopsOf a ++ loopsOf b
  | .block _ b => loopsOf b
  | .scope b => loopsOf b
  | .rangeFunc _ _ a b => loopsOf a ++ loopsOf b
  | _ => []
/-- the outermost ranges over functions -/
def rangesOf : Code → List (Array Tmp × Code × Code)
  | .rangeFunc _ ps a b => [(ps, a, b)]
  | .loop b => rangesOf b
  | .seq a b => rangesOf a ++ rangesOf b
  | .cond _ a b => rangesOf a ++ rangesOf b
  | .block _ b => rangesOf b
  | .scope b => rangesOf b
  | _ => []
def nth {α : Type} (d : α) : List α → Nat → α
  | [], _ => d
  | x :: _, 0 => x
  | _ :: r, n + 1 => nth d r n
noncomputable def bodyIn (fs : T Func) (f : Nat) : Code := match fs.get? f with
  | some fn => fn.body.getD .skip
  | none => .skip
noncomputable def loopIn (fs : T Func) (f k : Nat) : Code := nth .skip (loopsOf (bodyIn fs f)) k
noncomputable def rangeIn (fs : T Func) (f k : Nat) : Array Tmp × Code × Code := nth (#[], .skip, .skip) (rangesOf (bodyIn fs f)) k
end Go.Sy
