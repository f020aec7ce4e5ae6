/- A run from a small state is a run from any state that holds it: the rule. -/
import Derived.Test.YtapfloegpaadgaaGreatSyFrame2
set_option linter.unusedVariables false
set_option linter.unusedSimpArgs false
set_option linter.unusedSectionVars false
namespace Go.Sy

noncomputable def upL (L L0' : Loc) (rho' lend : List Nat) (keep : Bool) : Loc := fun b => match posOf rho' 0 b with
  | some i => L0' i
  | none => if keep = false ∧ b ∈ lend then .dead else L b

section
variable {X : Nat → Prop} {L L0' : Loc} {w w' : World} {st st' : St} {rho lend wr rho' : List Nat} {post pre : List Blk} {vs : List AV}
theorem rhoNew_at (i : Nat) : (rhoNew st rho post)[i]? = if i < rho.length then rho[i]? else if i < post.length then some (st.next + (i - rho.length)) else none := by
  unfold rhoNew
  by_cases h : i < rho.length
  · rw [if_pos h, List.getElem?_append_left h]
  · rw [if_neg h, List.getElem?_append_right (Nat.not_lt.1 h)]
    simp only [List.getElem?_map]
    by_cases h2 : i < post.length
    · rw [if_pos h2, List.getElem?_range (by omega)]; rfl
    · rw [if_neg h2, List.getElem?_eq_none (by simp; omega)]; rfl
theorem up (H : HRel X L st.hp w) (ht : told st rho lend wr post vs = some (pre, rho', st')) (hun : Unch rho.length wr pre post) (hE : Ext (lowL L rho) w L0' w') (H' : HRel (lowX X L rho lend) L0' (hpL post) w') :
    ∃ L', Ext L w L' w' ∧ HRel X L' st'.hp w' ∧ ∀ v x, v ∈ vs → VRel (lowX X L rho lend) L0' w' v x → VRel X L' w' (AV.ren rho' v) x := by
  obtain ⟨post', t1, t2, t3, t4, t5, rfl, rfl⟩ := told_inv ht
  obtain ⟨hnd, hal, hle, hwr⟩ := rhoOK_inv t3
  have hndr := (List.nodup_append.1 hnd).1
  have disj : ∀ b, b ∈ rho → b ∉ lend := fun b hb hr => (List.nodup_append.1 hnd).2.2 b hb b hr rfl
  obtain ⟨hpl, hpat⟩ := renBlks_at _ _ t2
  have hlt : ∀ b ∈ rho, b < st.next := fun b hb => St.alive_lt (hal b hb)
  have hltl : ∀ b ∈ lend, b < st.next := fun b hb => St.alive_lt (hle b hb)
  generalize hkeep : keepOK lend post vs = keep
  generalize hR : rhoNew st rho post = R at *
  have Rat : ∀ i, R[i]? = if i < rho.length then rho[i]? else if i < post.length then some (st.next + (i - rho.length)) else none := by intro i; rw [← hR]; exact rhoNew_at i
  have Rlen : R.length = post.length := by
    have h1 : R[post.length]? = none := by rw [Rat, if_neg (by omega), if_neg (by omega)]
    rw [List.getElem?_eq_none_iff] at h1
    apply Nat.le_antisymm h1
    apply Nat.le_of_not_lt
    intro hh
    have h2 : R[R.length]? = none := List.getElem?_eq_none (Nat.le_refl _)
    rw [Rat] at h2
    split at h2
    · rename_i h3; rw [List.getElem?_eq_getElem h3] at h2; cases h2
    · first | (cases h2; done) | (rw [if_pos hh] at h2; cases h2)
  have Rnd : R.Nodup := by
    rw [← hR]
    unfold rhoNew
    rw [List.nodup_append]
    refine ⟨hndr, ?_, fun a ha b hb => ?_⟩
    · rw [List.Nodup, List.pairwise_map]
      exact List.nodup_range.imp fun h => by omega
    · have := hlt a ha
      obtain ⟨j, _, rfl⟩ := List.mem_map.1 hb
      omega
  have Rrho : ∀ (i b : Nat), rho[i]? = some b → R[i]? = some b := by
    intro i b h
    rw [Rat, if_pos (List.getElem?_eq_some_iff.1 h).1]; exact h
  have Rcase : ∀ (i b : Nat), R[i]? = some b → (i < rho.length ∧ rho[i]? = some b) ∨ (rho.length ≤ i ∧ i < post.length ∧ b = st.next + (i - rho.length)) := by
    intro i b h
    rw [Rat] at h
    split at h
    · rename_i h1; exact .inl ⟨h1, h⟩
    · rename_i h1
      split at h
      · rename_i h2; cases h; exact .inr ⟨by omega, h2, rfl⟩
      · cases h
  -- the state behind
  generalize hS1 : putAll st rho post' wr = S0
  have n0 : S0.next = st.next := by rw [← hS1]; exact putAll_next _ _ _ _
  obtain ⟨n1, gold, gnew⟩ := newAll_get (post'.drop rho.length) S0
  generalize hS2 : newAll S0 (post'.drop rho.length) = S1 at n1 gold gnew
  have hup : upSt st rho lend wr keep post' = bif keep then S1 else killAll S1 lend := by simp only [upSt, hS1, hS2]
  have hn1 : S1.next = st.next + (post.length - rho.length) := by rw [n1, n0]; simp [hpl]
  have hnx : (upSt st rho lend wr keep post').next = st.next + (post.length - rho.length) := by
    rw [hup]
    cases keep
    · simp only [cond_false]; rw [killAll_next]; exact hn1
    · simp only [cond_true]; exact hn1
  have getU : ∀ b, b < S1.next → (keep = true ∨ b ∉ lend) → (upSt st rho lend wr keep post').get b = S1.get b := by
    intro b hb hk
    rw [hup]
    cases keep
    · simp only [cond_false]
      exact (killAll_puts lend S1).get b hb (hk.resolve_left (by simp))
    · rfl
  have g1 : ∀ (i b : Nat) (x : Blk), i ∈ wr → rho[i]? = some b → post'[i]? = some x → (upSt st rho lend wr keep post').get b = x := by
    intro i b x hi hb hx
    have hbm := List.mem_of_getElem? hb
    have h2 := hlt b hbm
    rw [getU b (by omega) (.inr (disj b hbm)), gold b (by omega), ← hS1]
    exact putAll_at hndr wr st i b x hi hb hx h2
  have g2 : ∀ (i b : Nat), i ∉ wr → rho[i]? = some b → (upSt st rho lend wr keep post').get b = st.get b := by
    intro i b hi hb
    have hbm := List.mem_of_getElem? hb
    have h2 := hlt b hbm
    rw [getU b (by omega) (.inr (disj b hbm)), gold b (by omega), ← hS1]
    refine (putAll_puts rho post' wr st).get b h2 ?_
    rintro ⟨k, hk, hk2, _⟩
    have e1 := posOf_at hndr hb
    have e2 := posOf_at hndr hk2
    rw [e1] at e2; cases e2
    exact hi hk
  have g3 : ∀ (i : Nat) (x : Blk), rho.length ≤ i → post'[i]? = some x → (upSt st rho lend wr keep post').get (st.next + (i - rho.length)) = x := by
    intro i x hi hx
    have hil := (List.getElem?_eq_some_iff.1 hx).1
    have := gnew (i - rho.length) x (by rw [List.getElem?_drop, show rho.length + (i - rho.length) = i by omega]; exact hx)
    rw [n0] at this
    rw [getU _ (by omega) (.inr fun hh => by have := hltl _ hh; omega)]
    exact this
  have g4 : ∀ b, b < st.next → b ∉ rho → (keep = true ∨ b ∉ lend) → (upSt st rho lend wr keep post').get b = st.get b := by
    intro b hb hr hk
    rw [getU b (by omega) hk, gold b (by omega), ← hS1]
    refine (putAll_puts rho post' wr st).get b hb ?_
    rintro ⟨k, hk, hk2, _⟩
    exact hr (List.mem_of_getElem? hk2)
  have g5 : ∀ b, keep = false → b ∈ lend → (upSt st rho lend wr keep post').get b = .dead := by
    intro b hk hb
    rw [hup, hk]
    simp only [cond_false]
    exact killAll_at lend S1 b hb
  -- where it lies
  have hLat : ∀ (i b : Nat), R[i]? = some b → upL L L0' R lend keep b = L0' i := by
    intro i b h
    simp only [upL, posOf_at Rnd h]
  have hLelse : ∀ b, posOf R 0 b = none → (keep = true ∨ b ∉ lend) → upL L L0' R lend keep b = L b := by
    intro b h hk
    simp only [upL, h]
    rw [if_neg]
    rintro ⟨h1, h2⟩
    rcases hk with hk | hk
    · rw [hk] at h1; cases h1
    · exact hk h2
  have hLkill : ∀ b, keep = false → b ∈ lend → upL L L0' R lend keep b = .dead := by
    intro b hk hb
    have : posOf R 0 b = none := by
      cases hp : posOf R 0 b with
      | none => rfl
      | some i =>
        obtain ⟨_, h2⟩ := posOf_some _ _ _ _ hp
        rcases Rcase i b h2 with ⟨_, h⟩ | ⟨_, _, h⟩
        · exact absurd hb (disj b (List.mem_of_getElem? h))
        · have := hltl b hb; omega
    simp only [upL, this]
    rw [if_pos ⟨hk, hb⟩]
  have hLabs : ∀ b, L b ≠ .absent → b < st.next := by
    intro b hb
    apply Classical.byContradiction
    intro hh
    exact hb (H.out b (hp_none (Nat.not_lt.1 hh)))
  have nrho : ∀ b, posOf R 0 b = none → b ∉ rho := by
    intro b hp hb
    obtain ⟨i, hi⟩ := List.mem_iff_getElem?.1 hb
    exact posOf_none _ _ _ hp (List.mem_of_getElem? (Rrho i b hi))
  have live : ∀ b c o cap sz, upL L L0' R lend keep b = .live c o cap sz → (∃ i, R[i]? = some b ∧ L0' i = .live c o cap sz) ∨ (b ∉ rho ∧ (keep = true ∨ b ∉ lend) ∧ L b = .live c o cap sz) := by
    intro b c o cap sz h
    cases hp : posOf R 0 b with
    | some i =>
      obtain ⟨_, h2⟩ := posOf_some _ _ _ _ hp
      rw [hLat i b h2] at h
      exact .inl ⟨i, h2, h⟩
    | none =>
      by_cases hk : keep = false ∧ b ∈ lend
      · rw [hLkill b hk.1 hk.2] at h; cases h
      · have hk' : keep = true ∨ b ∉ lend := by
          cases hkk : keep
          · exact .inr fun hb => hk ⟨hkk, hb⟩
          · exact .inl rfl
        rw [hLelse b hp hk'] at h
        exact .inr ⟨nrho b hp, hk', h⟩
  have own : ∀ c, Owned (upL L L0' R lend keep) c → Owned L0' c ∨ ∃ b o cap sz, b ∉ rho ∧ (keep = true ∨ b ∉ lend) ∧ L b = .live c o cap sz := by
    rintro c ⟨b, o, cap, sz, h⟩
    rcases live b c o cap sz h with ⟨i, h1, h2⟩ | ⟨h1, h2, h3⟩
    · exact .inl ⟨i, o, cap, sz, h2⟩
    · exact .inr ⟨b, o, cap, sz, h1, h2, h3⟩
  have notlow : ∀ b c o cap sz, b ∉ rho → L b = .live c o cap sz → ¬ Owned (lowL L rho) c := by
    intro b c o cap sz hb hL h
    obtain ⟨i, b', o', cap', sz', hi, h⟩ := lowL_own h
    have := H.inj _ _ _ _ _ _ _ _ _ h hL
    subst this
    exact hb (List.mem_of_getElem? hi)
  have hEX : Ext L w (upL L L0' R lend keep) w' := by
    refine ⟨hE.size, fun c hc ho => hE.same c hc fun h => ?_, fun b hb => ?_, fun c hc => ?_, hE.os, hE.tape, hE.output⟩
    · obtain ⟨i, b, o, cap, sz, _, h⟩ := lowL_own h
      exact ho ⟨b, o, cap, sz, h⟩
    · cases hp : posOf R 0 b with
      | some i =>
        obtain ⟨_, h2⟩ := posOf_some _ _ _ _ hp
        rw [hLat i b h2]
        rcases Rcase i b h2 with ⟨_, h⟩ | ⟨_, _, h⟩
        · have e := lowL_at (L := L) h
          rw [← e]
          exact hE.loc i (by rw [e]; exact hb)
        · have := hLabs b hb; omega
      | none =>
        by_cases hk : keep = false ∧ b ∈ lend
        · exact .inr (hLkill b hk.1 hk.2)
        · refine .inl (hLelse b hp ?_)
          cases hkk : keep
          · exact .inr fun hb => hk ⟨hkk, hb⟩
          · exact .inl rfl
    · rcases own c hc with h | ⟨b, o, cap, sz, _, _, h⟩
      · rcases hE.own c h with h | h
        · obtain ⟨i, b, o, cap, sz, _, h⟩ := lowL_own h
          exact .inl ⟨b, o, cap, sz, h⟩
        · exact .inr h
      · exact .inl ⟨b, o, cap, sz, h⟩
  -- what is read alone stays so
  have out : (!keep || lend.isEmpty) = true → ∀ c, c < w'.heap.size → ¬ Owned L0' c → ¬ lowX X L rho lend c → ¬ Owned (upL L L0' R lend keep) c ∧ ¬ X c ∧ c < w'.heap.size ∧ w'.heap[c]? = w'.heap[c]? := by
    intro hb0 c hc h1 h2
    refine ⟨fun h => ?_, fun h => h2 (.inl h), hc, rfl⟩
    rcases own c h with h | ⟨b, o, cap, sz, k1, k2, k3⟩
    · exact h1 h
    · apply h2
      refine .inr ⟨⟨b, o, cap, sz, k3⟩, notlow b c o cap sz k1 k3, ?_⟩
      rintro ⟨b', hb', o', cap', sz', h⟩
      have := H.inj _ _ _ _ _ _ _ _ _ h k3
      subst this
      rcases k2 with k2 | k2
      · rw [k2] at hb0
        simp at hb0
        subst hb0
        cases hb'
      · exact k2 hb'
  have imm : ∀ x, x ∈ post → (!keep || lend.isEmpty) = true ∨ Blk.noImm x = true := by
    intro x hx
    cases hkk : keep
    · exact .inl rfl
    · rw [hkk] at hkeep
      simp only [keepOK, Bool.or_eq_true, Bool.and_eq_true] at hkeep
      rcases hkeep with h | ⟨h, _⟩
      · exact .inl (by rw [h]; simp)
      · exact .inr (List.all_eq_true.1 h x hx)
  have immV : ∀ v, v ∈ vs → (!keep || lend.isEmpty) = true ∨ AV.noImm v = true := by
    intro v hv
    cases hkk : keep
    · exact .inl rfl
    · rw [hkk] at hkeep
      simp only [keepOK, Bool.or_eq_true, Bool.and_eq_true] at hkeep
      rcases hkeep with h | ⟨_, h⟩
      · exact .inl (by rw [h]; simp)
      · exact .inr (noImms_all _ h v hv)
  have hRL : ∀ (b c : Nat), R[b]? = some c → upL L L0' R lend keep c = L0' b := fun b c h => hLat b c h
  refine ⟨upL L L0' R lend keep, hEX, ?_, fun v x hv hx => ren_rel out hRL hx (immV v hv)⟩
  obtain ⟨hprl, hprat⟩ := invBlks_at _ _ t1
  -- what a block of the row holds
  have blk : ∀ (i b : Nat), R[i]? = some b → ∃ y, post[i]? = some y ∧ ((∃ x, Blk.ren R y = some x ∧ (upSt st rho lend wr keep post').get b = x) ∨ (y.alive = true ∧ ∃ x, (upSt st rho lend wr keep post').get b = x ∧ x.alive = true ∧ Blk.ren R y = some x)) := by
    intro i b h
    rcases Rcase i b h with ⟨h1, h2⟩ | ⟨h1, h2, h3⟩
    · by_cases hi : i ∈ wr
      · have hil : i < post'.length := by omega
        obtain ⟨y, hy, hyr⟩ := hpat i _ (List.getElem?_eq_getElem hil)
        exact ⟨y, hy, .inl ⟨_, hyr, g1 i b _ hi h2 (List.getElem?_eq_getElem hil)⟩⟩
      · have hany : wr.any (Nat.beq i) = false := by
          cases hh : wr.any (Nat.beq i) with
          | false => rfl
          | true => exact absurd (any_beq.1 hh) hi
        obtain ⟨y, hy1, hy2⟩ := hprat i b h2
        have hyp := hun i h1 hany
        rw [hy1] at hyp
        obtain ⟨a1, a2⟩ := inv_alive hy2
        refine ⟨y, hyp, .inr ⟨a1, st.get b, g2 i b hi h2, a2, ?_⟩⟩
        have hcl := cleanOK_at rho 0 t4 i b h2 (by rw [Nat.zero_add]; exact hany)
        have hpp : ∀ b i, posOf rho 0 b = some i → R[i]? = some b := by
          intro b i hp
          obtain ⟨_, q⟩ := posOf_some _ _ _ _ hp
          exact Rrho i b q
        cases hsb : st.get b with
        | cells cs =>
          rw [hsb] at hy2 hcl
          simp only [Blk.inv, Option.some.injEq] at hy2
          subst hy2
          simp only [Blk.ren, clean_rens hpp cs hcl]
        | map ms =>
          rw [hsb] at hy2 hcl
          simp only [Blk.inv, Option.some.injEq] at hy2
          subst hy2
          simp only [Blk.ren, List.map_map, Option.some.injEq, Blk.map.injEq]
          refine (List.map_congr_left fun e he => ?_).trans (List.map_id _)
          have := List.all_eq_true.1 hcl e he
          simp only [Function.comp, clean_ren hpp e.2 this, id]
        | loop s p f t qs a b' d => rw [hsb] at hcl; simp [Blk.clean] at hcl
        | defd t => rw [hsb] at hy2; simp only [Blk.inv, Option.some.injEq] at hy2; subst hy2; rfl
        | dead => rw [hsb] at hy2; cases hy2
    · have hil : i < post'.length := by omega
      obtain ⟨y, hy, hyr⟩ := hpat i _ (List.getElem?_eq_getElem hil)
      refine ⟨y, hy, .inl ⟨_, hyr, ?_⟩⟩
      rw [h3]
      exact g3 i _ h1 (List.getElem?_eq_getElem hil)
  have blk' : ∀ (i b : Nat), R[i]? = some b → ∃ y, post[i]? = some y ∧ Blk.ren R y = some ((upSt st rho lend wr keep post').get b) := by
    intro i b h
    obtain ⟨y, hy, h | ⟨_, x, h1, _, h2⟩⟩ := blk i b h
    · obtain ⟨x, h1, h2⟩ := h; exact ⟨y, hy, by rw [h2]; exact h1⟩
    · exact ⟨y, hy, by rw [h1]; exact h2⟩
  have dead_ren : ∀ y, Blk.ren R y = some .dead → y = .dead := by
    intro y h
    cases y <;> simp only [Blk.ren] at h
    case loop s p f t qs a b d => split at h <;> cases h
    all_goals first | rfl | cases h
  have Rlt : ∀ (i b : Nat), R[i]? = some b → b < st.next + (post.length - rho.length) := by
    intro i b h
    rcases Rcase i b h with ⟨_, h2⟩ | ⟨_, h2, h3⟩
    · have := hlt b (List.mem_of_getElem? h2); omega
    · omega
  have hhp : ∀ b x, (upSt st rho lend wr keep post').hp b = some x → b < st.next + (post.length - rho.length) ∧ (upSt st rho lend wr keep post').get b = x := by
    intro b x h
    unfold St.hp at h
    rw [hnx] at h
    split at h
    · rename_i hb; cases h; exact ⟨hb, rfl⟩
    · cases h
  have newR : ∀ b, st.next ≤ b → b < st.next + (post.length - rho.length) → posOf R 0 b ≠ none := by
    intro b h1 h2 h3
    have : R[rho.length + (b - st.next)]? = some b := by
      rw [Rat, if_neg (by omega), if_pos (by omega)]
      congr 1
      omega
    exact posOf_none _ _ _ h3 (List.mem_of_getElem? this)
  refine ⟨fun b hb => ?_, fun b hb => ?_, fun b x hb hx => ?_, fun b b' c o cap sz o' cap' sz' h h' => ?_, fun c hc => ?_, fun c hc hX => ?_, fun c hc => Nat.lt_of_lt_of_le (H.xlt c hc) hE.size⟩
  · have hbn : st.next + (post.length - rho.length) ≤ b := by
      unfold St.hp at hb
      rw [hnx] at hb
      split at hb
      · cases hb
      · omega
    have hp : posOf R 0 b = none := by
      cases hp : posOf R 0 b with
      | none => rfl
      | some i =>
        obtain ⟨_, h2⟩ := posOf_some _ _ _ _ hp
        have := Rlt i b h2; omega
    rw [hLelse b hp (.inr fun h => by have := hltl b h; omega)]
    exact H.out b (hp_none (by omega))
  · obtain ⟨hbn, hg⟩ := hhp b _ hb
    cases hp : posOf R 0 b with
    | some i =>
      obtain ⟨_, h2⟩ := posOf_some _ _ _ _ hp
      rw [hLat i b h2]
      obtain ⟨y, hy, hyr⟩ := blk' i b h2
      rw [hg] at hyr
      have := dead_ren y hyr
      subst this
      exact H'.dead i hy
    | none =>
      by_cases hk : keep = false ∧ b ∈ lend
      · exact hLkill b hk.1 hk.2
      · have hk' : keep = true ∨ b ∉ lend := by
          cases hkk : keep
          · exact .inr fun hb => hk ⟨hkk, hb⟩
          · exact .inl rfl
        have hbs : b < st.next := by
          apply Classical.byContradiction
          intro hh
          exact newR b (Nat.not_lt.1 hh) hbn hp
        rw [hLelse b hp hk']
        rw [g4 b hbs (nrho b hp) hk'] at hg
        exact H.dead b (by simp [St.hp, hbs, hg])
  · obtain ⟨hbn, hg⟩ := hhp b _ hb
    cases hp : posOf R 0 b with
    | some i =>
      obtain ⟨_, h2⟩ := posOf_some _ _ _ _ hp
      obtain ⟨y, hy, hyr⟩ := blk' i b h2
      rw [hg] at hyr
      have hya : y.alive = true := by cases y <;> first | rfl | (simp only [Blk.ren, Option.some.injEq] at hyr; subst hyr; cases hx)
      obtain ⟨c, o, cap, sz, k1, k2⟩ := H'.blk i y hy hya
      exact ⟨c, o, cap, sz, by rw [hLat i b h2]; exact k1, ren_blk out hRL k2 hyr (imm y (List.mem_of_getElem? hy))⟩
    | none =>
      have hk' : keep = true ∨ b ∉ lend := by
        cases hkk : keep
        · refine .inr fun hbl => ?_
          rw [g5 b hkk hbl] at hg
          subst hg; cases hx
        · exact .inl rfl
      have hbs : b < st.next := by
        apply Classical.byContradiction
        intro hh
        exact newR b (Nat.not_lt.1 hh) hbn hp
      rw [g4 b hbs (nrho b hp) hk'] at hg
      obtain ⟨c, o, cap, sz, k1, k2⟩ := H.blk b x (by simp [St.hp, hbs, hg]) hx
      refine ⟨c, o, cap, sz, by rw [hLelse b hp hk']; exact k1, k2.lift hEX.lift ?_⟩
      exact hE.same c (H.lt c ⟨b, o, cap, sz, k1⟩) (notlow b c o cap sz (nrho b hp) k1)
  · have cross : ∀ (i b c o cap sz o' cap' sz' : Nat), R[i]? = some b → L0' i = .live c o cap sz → b' ∉ rho → L b' = .live c o' cap' sz' → False := by
      intro i b c o cap sz o' cap' sz' q1 q2 q3 q4
      have hcs := H.lt c ⟨b', _, _, _, q4⟩
      rcases hE.own c ⟨i, _, _, _, q2⟩ with q | q
      · exact notlow b' c _ _ _ q3 q4 q
      · omega
    have cross' : ∀ (i b0 c o cap sz o' cap' sz' : Nat), R[i]? = some b0 → L0' i = .live c o cap sz → b ∉ rho → L b = .live c o' cap' sz' → False := by
      intro i b0 c o cap sz o' cap' sz' q1 q2 q3 q4
      have hcs := H.lt c ⟨b, _, _, _, q4⟩
      rcases hE.own c ⟨i, _, _, _, q2⟩ with q | q
      · exact notlow b c _ _ _ q3 q4 q
      · omega
    rcases live b c o cap sz h with ⟨i, h1, h2⟩ | ⟨h1, h2, h3⟩ <;> rcases live b' c o' cap' sz' h' with ⟨j, h4, h5⟩ | ⟨h4, h5, h6⟩
    · have := H'.inj _ _ _ _ _ _ _ _ _ h2 h5
      subst this
      rw [h1] at h4; cases h4; rfl
    · exact (cross i b c o cap sz o' cap' sz' h1 h2 h4 h6).elim
    · exact (cross' j b' c o' cap' sz' o cap sz h4 h5 h1 h3).elim
    · exact H.inj _ _ _ _ _ _ _ _ _ h3 h6
  · rcases own c hc with h | ⟨b, o, cap, sz, _, _, h⟩
    · exact H'.lt c h
    · exact Nat.lt_of_lt_of_le (H.lt c ⟨b, o, cap, sz, h⟩) hE.size
  · rcases own c hc with h | ⟨b, o, cap, sz, _, _, h⟩
    · exact H'.far c h (.inl hX)
    · exact H.far c ⟨b, o, cap, sz, h⟩ hX
end
end Go.Sy
