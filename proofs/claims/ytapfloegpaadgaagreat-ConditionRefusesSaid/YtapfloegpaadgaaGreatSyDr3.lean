/- A region that draws its order: one step ahead of its turn; the turn of what has been done. -/
import Derived.Test.YtapfloegpaadgaaGreatSyDr2
set_option linter.unusedVariables false
set_option linter.unusedSimpArgs false
namespace Go.Sy

section
variable {P : Program} {tb : Tab} {ops : Array Oper} {an : List Nat} {X : Nat → Prop} {s : List Nat} {es : List En} {fr : Fr} {st : St} {L M : Loc} {w : World} {F : Frame} {cs : List Frame}

theorem row_inj (row : Row an es) {p q : En} (hp : p ∈ es) (hq : q ∈ es) (h : p.i = q.i) : p = q := by
  have := row.nod
  clear row
  induction es with
  | nil => cases hp
  | cons a l ih =>
    rw [List.map_cons, List.nodup_cons] at this
    rcases List.mem_cons.1 hp with rfl | hp' <;> rcases List.mem_cons.1 hq with rfl | hq'
    · rfl
    · exact absurd (List.mem_map.2 ⟨q, hq', h.symm⟩) this.1
    · exact absurd (List.mem_map.2 ⟨p, hp', h⟩) this.1
    · exact ih hp' hq' this.2
theorem put_other {ts : Array Value} {dst : Option Nat} {x : Value} {t : Nat} (h : dst ≠ some t) : (putT ts dst x)[t]? = ts[t]? := by
  cases dst with
  | none => rfl
  | some d =>
    have : d ≠ t := fun e => h (by rw [e])
    simp only [putT]
    rw [Array.getElem?_setIfInBounds_ne this]
theorem put_same {ts : Array Value} {t : Nat} {x : Value} (h : t < ts.size) : (putT ts (some t) x)[t]? = some x := by simp [putT, h]

def EarlyR (P : Program) (ops : Array Oper) (an : List Nat) (X : Nat → Prop) (s : List Nat) (es : List En) (fr : Fr) (st : St) (L M : Loc) (w : World) (F : Frame) (cs : List Frame) (k : List Item) (i : Nat) : Prop :=
  ∃ M' w' x o, ops[i]? = some o ∧ step P (lone F cs w) = .next (lone { F with tmps := putT F.tmps o.dst x, todo := .inRegion ops s :: k } cs w') ∧
      Inv ops.toList an X s es fr st L M' w' { F with tmps := putT F.tmps o.dst x, todo := .inRegion ops s :: k } ∧ w.heap.size ≤ w'.heap.size ∧ (∀ c, c < w.heap.size → w'.heap[c]? = w.heap[c]?) ∧
      (∀ c, Owned M' c → Owned M c ∨ w.heap.size ≤ c) ∧ w'.os = w.os ∧ w'.tape = w.tape ∧ w'.output = w.output ∧ Lift (Xn X M st.next) L w (Xn X M' st.next) L w'
theorem early_step (hT : TabOK P tb) (hF : FieldsOK tb) (pl : Pl ops.toList an) {acc : List (Nat × Log)} {pre post : List En} {e : En} (hes : es = pre ++ e :: post) (row : Row an es) (hch : Ch tb ops.toList an acc fr st es)
    (I : Inv ops.toList an X (e.i :: s) es fr st L M w F) (hpw : ∀ b ∈ s, bit an e.i b = false) (hns : e.i ∉ s) (hne : ∀ o, ops.toList[e.i]? = some o → opKd o.op ≠ .eff)
    (hearly : ∀ p ∈ es, p.i ∉ e.i :: s → ∀ o, ops.toList[p.i]? = some o → opKd o.op ≠ .eff)
    (hm : F.mode = .run) {k : List Item} (ht : F.todo = .inRegion ops (e.i :: s) :: k) (hd : ∀ o ∈ ops.toList, ∀ d, o.dst = some d → d < F.tmps.size) :
    EarlyR P ops an X s es fr st L M w F cs k e.i := by
  have hmem : ∀ p ∈ pre, p ∈ es := fun p hp => by rw [hes]; exact List.mem_append.2 (.inl hp)
  have heme : e ∈ es := by rw [hes]; exact List.mem_append.2 (.inr (List.mem_cons_self ..))
  have hmempost : ∀ p ∈ post, p ∈ es := fun p hp => by rw [hes]; exact List.mem_append.2 (.inr (List.mem_cons_of_mem _ hp))
  have mono := hch.mono
  have hord := row.ord
  have hnod := row.nod
  rw [hes, List.pairwise_append, List.pairwise_cons] at hord
  obtain ⟨acc', fr', st', l, c1, c2, c3, c3', c4, c5, c6, c7, c8⟩ := Ch.at (pre := pre) (e := e) (post := post) (hes ▸ hch) (fun p hp q hq h1 h2 => by
    cases hdd : dstOf ops.toList p.i with
    | none => exact absurd hdd h1
    | some d => exact pl.dst _ _ d hdd (h2 ▸ hdd)) (by rw [hes, List.map_append] at hnod; exact (List.nodup_append.1 hnod).1)
  have nepre : ∀ p ∈ pre, p.i ≠ e.i := by
    intro p hp hh
    rw [hes, List.map_append, List.nodup_append] at hnod
    exact hnod.2.2 _ (List.mem_map.2 ⟨p, hp, rfl⟩) _ (List.mem_map.2 ⟨e, List.mem_cons_self .., rfl⟩) hh
  have hn : e.n = st'.next := by cases c1 <;> rfl
  have hle : st.next ≤ e.n := by rw [hn]; exact c2
  have slots : ∀ o, ops.toList[e.i]? = some o → ∀ t ∈ readsOf ops.toList o, ∀ v, fr'.tmps.get? t = some v → ∃ x, F.tmps[t]? = some x ∧ VRel (Xn X M e.n) (Ln L M st.next e.n) w v x := by
    intro o ho t ht v hv
    by_cases hp : ∃ p ∈ pre, dstOf ops.toList p.i = some t
    · obtain ⟨p, hp, hpt⟩ := hp
      rw [c8 p hp t hpt] at hv
      cases hv
      have hb : bit an e.i p.i = true := by
        rcases pl.reads _ _ _ _ ho hpt ht with h | h
        · exact h
        · rw [hord.2.2 p hp e (List.mem_cons_self ..)] at h; cases h
      have hpn : p.i ∉ e.i :: s := by
        intro hh
        rcases List.mem_cons.1 hh with hh | hh
        · exact nepre p hp hh
        · rw [hpw _ hh] at hb; cases hb
      obtain ⟨x, hx, hv⟩ := I.early p (hmem p hp) hpn t hpt
      obtain ⟨k1, k2, _⟩ := c6 p hp
      exact ⟨x, hx, hv.lift (Lift.level (Nat.le_trans k2 p.n_le) (by rw [hn]; exact k1))⟩
    · have hno : ∀ p ∈ pre, dstOf ops.toList p.i ≠ some t := fun p hp' hpt => hp ⟨p, hp', hpt⟩
      rw [c7 t hno] at hv
      obtain ⟨x, hx, hv⟩ := I.slots t v hv (fun p hpes hpn hpt => by
        rw [hes] at hpes
        rcases List.mem_append.1 hpes with h | h
        · exact hno p h hpt
        · rcases List.mem_cons.1 h with rfl | h
          · exact hpn (List.mem_cons_self ..)
          · rcases pl.reads _ _ _ _ ho hpt ht with hb | hb
            · rw [hord.2.1.1 p h] at hb; cases hb
            · rw [I.closed p (hmempost p h) hpn e.i (List.mem_cons_self ..)] at hb; cases hb)
      exact ⟨x, hx, hv.lift (Lift.core I.heap hle)⟩
  -- whatever it gives, what is kept
  have fin : ∀ (x : Value) (M' : Loc) (w' : World) (o : Oper), ops[e.i]? = some o → step P (lone F cs w) = .next (lone { F with tmps := putT F.tmps o.dst x, todo := .inRegion ops s :: k } cs w') →
      (∀ n', st.next ≤ n' → Lift (Xn X M n') (Ln L M st.next n') w (Xn X M' n') (Ln L M' st.next n') w') → HRel (Xn X M' st.next) L st.hp w' → VRel (Xn X M' e.m) (Ln L M' st.next e.m) w' e.v x →
      (∀ b, M' b ≠ .absent → ∃ p ∈ es, p.i ∉ s ∧ p.n = b ∧ ∃ blk c cap sz, p.blk = some blk ∧ M' b = .live c 0 cap sz ∧ c < w'.heap.size ∧ blk.alive = true ∧ BRel (Xn X M' (b + 1)) (Ln L M' st.next (b + 1)) w' c 0 cap sz blk) →
      (∀ p ∈ es, p.i ∉ s → ∀ blk, p.blk = some blk → M' p.n ≠ .absent) → (∀ b b' c o cap sz o' cap' sz', M' b = .live c o cap sz → M' b' = .live c o' cap' sz' → b = b') → (∀ c, Owned M' c → ¬ X c) →
      w.heap.size ≤ w'.heap.size → (∀ c, c < w.heap.size → w'.heap[c]? = w.heap[c]?) → (∀ c, Owned M' c → Owned M c ∨ w.heap.size ≤ c) → w'.os = w.os → w'.tape = w.tape → w'.output = w.output →
      EarlyR P ops an X s es fr st L M w F cs k e.i := by
    intro x M' w' o ho hstep hl hH hv hmlt hmall hminj hmfar hw1 hw2 hw3 hw4 hw5 hw6
    have ho' : ops.toList[e.i]? = some o := by rw [Array.getElem?_toList]; exact ho
    have hdst : dstOf ops.toList e.i = o.dst := by simp [dstOf, ho']
    have hlc : Lift (Xn X M st.next) L w (Xn X M' st.next) L w' := by
      have := hl st.next (Nat.le_refl _)
      rw [Ln_self I.heap, Ln_self hH] at this
      exact this
    refine ⟨M', w', x, o, ho, hstep, ⟨hH, hmlt, hmall, hminj, hmfar, fun p hp hps d hpd => ?_, fun t v hv' hnt => ?_, fun p hp hps j hj => ?_, I.fn, I.defs.lift hlc, RoundR.lift hlc I.round⟩, hw1, hw2, hw3, hw4, hw5, hw6, hlc⟩
    · by_cases hpe : p.i = e.i
      · have := row_inj row hp heme hpe
        subst this
        rw [hdst] at hpd
        have hb := hd o (List.mem_of_getElem? ho') d hpd
        exact ⟨x, by simp only [hpd]; exact put_same hb, hv⟩
      · obtain ⟨y, hy, hyv⟩ := I.early p hp (by rw [List.mem_cons]; rintro (h | h); exact hpe h; exact hps h) d hpd
        refine ⟨y, ?_, hyv.lift (hl _ (Nat.le_trans (mono.2 p hp) p.n_le))⟩
        show (putT F.tmps o.dst x)[d]? = some y
        rw [put_other (by rw [← hdst]; intro hh; exact hpe (pl.dst _ _ d hpd hh))]
        exact hy
    · obtain ⟨y, hy, hyv⟩ := I.slots t v hv' (fun p hp hps hpt => hnt p hp (fun hh => hps (List.mem_cons_of_mem _ hh)) hpt)
      refine ⟨y, ?_, hyv.lift hlc⟩
      show (putT F.tmps o.dst x)[t]? = some y
      rw [put_other (by rw [← hdst]; exact hnt e heme hns)]
      exact hy
    · by_cases hpe : p.i = e.i
      · rw [hpe]; exact hpw j hj
      · exact I.closed p hp (by rw [List.mem_cons]; rintro (h | h); exact hpe h; exact hps h) j (List.mem_cons_of_mem _ hj)
  have finV : ∀ (x : Value) (o : Oper), e.blk = none → ops[e.i]? = some o → step P (lone F cs w) = .next (lone { F with tmps := putT F.tmps o.dst x, todo := .inRegion ops s :: k } cs w) → VRel (Xn X M e.n) (Ln L M st.next e.n) w e.v x → EarlyR P ops an X s es fr st L M w F cs k e.i := by
    intro x o hbl ho hstep hv
    have hem : e.m = e.n := by unfold En.m; rw [hbl]
    exact fin x M w o ho hstep (fun _ _ => .refl) I.heap (by rw [hem]; exact hv) (fun b hb => by
      obtain ⟨p, hp, hps, h⟩ := I.mlt b hb
      exact ⟨p, hp, fun hh => hps (List.mem_cons_of_mem _ hh), h⟩) (fun p hp hps blk hpb => by
      by_cases hpe : p.i = e.i
      · have := row_inj row hp heme hpe
        subst this
        rw [hbl] at hpb; cases hpb
      · exact I.mall p hp (by rw [List.mem_cons]; rintro (h | h); exact hpe h; exact hps h) blk hpb) I.minj I.mfar (Nat.le_refl _) (fun _ _ => rfl) (fun _ h => .inl h) rfl rfl rfl
  obtain ⟨i, v, n, blk⟩ := e
  simp only at *
  have want : ∀ o b, ops[i]? = some o → wantedA o ops.toList fr' = some b → Region.wanted o (yielded ops F.tmps) = b := by
    intro o b ho hw
    have ho' : ops.toList[i]? = some o := by rw [Array.getElem?_toList]; exact ho
    refine wanted_ok (X := Xn X M n) (L := Ln L M st.next n) (w := w) hw fun g wnt d hg hgd v hv => ?_
    exact slots o ho' d (List.mem_append.2 (.inr (by rw [hg]; simp [hgd]))) v hv
  cases c1 with
  | eff _ _ hk _ =>
    obtain ⟨o, ho, hk⟩ := hk
    exact absurd hk (hne o ho)
  | non hns' h1 h2 h3 =>
    cases hns' with
    | @skip o ho hw =>
      have ho2 : ops[i]? = some o := by rw [← Array.getElem?_toList]; exact ho
      exact finV undef o rfl ho2 (st_skipped hm ht ho2 (want o _ ho2 hw)) undef_rel
    | @val o _ ho hw hk ha hv =>
      have ho2 : ops[i]? = some o := by rw [← Array.getElem?_toList]; exact ho
      have hnd : ∀ c, o.op ≠ .defer c := by intro c e; rw [e] at hk; cases hk
      have hρ : OpRel (Xn X M st'.next) (Ln L M st.next st'.next) w (junked fr' (readsOf ops.toList o)) F.eval := junked_rel (slots o ho)
      have hag := junked_eq (fr := fr') (o := o) (ol := ops.toList)
      unfold aValS at hv
      rw [Bool.cond_eq_ite] at hv
      split at hv
      · rename_i hall
        rw [touches_congr hag] at hall
        rw [aVal_congr hag] at hv
        have hnl : ∀ x ∈ l, ∀ y ∈ touches tb (junked fr' (readsOf ops.toList o)) o.op, ∀ q, y.2.1 ≤ q → q < y.2.1 + y.2.2 → ¬ (x.1 = y.1 ∧ x.2.1 ≤ q ∧ q < x.2.1 + x.2.2) := by
          intro x hx y hy q hq1 hq2 hxq
          obtain ⟨a, ha', ⟨p, hp, hpa, oo, hoo, hko⟩, hxa⟩ := c4 x hx
          have hps : p.i ∈ s := by
            apply Classical.byContradiction
            intro hh
            exact hearly p (hmem p hp) (by rw [List.mem_cons]; rintro (h | h); exact nepre p hp h; exact hh h) oo hoo hko
          rcases ha a ha' with h | h
          · rw [← hpa, hpw _ hps] at h; cases h
          · rw [touches_congr hag] at h
            obtain ⟨y1, y2, y3⟩ := y
            exact apart_not h hy hq1 hq2 ⟨x, hxa, hxq⟩
        have hmm : ∀ y ∈ touches tb (junked fr' (readsOf ops.toList o)) o.op, MemAt (Xn X M st'.next) (Ln L M st.next st'.next) w st' y := by
          intro y hy
          refine mem_early I rfl c2 c5 (fun p hp hpn blk hpb => ?_) (List.all_eq_true.1 hall y hy) (touch_known hρ hy) ?_ ?_
          · rw [hes] at hp
            rcases List.mem_append.1 hp with h | h
            · exact (c6 p h).2.2 blk hpb
            · exfalso
              have hmo := mono.1
              rw [hes, List.pairwise_append, List.pairwise_cons] at hmo
              rcases List.mem_cons.1 h with rfl | h
              · simp at hpn
              · have := hmo.2.1.1 p h
                have e2 : (⟨i, v, st'.next, none⟩ : En).m = st'.next := rfl
                rw [e2] at this
                omega
          · rintro ⟨x, hx, h⟩
            exact hnl x hx _ (touch_live hy) live0 (Nat.le_refl _) (by simp) h
          · rintro q hq1 hq2 ⟨x, hx, h⟩
            exact hnl x hx _ hy q hq1 hq2 h
        obtain ⟨x, hx1, hx2⟩ := aVal_ok hT hF hρ hmm hv
        exact finV x o rfl ho2 (st_val hm ht ho2 (want o _ ho2 hw) (.inr hnd) hx1 (.inl rfl)) hx2
      · cases hv
    | @new o blk mk ho hw hk hnw =>
      have ho2 : ops[i]? = some o := by rw [← Array.getElem?_toList]; exact ho
      have hnd : ∀ c, o.op ≠ .defer c := by intro c e; rw [e] at hk; cases hk
      have hρ : OpRel (Xn X M st'.next) (Ln L M st.next st'.next) w (junked fr' (readsOf ops.toList o)) F.eval := junked_rel (slots o ho)
      have hag := junked_eq (fr := fr') (o := o) (ol := ops.toList)
      rw [aNew_congr hag] at hnw
      obtain ⟨x, obj, cap, sz, hx1, hx2⟩ := aNew_ok (P := P) (X := Xn X M st'.next) (L := Ln L M st.next st'.next) (w := w) hT hρ hnw
      -- nothing stands there yet
      have hMn : M st'.next = .absent := by
        apply Classical.byContradiction
        intro hh
        obtain ⟨p, hp, hps, hpn, bl, c, cp, sz', hpb, _⟩ := I.mlt _ hh
        have hmo := mono.1
        rw [hes, List.pairwise_append, List.pairwise_cons] at hmo
        have hpm : p.m = p.n + 1 := by unfold En.m; rw [hpb]
        rw [hes] at hp
        rcases List.mem_append.1 hp with h | h
        · have := hmo.2.2 p h _ (List.mem_cons_self ..)
          simp only at this
          omega
        · rcases List.mem_cons.1 h with rfl | h
          · exact hps (List.mem_cons_self ..)
          · have := hmo.2.1.1 p h
            have e2 : (⟨i, mk st'.next, st'.next, some blk⟩ : En).m = st'.next + 1 := rfl
            rw [e2] at this
            omega
      let M' : Loc := Loc.set M st'.next (.live w.heap.size 0 cap sz)
      have hM'n : M' st'.next = .live w.heap.size 0 cap sz := by simp [M', Loc.set]
      have hM'o : ∀ b, b ≠ st'.next → M' b = M b := by intro b hb; simp [M', Loc.set, hb]
      have hMlt : ∀ c, Owned M c → c < w.heap.size := by
        rintro c ⟨b, o', cp, sz', hb⟩
        obtain ⟨p, hp, hps, hpn, bl, c', cp', sz'', hpb, h1, h2, _⟩ := I.mlt b (by rw [hb]; simp)
        rw [hb] at h1; cases h1; exact h2
      have hsz : w.heap.size < (w.alloc obj).heap.size := by simp
      have hold : ∀ c, c < w.heap.size → (w.alloc obj).heap[c]? = w.heap[c]? := fun c hc => heap_alloc_old w obj c hc
      have hl : ∀ n', st.next ≤ n' → Lift (Xn X M n') (Ln L M st.next n') w (Xn X M' n') (Ln L M' st.next n') (w.alloc obj) := by
        intro n' hn'
        refine ⟨fun b hb => .inl ?_, fun c h1 h2 h3 => ⟨?_, ?_, by omega, hold c h1⟩⟩
        · by_cases e : b < st.next
          · rw [Ln_lt e, Ln_lt e]
          · by_cases e2 : b < n'
            · rw [Ln_mid (Nat.not_lt.1 e) e2] at hb ⊢
              rw [Ln_mid (Nat.not_lt.1 e) e2]
              exact hM'o b (fun hh => hb (by rw [hh]; exact hMn))
            · exact absurd (Ln_out (Nat.not_lt.1 e) (Nat.not_lt.1 e2)) hb
        · rintro ⟨b, o', cp, sz', hb⟩
          by_cases e : b < st.next
          · rw [Ln_lt e] at hb; exact h2 ⟨b, o', cp, sz', by rw [Ln_lt e]; exact hb⟩
          · by_cases e2 : b < n'
            · rw [Ln_mid (Nat.not_lt.1 e) e2] at hb
              by_cases e3 : b = st'.next
              · subst e3; rw [hM'n] at hb; cases hb; omega
              · rw [hM'o b e3] at hb; exact h2 ⟨b, o', cp, sz', by rw [Ln_mid (Nat.not_lt.1 e) e2]; exact hb⟩
            · rw [Ln_out (Nat.not_lt.1 e) (Nat.not_lt.1 e2)] at hb; cases hb
        · rintro (hc | ⟨b, hb, o', cp, sz', hbc⟩)
          · exact h3 (.inl hc)
          · by_cases e3 : b = st'.next
            · subst e3; rw [hM'n] at hbc; cases hbc; omega
            · rw [hM'o b e3] at hbc; exact h3 (.inr ⟨b, hb, o', cp, sz', hbc⟩)
      have hE : Ext (Ln L M st.next st'.next) w (Ln L M' st.next (st'.next + 1)) (w.alloc obj) := by
        refine ⟨by simp, fun c hc _ => hold c hc, fun b hb => .inl ?_, fun c hc => ?_, rfl, rfl, rfl⟩
        · by_cases e : b < st.next
          · rw [Ln_lt e, Ln_lt e]
          · by_cases e2 : b < st'.next
            · rw [Ln_mid (Nat.not_lt.1 e) e2, Ln_mid (Nat.not_lt.1 e) (by omega)]
              exact hM'o b (by omega)
            · exact absurd (Ln_out (Nat.not_lt.1 e) (Nat.not_lt.1 e2)) hb
        · obtain ⟨b, o', cp, sz', hb⟩ := hc
          by_cases e : b < st.next
          · rw [Ln_lt e] at hb; exact .inl ⟨b, o', cp, sz', by rw [Ln_lt e]; exact hb⟩
          · by_cases e2 : b < st'.next + 1
            · rw [Ln_mid (Nat.not_lt.1 e) e2] at hb
              by_cases e3 : b = st'.next
              · subst e3; rw [hM'n] at hb; cases hb; exact .inr (Nat.le_refl _)
              · rw [hM'o b e3] at hb; exact .inl ⟨b, o', cp, sz', by rw [Ln_mid (Nat.not_lt.1 e) (by omega)]; exact hb⟩
            · rw [Ln_out (Nat.not_lt.1 e) (Nat.not_lt.1 e2)] at hb; cases hb
      obtain ⟨hx3, hx4⟩ := hx2 (Ln L M' st.next (st'.next + 1)) st'.next (by rw [Ln_mid c2 (by omega)]; exact hM'n) hE
      have hal : blk.alive = true := by cases blk <;> first | rfl | exact hx4.elim
      have hsh : ∀ c, Xn X M' (st'.next + 1) c → Xn X M st'.next c := by
        rintro c (hc | ⟨b, hb, o', cp, sz', hbc⟩)
        · exact .inl hc
        · rw [hM'o b (by omega)] at hbc; exact .inr ⟨b, by omega, o', cp, sz', hbc⟩
      refine fin x M' (w.alloc obj) o ho2 (st_val hm ht ho2 (want o _ ho2 hw) (.inr hnd) hx1 (.inl rfl)) hl ?_ (hx3.lift (.shrink hsh)) ?_ ?_ ?_ ?_ (by simp) hold ?_ rfl rfl rfl
      · refine I.heap.grow obj ?_
        rintro c (hc | ⟨b, hb, o', cp, sz', hbc⟩)
        · exact .inl (.inl hc)
        · by_cases e3 : b = st'.next
          · subst e3; rw [hM'n] at hbc; cases hbc; exact .inr rfl
          · rw [hM'o b e3] at hbc; exact .inl (.inr ⟨b, hb, o', cp, sz', hbc⟩)
      · intro b hb
        by_cases e3 : b = st'.next
        · subst e3
          exact ⟨_, heme, hns, rfl, blk, w.heap.size, cap, sz, rfl, hM'n, hsz, hal, hx4.lift (.shrink hsh) rfl⟩
        · rw [hM'o b e3] at hb
          obtain ⟨p, hp, hps, hpn, bl, c, cp, sz', h1, h2, h3, h4, h5⟩ := I.mlt b hb
          have hbn : st.next ≤ b := by rw [← hpn]; exact mono.2 p hp
          exact ⟨p, hp, fun hh => hps (List.mem_cons_of_mem _ hh), hpn, bl, c, cp, sz', h1, by rw [hM'o b e3]; exact h2, by omega, h4, h5.lift (hl (b + 1) (by omega)) (hold c h3)⟩
      · intro p hp hps bl hpb
        by_cases e3 : p.n = st'.next
        · rw [e3, hM'n]; simp
        · rw [hM'o _ e3]
          refine I.mall p hp ?_ bl hpb
          rw [List.mem_cons]
          rintro (h | h)
          · have := row_inj row hp heme h
            subst this
            exact e3 rfl
          · exact hps h
      · intro b b' c o1 cp1 sz1 o2 cp2 sz2 hb hb'
        by_cases e3 : b = st'.next <;> by_cases e4 : b' = st'.next
        · rw [e3, e4]
        · subst e3; rw [hM'n] at hb; cases hb
          rw [hM'o b' e4] at hb'
          have := hMlt _ ⟨b', _, _, _, hb'⟩; omega
        · subst e4; rw [hM'n] at hb'; cases hb'
          rw [hM'o b e3] at hb
          have := hMlt _ ⟨b, _, _, _, hb⟩; omega
        · rw [hM'o b e3] at hb; rw [hM'o b' e4] at hb'
          exact I.minj _ _ _ _ _ _ _ _ _ hb hb'
      · rintro c ⟨b, o', cp, sz', hb⟩ hX
        by_cases e3 : b = st'.next
        · subst e3; rw [hM'n] at hb; cases hb
          have := I.heap.xlt _ (.inl hX); omega
        · rw [hM'o b e3] at hb; exact I.mfar c ⟨b, o', cp, sz', hb⟩ hX
      · rintro c ⟨b, o', cp, sz', hb⟩
        by_cases e3 : b = st'.next
        · subst e3; rw [hM'n] at hb; cases hb; exact .inr (Nat.le_refl _)
        · rw [hM'o b e3] at hb; exact .inl ⟨b, o', cp, sz', hb⟩
end
end Go.Sy
