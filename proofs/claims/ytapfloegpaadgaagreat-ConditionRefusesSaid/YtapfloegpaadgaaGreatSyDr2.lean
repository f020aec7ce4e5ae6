/- A region that draws its order: what has been done early, against what the evaluator says. -/
import Derived.Test.YtapfloegpaadgaaGreatSyDr1
set_option linter.unusedVariables false
set_option linter.unusedSimpArgs false
namespace Go.Sy

def Ln (L M : Loc) (lo n : Nat) : Loc := fun b => if b < lo then L b else if b < n then M b else .absent
def Xn (X : Nat → Prop) (M : Loc) (n : Nat) : Nat → Prop := fun c => X c ∨ ∃ b, n ≤ b ∧ ∃ o cap sz, M b = .live c o cap sz

section
variable {X : Nat → Prop} {L M : Loc} {w : World}
theorem Ln_lt {lo n b : Nat} (h : b < lo) : Ln L M lo n b = L b := by simp [Ln, h]
theorem Ln_mid {lo n b : Nat} (h : lo ≤ b) (h2 : b < n) : Ln L M lo n b = M b := by simp [Ln, h2, Nat.not_lt.2 h]
theorem Ln_out {lo n b : Nat} (h : lo ≤ b) (h2 : n ≤ b) : Ln L M lo n b = .absent := by simp [Ln, Nat.not_lt.2 h2, Nat.not_lt.2 h]
theorem Ln_self {Y : Nat → Prop} {st : St} (H : HRel Y L st.hp w) : Ln L M st.next st.next = L := by
  funext b
  by_cases h : b < st.next
  · exact Ln_lt h
  · rw [Ln_out (Nat.not_lt.1 h) (Nat.not_lt.1 h), H.out b (hp_none (Nat.not_lt.1 h))]
theorem Xn_mono {n n' : Nat} (h : n ≤ n') {c : Nat} (hc : Xn X M n' c) : Xn X M n c := by
  rcases hc with hc | ⟨b, hb, hc⟩
  · exact .inl hc
  · exact .inr ⟨b, Nat.le_trans h hb, hc⟩
/-- to a later level -/
theorem Lift.level {lo n n' : Nat} (h : lo ≤ n) (h' : n ≤ n') : Lift (Xn X M n) (Ln L M lo n) w (Xn X M n') (Ln L M lo n') w := by
  refine ⟨fun b hb => .inl ?_, fun c h1 h2 h3 => ⟨?_, fun hc => h3 (Xn_mono h' hc), h1, rfl⟩⟩
  · by_cases e : b < lo
    · rw [Ln_lt e, Ln_lt e]
    · by_cases e2 : b < n
      · rw [Ln_mid (Nat.not_lt.1 e) e2, Ln_mid (Nat.not_lt.1 e) (Nat.lt_of_lt_of_le e2 h')]
      · exact absurd (Ln_out (Nat.not_lt.1 e) (Nat.not_lt.1 e2)) hb
  · rintro ⟨b, o, cap, sz, hb⟩
    by_cases e : b < lo
    · rw [Ln_lt e] at hb; exact h2 ⟨b, o, cap, sz, by rw [Ln_lt e]; exact hb⟩
    · by_cases e2 : b < n'
      · rw [Ln_mid (Nat.not_lt.1 e) e2] at hb
        by_cases e3 : b < n
        · exact h2 ⟨b, o, cap, sz, by rw [Ln_mid (Nat.not_lt.1 e) e3]; exact hb⟩
        · exact h3 (.inr ⟨b, Nat.not_lt.1 e3, o, cap, sz, hb⟩)
      · rw [Ln_out (Nat.not_lt.1 e) (Nat.not_lt.1 e2)] at hb; cases hb
theorem Lift.core {Y : Nat → Prop} {st : St} (H : HRel Y L st.hp w) {n : Nat} (h : st.next ≤ n) : Lift (Xn X M st.next) L w (Xn X M n) (Ln L M st.next n) w := by
  have := Lift.level (X := X) (L := L) (M := M) (w := w) (Nat.le_refl st.next) h
  rw [Ln_self H] at this
  exact this
theorem HRel.grow {h : Hp} {X' : Nat → Prop} (H : HRel X L h w) (obj : Obj) (hX : ∀ c, X' c → X c ∨ c = w.heap.size) : HRel X' L h (w.alloc obj) := by
  have hl : Lift X L w X' L (w.alloc obj) := by
    refine ⟨fun b _ => .inl rfl, fun c h1 h2 h3 => ⟨h2, fun hc => ?_, by simp; omega, heap_alloc_old w obj c h1⟩⟩
    rcases hX c hc with hc | hc
    · exact h3 hc
    · omega
  refine ⟨H.out, H.dead, fun b x hb ha => ?_, H.inj, fun c hc => by have := H.lt c hc; simp; omega, fun c hc hx => ?_, fun c hc => ?_⟩
  · obtain ⟨c, o, cap, sz, h1, h2⟩ := H.blk b x hb ha
    exact ⟨c, o, cap, sz, h1, h2.lift hl (heap_alloc_old w obj c (H.lt c ⟨b, o, cap, sz, h1⟩))⟩
  · rcases hX c hx with hx | hx
    · exact H.far c hc hx
    · have := H.lt c hc; omega
  · rcases hX c hc with hx | hx
    · have := H.xlt c hx; simp; omega
    · simp [hx]
end

/-- what the plan of a region says -/
structure Pl (ops : List Oper) (an : List Nat) : Prop where
  dst : ∀ i j d, dstOf ops i = some d → dstOf ops j = some d → i = j
  reads : ∀ i o j d, ops[i]? = some o → dstOf ops j = some d → d ∈ readsOf ops o → bit an i j = true ∨ bit an j i = true
structure Row (an : List Nat) (es : List En) : Prop where
  ord : es.Pairwise fun a b => bit an a.i b.i = false
  nod : (es.map (·.i)).Nodup

structure Inv (ops : List Oper) (an : List Nat) (X : Nat → Prop) (s : List Nat) (es : List En) (fr : Fr) (st : St) (L M : Loc) (w : World) (F : Frame) : Prop where
  heap : HRel (Xn X M st.next) L st.hp w
  mlt : ∀ b, M b ≠ .absent → ∃ p ∈ es, p.i ∉ s ∧ p.n = b ∧ ∃ blk c cap sz, p.blk = some blk ∧ M b = .live c 0 cap sz ∧ c < w.heap.size ∧ blk.alive = true ∧ BRel (Xn X M (b + 1)) (Ln L M st.next (b + 1)) w c 0 cap sz blk
  mall : ∀ p ∈ es, p.i ∉ s → ∀ blk, p.blk = some blk → M p.n ≠ .absent
  minj : ∀ b b' c o cap sz o' cap' sz', M b = .live c o cap sz → M b' = .live c o' cap' sz' → b = b'
  mfar : ∀ c, Owned M c → ¬ X c
  early : ∀ p ∈ es, p.i ∉ s → ∀ d, dstOf ops p.i = some d → ∃ x, F.tmps[d]? = some x ∧ VRel (Xn X M p.m) (Ln L M st.next p.m) w p.v x
  slots : ∀ t v, fr.tmps.get? t = some v → (∀ p ∈ es, p.i ∉ s → dstOf ops p.i ≠ some t) → ∃ x, F.tmps[t]? = some x ∧ VRel (Xn X M st.next) L w v x
  closed : ∀ p ∈ es, p.i ∉ s → ∀ j ∈ s, bit an p.i j = false
  fn : F.fn = fr.fn
  defs : DRels (Xn X M st.next) L w fr.defs F.defers
  round : RoundR L fr.round F

section
variable {tb : Tab} {ρ : Operand → AV} {X : Nat → Prop} {L : Loc} {w : World} {ρc : Operand → Value}
theorem head_known {x : AV} {y : Value} (h : VRel X L w x y) {e : Nat × Nat × Nat} (he : e ∈ headBlk x) : L e.1 ≠ .absent := by
  cases h with
  | ptr h => simp [headBlk] at he; subst he; rw [h]; simp
  | ptrD h _ => simp [headBlk] at he; subst he; rw [h]; simp
  | sl h _ _ => simp [headBlk] at he; subst he; rw [h]; simp
  | slE h => simp [headBlk] at he; subst he; exact h
  | slD h _ => simp [headBlk] at he; subst he; rw [h]; simp
  | map h => simp [headBlk] at he; subst he; rw [h]; simp
  | mapD h _ => simp [headBlk] at he; subst he; rw [h]; simp
  | _ => simp [headBlk] at he
theorem tMap_known {x : AV} {y : Value} (h : VRel X L w x y) {e : Nat × Nat × Nat} (he : e ∈ tMap x) : L e.1 ≠ .absent := by
  unfold tMap at he
  split at he
  · rename_i b
    have := head_known h (e := (b, live0, 1)) (by simp [headBlk])
    simp at he
    rcases he with rfl | rfl <;> exact this
  · exact head_known h he
theorem tLoad_known {t : Nat} {a : Operand} (h : VRel X L w (ρ a) (ρc a)) {e : Nat × Nat × Nat} (he : e ∈ tLoad tb ρ t a) : L e.1 ≠ .absent := by
  unfold tLoad at he
  split at he
  · rename_i b off size h1 h2
    have := head_known h (e := (b, live0, 1)) (by rw [h1]; simp [headBlk])
    simp at he
    rcases he with rfl | rfl <;> exact this
  · exact head_known h he
theorem touch_known (hρ : OpRel X L w ρ ρc) {op : Op} {e : Nat × Nat × Nat} (he : e ∈ touches tb ρ op) : L e.1 ≠ .absent := by
  unfold touches at he
  split at he
  · exact tLoad_known (hρ _) he
  · exact tMap_known (hρ _) he
  · rename_i c
    obtain ⟨v, hv, hev⟩ := List.mem_flatMap.1 he
    obtain ⟨x, _, rfl⟩ := List.mem_map.1 hv
    exact tMap_known (hρ x) hev
  · exact head_known (hρ _) he
  · exact head_known (hρ _) he
  · exact head_known (hρ _) he
  · exact head_known (hρ _) he
  · rcases List.mem_append.1 he with he | he
    · exact head_known (hρ _) he
    · exact head_known (hρ _) he
  · cases he
theorem head_live {x : AV} {e : Nat × Nat × Nat} (he : e ∈ headBlk x) : (e.1, live0, 1) ∈ headBlk x := by
  unfold headBlk at *
  split <;> simp_all
theorem tMap_live {x : AV} {e : Nat × Nat × Nat} (he : e ∈ tMap x) : (e.1, live0, 1) ∈ tMap x := by
  unfold tMap at *
  split
  · simp at he; rcases he with rfl | rfl <;> simp
  · rename_i hne
    split at he
    · rename_i b; exact absurd rfl (hne b)
    · exact head_live he
theorem touch_live {op : Op} {e : Nat × Nat × Nat} (he : e ∈ touches tb ρ op) : (e.1, live0, 1) ∈ touches tb ρ op := by
  unfold touches at *
  split <;> simp only at he ⊢
  · unfold tLoad at *
    split
    · rename_i h1 h2
      simp only [h1, h2] at he
      simp at he; rcases he with rfl | rfl <;> simp
    · rename_i hne
      split at he
      · rename_i b off size h1 h2; exact absurd h2 (hne b off size h1)
      · exact head_live he
  · exact tMap_live he
  · obtain ⟨v, hv, hev⟩ := List.mem_flatMap.1 he
    exact List.mem_flatMap.2 ⟨v, hv, tMap_live hev⟩
  · exact head_live he
  · exact head_live he
  · exact head_live he
  · exact head_live he
  · rcases List.mem_append.1 he with he | he
    · exact List.mem_append.2 (.inl (head_live he))
    · exact List.mem_append.2 (.inr (head_live he))
  · cases he
theorem apart_not {t l : Log} (h : apart t l = true) {b o n : Nat} (he : (b, o, n) ∈ t) {q : Nat} (h1 : o ≤ q) (h2 : q < o + n) : ¬ covered l b q := by
  rintro ⟨⟨b', o', n'⟩, hm, rfl, h3, h4⟩
  have := List.all_eq_true.1 (List.all_eq_true.1 h _ he) _ hm
  simp only [beq_dec, Bool.or_eq_true, Bool.not_eq_true', decide_eq_false_iff_not, Nat.ble_eq] at this
  simp at h3 h4 this
  omega
end

section
variable {P : Program} {tb : Tab} {ops : Array Oper} {an : List Nat} {X : Nat → Prop} {s : List Nat} {es : List En} {fr : Fr} {st : St} {L M : Loc} {w : World} {F : Frame} {cs : List Frame}

noncomputable def junked (fr : Fr) (l : List Nat) : Operand → AV := fun x => match x with
  | .tmp t => if t ∈ l then fr.slot t else .junk
  | x => fr.eval x
theorem junked_rel {Y : Nat → Prop} {Λ : Loc} {l : List Nat} (h : ∀ t ∈ l, ∀ v, fr.tmps.get? t = some v → ∃ x, F.tmps[t]? = some x ∧ VRel Y Λ w v x) : OpRel Y Λ w (junked fr l) F.eval := by
  intro x
  cases x with
  | tmp t =>
    simp only [junked, Fr.slot, Frame.eval]
    split
    · rename_i ht
      cases hg : fr.tmps.get? t with
      | none => exact .junk _
      | some v =>
        obtain ⟨y, hy, hv⟩ := h t ht v hg
        simp only [Option.getD_some, Array.getD_eq_getD_getElem?, hy]
        exact hv
    · exact .junk _
  | const v => exact .const ..
  | global g => exact .junk _
  | func f => exact .fn rfl rfl (fun j v x h => by simp at h) (fun j v x h => by simp at h)
theorem junked_eq {o : Oper} {ol : List Oper} : ∀ x ∈ o.op.operands, fr.eval x = junked fr (readsOf ol o) x := by
  intro x hx
  cases x with
  | tmp t =>
    have : t ∈ readsOf ol o := by
      unfold readsOf
      refine List.mem_append.2 (.inl (List.mem_filterMap.2 ⟨.tmp t, Array.mem_toList_iff.2 hx, rfl⟩))
    simp [junked, this, Fr.eval]
  | _ => rfl

/-- memory where a reckoning looks -/
theorem mem_early (I : Inv ops.toList an X s es fr st L M w F) {st' : St} {l : Log} {n : Nat} (hn : n = st'.next) (hle : st.next ≤ n) (k1 : ∀ b, b < st.next → Kept (st.get b) (st'.get b) l b)
    (k2 : ∀ p ∈ es, p.n < n → ∀ blk, p.blk = some blk → Kept blk (st'.get p.n) l p.n) {e : Nat × Nat × Nat} (ha : (st'.get e.1).alive = true) (hL : Ln L M st.next n e.1 ≠ .absent) (hn0 : ¬ covered l e.1 live0) (hnq : ∀ q, e.2.1 ≤ q → q < e.2.1 + e.2.2 → ¬ covered l e.1 q) :
    MemAt (Xn X M n) (Ln L M st.next n) w st' e := by
  obtain ⟨b, off, len⟩ := e
  simp only at ha hL hn0 hnq
  have key : ∃ c o cap sz x, Ln L M st.next n b = .live c o cap sz ∧ BRel (Xn X M n) (Ln L M st.next n) w c o cap sz x ∧ Kept x (st'.get b) l b := by
    by_cases hb : b < st.next
    · have hk := k1 b hb
      have hal := hk.alive hn0 ha
      obtain ⟨c, o, cap, sz, h1, h2⟩ := I.heap.at (St.hp_some hal) hal
      exact ⟨c, o, cap, sz, _, by rw [Ln_lt hb]; exact h1, h2.lift (Lift.core I.heap hle) rfl, hk⟩
    · have hb := Nat.not_lt.1 hb
      have hbn : b < n := by
        rcases Nat.lt_or_ge b n with h | h
        · exact h
        · exact absurd (Ln_out hb h) hL
      rw [Ln_mid hb hbn] at hL ⊢
      obtain ⟨p, hp, hps, rfl, blk, c, cap, sz, hblk, hM, hc, hal, hB⟩ := I.mlt b hL
      exact ⟨c, 0, cap, sz, blk, hM, hB.lift (Lift.level (by omega) (by omega)) rfl, k2 p hp hbn blk hblk⟩
  obtain ⟨c, o, cap, sz, x, h1, h2, h3⟩ := key
  refine ⟨c, o, cap, sz, h1, ?_⟩
  have q := h3 hn0
  cases x with
  | cells cs =>
    obtain ⟨cs', e1, e2⟩ := q
    simp only [e1]
    obtain ⟨arr, t, g1, g2, g3, g4⟩ := h2
    refine ⟨arr, t, g1, fun j v hj1 hj2 hv => ?_⟩
    rw [e2 j (hnq j hj1 hj2)] at hv
    obtain ⟨x, hx1, hx2⟩ := g4.get hv
    rw [List.getElem?_take] at hx1
    split at hx1
    · rw [List.getElem?_drop, Array.getElem?_toList] at hx1
      exact ⟨x, hx1, hx2⟩
    · cases hx1
  | map es => have e1 : st'.get b = .map es := q; simp only [e1]; exact h2
  | loop s p f t ps a b' d => have e1 : st'.get b = .loop s p f t ps a b' d := q; simp only [e1]
  | defd t => have e1 : st'.get b = .defd t := q; simp only [e1]
  | dead => exact h2.elim
end
end Go.Sy
