/- How the abstract heap and the world go on together. -/
import Derived.Test.YtapfloegpaadgaaGreatSyNew
import Derived.Laws.AppendOwn
set_option linter.unusedVariables false
set_option linter.unusedSimpArgs false
namespace Go.Sy

def Hp.set (h : Hp) (b : Nat) (x : Blk) : Hp := fun i => if i = b then some x else h i
def Loc.set (L : Loc) (b : Nat) (s : Stat) : Loc := fun i => if i = b then s else L i

theorem St.new_hp (st : St) (x : Blk) : (st.new x).hp = Hp.set st.hp st.next x := by
  have blt (a b : Nat) : Nat.blt a b = decide (a < b) := by rw [Bool.eq_iff_iff]; simp [Nat.blt_eq]
  funext i
  simp only [St.hp, St.new, St.get, Hp.set, T.get?_set, blt]
  by_cases h : i = st.next
  · subst h; simp
  · by_cases h2 : i < st.next
    · have h3 : i < st.next + 1 := by omega
      simp [h, h2, h3]
    · have h3 : ¬ i < st.next + 1 := by omega
      simp [h, h2, h3]
theorem St.put_hp (st : St) (b : Nat) (x : Blk) (o n : Nat) (hb : b < st.next) : (st.put b x o n).hp = Hp.set st.hp b x := by
  have blt (a b : Nat) : Nat.blt a b = decide (a < b) := by rw [Bool.eq_iff_iff]; simp [Nat.blt_eq]
  funext i
  simp only [St.hp, St.put, St.get, Hp.set, T.get?_set, blt]
  by_cases h : i = b
  · subst h; simp [hb]
  · by_cases h2 : i < st.next <;> simp [h, h2]
theorem St.alive_lt {st : St} {b : Nat} (h : (st.get b).alive = true) : b < st.next := by
  have blt (a b : Nat) : Nat.blt a b = decide (a < b) := by rw [Bool.eq_iff_iff]; simp [Nat.blt_eq]
  simp only [St.get, blt] at h
  by_cases h2 : b < st.next
  · exact h2
  · simp [h2, Blk.alive] at h
theorem St.hp_some {st : St} {b : Nat} (h : (st.get b).alive = true) : st.hp b = some (st.get b) := by
  simp [St.hp, St.alive_lt h]

section
variable {X : Nat → Prop} {L : Loc} {h : Hp} {w : World}

theorem HRel.at (H : HRel X L h w) {b : Nat} {x : Blk} (hb : h b = some x) (ha : x.alive = true) : ∃ c o cap sz, L b = .live c o cap sz ∧ BRel X L w c o cap sz x := H.blk b x hb ha

theorem memAt_of {st : St} (H : HRel X L st.hp w) {e : Nat × Nat × Nat} (ha : (st.get e.1).alive = true) : MemAt X L w st e := by
  obtain ⟨c, o, cap, sz, h1, h2⟩ := H.at (St.hp_some ha) ha
  refine ⟨c, o, cap, sz, h1, ?_⟩
  split
  · rename_i cs hcs
    rw [hcs] at h2
    obtain ⟨arr, t, k1, k2, k3, k4⟩ := h2
    refine ⟨arr, t, k1, fun j v hj1 hj2 hv => ?_⟩
    obtain ⟨x, hx1, hx2⟩ := k4.get hv
    rw [List.getElem?_take] at hx1
    split at hx1
    · rw [List.getElem?_drop, Array.getElem?_toList] at hx1
      exact ⟨x, hx1, hx2⟩
    · cases hx1
  · rename_i es hes
    rw [hes] at h2
    exact h2
  · trivial

/-- the world may draw -/
theorem Ext.ofEq {w' : World} (h1 : w'.heap = w.heap) (h2 : w'.os = w.os) (h3 : w'.tape = w.tape) (h4 : w'.output = w.output) : Ext L w L w' :=
  ⟨by rw [h1]; exact Nat.le_refl _, fun c _ _ => by rw [h1], fun b _ => .inl rfl, fun c hc => .inl hc, h2, h3, h4⟩
theorem HRel.same (H : HRel X L h w) {w' : World} (h1 : w'.heap = w.heap) (h2 : w'.os = w.os) (h3 : w'.tape = w.tape) (h4 : w'.output = w.output) : HRel X L h w' := by
  have hE := Ext.ofEq (L := L) h1 h2 h3 h4
  refine ⟨H.out, H.dead, fun b x hb ha => ?_, H.inj, fun c hc => by rw [h1]; exact H.lt c hc, H.far, fun c hc => by rw [h1]; exact H.xlt c hc⟩
  obtain ⟨c, o, cap, sz, k1, k2⟩ := H.blk b x hb ha
  exact ⟨c, o, cap, sz, k1, k2.mono hE (by rw [h1])⟩

/-- a block more -/
theorem Ext.new (H : HRel X L h w) {b : Nat} (hb : h b = none) (o : Obj) {cap sz : Nat} : Ext L w (Loc.set L b (.live w.heap.size 0 cap sz)) (w.alloc o) := by
  have hab := H.out b hb
  refine ⟨by simp, fun c hc _ => heap_alloc_old w o c hc, fun i hi => ?_, fun c hc => ?_, rfl, rfl, rfl⟩
  · by_cases e : i = b
    · subst e; exact absurd hab hi
    · exact .inl (by simp [Loc.set, e])
  · obtain ⟨i, o', cap', sz', hi⟩ := hc
    by_cases e : i = b
    · simp only [Loc.set, e, if_true] at hi
      cases hi
      exact .inr (Nat.le_refl _)
    · simp only [Loc.set, e, if_false] at hi
      exact .inl ⟨i, o', cap', sz', hi⟩
theorem HRel.new (H : HRel X L h w) {b : Nat} (hb : h b = none) {o : Obj} {cap sz : Nat} {x : Blk} (hx : x.alive = true) (hB : BRel X (Loc.set L b (.live w.heap.size 0 cap sz)) (w.alloc o) w.heap.size 0 cap sz x) :
    HRel X (Loc.set L b (.live w.heap.size 0 cap sz)) (Hp.set h b x) (w.alloc o) := by
  have hE := Ext.new H hb o (cap := cap) (sz := sz)
  refine ⟨fun i hi => ?_, fun i hi => ?_, fun i y hi hy => ?_, fun i j c o1 cap1 sz1 o2 cap2 sz2 hi hj => ?_, fun c hc => ?_, fun c hc => ?_, fun c hc => Nat.lt_of_lt_of_le (H.xlt c hc) (by simp)⟩
  · by_cases e : i = b
    · simp [Hp.set, e] at hi
    · simp only [Hp.set, e, if_false] at hi; simp only [Loc.set, e, if_false]; exact H.out i hi
  · by_cases e : i = b
    · simp only [Hp.set, e, if_true, Option.some.injEq] at hi; subst hi; simp [Blk.alive] at hx
    · simp only [Hp.set, e, if_false] at hi; simp only [Loc.set, e, if_false]; exact H.dead i hi
  · by_cases e : i = b
    · simp only [Hp.set, e, if_true, Option.some.injEq] at hi; subst hi; exact ⟨_, _, _, _, by simp [Loc.set, e], hB⟩
    · simp only [Hp.set, e, if_false] at hi
      obtain ⟨c, o1, cap1, sz1, k1, k2⟩ := H.blk i y hi hy
      refine ⟨c, o1, cap1, sz1, by simp only [Loc.set, e, if_false]; exact k1, k2.mono hE (heap_alloc_old w o c (H.lt c ⟨i, _, _, _, k1⟩))⟩
  · by_cases e : i = b <;> by_cases e' : j = b
    · rw [e, e']
    · simp only [Loc.set, e, e', if_true, if_false] at hi hj
      cases hi
      have := H.lt _ ⟨j, _, _, _, hj⟩
      omega
    · simp only [Loc.set, e, e', if_true, if_false] at hi hj
      cases hj
      have := H.lt _ ⟨i, _, _, _, hi⟩
      omega
    · simp only [Loc.set, e, e', if_false] at hi hj
      exact H.inj i j c o1 cap1 sz1 o2 cap2 sz2 hi hj
  · rcases hE.own c hc with k | k
    · have := H.lt c k; simp; omega
    · obtain ⟨i, o1, cap1, sz1, hi⟩ := hc
      by_cases e : i = b
      · simp only [Loc.set, e, if_true] at hi; cases hi; simp
      · simp only [Loc.set, e, if_false] at hi
        have := H.lt c ⟨i, _, _, _, hi⟩; simp; omega
  · obtain ⟨i, o1, cap1, sz1, hi⟩ := hc
    by_cases e : i = b
    · simp only [Loc.set, e, if_true] at hi
      cases hi
      intro hX
      have := H.xlt _ hX
      omega
    · simp only [Loc.set, e, if_false] at hi
      exact H.far c ⟨i, _, _, _, hi⟩

/-- a block written -/
theorem Ext.put {w' : World} {b c o cap sz : Nat} (hL : L b = .live c o cap sz) (hs : w'.heap.size = w.heap.size) (hsame : ∀ k, k ≠ c → w'.heap[k]? = w.heap[k]?) (h2 : w'.os = w.os) (h3 : w'.tape = w.tape) (h4 : w'.output = w.output) : Ext L w L w' :=
  ⟨by omega, fun k _ hk => hsame k (fun e => hk (e ▸ ⟨b, o, cap, sz, hL⟩)), fun _ _ => .inl rfl, fun _ h => .inl h, h2, h3, h4⟩
theorem HRel.put (H : HRel X L h w) {w' : World} {b c o cap sz : Nat} (hL : L b = .live c o cap sz) (hs : w'.heap.size = w.heap.size) (hsame : ∀ k, k ≠ c → w'.heap[k]? = w.heap[k]?) (h2 : w'.os = w.os) (h3 : w'.tape = w.tape) (h4 : w'.output = w.output)
    {x : Blk} (hx : x.alive = true) (hB : BRel X L w' c o cap sz x) : HRel X L (Hp.set h b x) w' := by
  have hE := Ext.put (L := L) hL hs hsame h2 h3 h4
  refine ⟨fun i hi => ?_, fun i hi => ?_, fun i y hi hy => ?_, H.inj, fun c hc => by rw [hs]; exact H.lt c hc, H.far, fun c hc => by rw [hs]; exact H.xlt c hc⟩
  · by_cases e : i = b
    · simp [Hp.set, e] at hi
    · simp only [Hp.set, e, if_false] at hi; exact H.out i hi
  · by_cases e : i = b
    · simp only [Hp.set, e, if_true, Option.some.injEq] at hi; subst hi; simp [Blk.alive] at hx
    · simp only [Hp.set, e, if_false] at hi; exact H.dead i hi
  · by_cases e : i = b
    · simp only [Hp.set, e, if_true, Option.some.injEq] at hi; subst hi; subst e; exact ⟨_, _, _, _, hL, hB⟩
    · simp only [Hp.set, e, if_false] at hi
      obtain ⟨c1, o1, cap1, sz1, k1, k2⟩ := H.blk i y hi hy
      refine ⟨c1, o1, cap1, sz1, k1, k2.mono hE (hsame c1 fun ec => e ?_)⟩
      subst ec
      exact H.inj _ _ _ _ _ _ _ _ _ k1 hL

/-- a block given up -/
theorem Ext.kill {b : Nat} (hb : h b ≠ none) : Ext L w (Loc.set L b .dead) w := by
  refine ⟨Nat.le_refl _, fun _ _ _ => rfl, fun i hi => ?_, fun c hc => .inl ?_, rfl, rfl, rfl⟩
  · by_cases e : i = b
    · exact .inr (by simp [Loc.set, e])
    · exact .inl (by simp [Loc.set, e])
  · obtain ⟨i, o1, cap1, sz1, hi⟩ := hc
    by_cases e : i = b
    · simp [Loc.set, e] at hi
    · simp only [Loc.set, e, if_false] at hi; exact ⟨i, _, _, _, hi⟩
theorem HRel.kill (H : HRel X L h w) {b : Nat} (hb : h b ≠ none) : HRel X (Loc.set L b .dead) (Hp.set h b .dead) w := by
  have hE := Ext.kill (L := L) (w := w) hb
  have own : ∀ c, Owned (Loc.set L b .dead) c → Owned L c := fun c hc => by
    obtain ⟨i, o1, cap1, sz1, hi⟩ := hc
    by_cases e : i = b
    · simp [Loc.set, e] at hi
    · simp only [Loc.set, e, if_false] at hi; exact ⟨i, _, _, _, hi⟩
  refine ⟨fun i hi => ?_, fun i hi => ?_, fun i y hi hy => ?_, fun i j c o1 cap1 sz1 o2 cap2 sz2 hi hj => ?_, fun c hc => H.lt c (own c hc), fun c hc => H.far c (own c hc), H.xlt⟩
  · by_cases e : i = b
    · simp [Hp.set, e] at hi
    · simp only [Hp.set, e, if_false] at hi; simp only [Loc.set, e, if_false]; exact H.out i hi
  · by_cases e : i = b
    · simp [Loc.set, e]
    · simp only [Hp.set, e, if_false] at hi; simp only [Loc.set, e, if_false]; exact H.dead i hi
  · by_cases e : i = b
    · simp only [Hp.set, e, if_true, Option.some.injEq] at hi; subst hi; simp [Blk.alive] at hy
    · simp only [Hp.set, e, if_false] at hi
      obtain ⟨c1, o1, cap1, sz1, k1, k2⟩ := H.blk i y hi hy
      exact ⟨c1, o1, cap1, sz1, by simp only [Loc.set, e, if_false]; exact k1, k2.mono hE rfl⟩
  · by_cases e : i = b
    · simp [Loc.set, e] at hi
    · by_cases e' : j = b
      · simp [Loc.set, e'] at hj
      · simp only [Loc.set, e, e', if_false] at hi hj
        exact H.inj i j c o1 cap1 sz1 o2 cap2 sz2 hi hj
end
end Go.Sy
