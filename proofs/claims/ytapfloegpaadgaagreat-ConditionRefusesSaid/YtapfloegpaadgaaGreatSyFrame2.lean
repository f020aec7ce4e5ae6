/- A run from a small state is a run from any state that holds it: back again. -/
import Derived.Test.YtapfloegpaadgaaGreatSyFrame
set_option linter.unusedVariables false
set_option linter.unusedSimpArgs false
set_option linter.unusedSectionVars false
namespace Go.Sy

theorem hp_none {st : St} {b : Nat} (h : st.next ≤ b) : st.hp b = none := by simp [St.hp, Nat.not_lt.2 h]
/-! ### The state behind -/
section
variable {st : St} {rho lend wr : List Nat}
theorem newAll_get : ∀ (l : List Blk) (st : St), (newAll st l).next = st.next + l.length ∧ (∀ b, b < st.next → (newAll st l).get b = st.get b) ∧ ∀ (j : Nat) (x : Blk), l[j]? = some x → (newAll st l).get (st.next + j) = x
  | [], st => ⟨rfl, fun _ _ => rfl, fun j x h => by simp at h⟩
  | y :: l, st => by
    obtain ⟨h1, h2, h3⟩ := newAll_get l (st.new y)
    have hn : (st.new y).next = st.next + 1 := rfl
    refine ⟨by simp only [newAll, h1, hn, List.length_cons]; omega, fun b hb => ?_, fun j x hj => ?_⟩
    · simp only [newAll]
      rw [h2 b (by omega), St.get_new st y b hb]
    · simp only [newAll]
      cases j with
      | zero =>
        simp at hj
        subst hj
        rw [Nat.add_zero, h2 _ (by omega)]
        have := St.new_hp st y
        have := congrFun this st.next
        simp only [St.hp, Hp.set, if_true] at this
        rw [if_pos (by simp [St.new])] at this
        exact Option.some.inj this
      | succ j =>
        have := h3 j x (by simpa using hj)
        rw [hn] at this
        rw [show st.next + (j + 1) = st.next + 1 + j by omega]
        exact this
theorem putAll_next (rho : List Nat) (post : List Blk) : ∀ (wr : List Nat) (st : St), (putAll st rho post wr).next = st.next
  | [], st => rfl
  | i :: wr, st => by
    unfold putAll
    split
    · rw [putAll_next rho post wr]; rfl
    · exact putAll_next rho post wr st
theorem putAll_at {rho : List Nat} {post : List Blk} (hn : rho.Nodup) : ∀ (wr : List Nat) (st : St) (i b : Nat) (x : Blk), i ∈ wr → rho[i]? = some b → post[i]? = some x → b < st.next → (putAll st rho post wr).get b = x
  | j :: wr, st, i, b, x, hi, hb, hx, hlt => by
    by_cases hiw : i ∈ wr
    · unfold putAll
      split
      · exact putAll_at hn wr _ i b x hiw hb hx hlt
      · exact putAll_at hn wr st i b x hiw hb hx hlt
    · have hij : i = j := by
        rcases List.mem_cons.1 hi with h | h
        · exact h
        · exact absurd h hiw
      subst hij
      unfold putAll
      rw [hb, hx]
      simp only
      rw [(putAll_puts rho post wr (st.put b x 0 whole)).get b (show b < (st.put b x 0 whole).next from hlt) ?_]
      · rw [St.get_put, if_pos hlt, if_pos rfl]
      · rintro ⟨k, hk, hk2, _⟩
        have e1 := posOf_at hn hb
        have e2 := posOf_at hn hk2
        rw [e1] at e2; cases e2
        exact hiw hk
theorem killAll_at : ∀ (l : List Nat) (st : St) (b : Nat), b ∈ l → (killAll st l).get b = .dead
  | x :: l, st, b, hb => by
    unfold killAll
    by_cases hbl : b ∈ l
    · exact killAll_at l _ b hbl
    · have : b = x := by
        rcases List.mem_cons.1 hb with h | h
        · exact h
        · exact absurd h hbl
      subst this
      by_cases hlt : b < st.next
      · rw [(killAll_puts l (st.put b .dead 0 whole)).get b (show b < (st.put b .dead 0 whole).next from hlt) hbl, St.get_put, if_pos hlt, if_pos rfl]
      · have hnx : ∀ (l : List Nat) (st : St), (killAll st l).next = st.next := by
          intro l
          induction l with
          | nil => intro st; rfl
          | cons y l ih => intro st; unfold killAll; rw [ih]; rfl
        exact get_over (by rw [hnx]; exact Nat.not_lt.1 hlt)
theorem killAll_next : ∀ (l : List Nat) (st : St), (killAll st l).next = st.next
  | [], st => rfl
  | y :: l, st => by unfold killAll; rw [killAll_next l]; rfl
theorem renBlks_at {rho : List Nat} : ∀ (l post : List Blk), renBlks rho l = some post → post.length = l.length ∧ ∀ (i : Nat) (x : Blk), post[i]? = some x → ∃ y, l[i]? = some y ∧ Blk.ren rho y = some x
  | [], post, h => by cases h; exact ⟨rfl, fun i x h => by simp at h⟩
  | b :: l, post, h => by
    simp only [renBlks] at h
    split at h
    · rename_i x xs h1 h2
      cases h
      obtain ⟨k1, k2⟩ := renBlks_at l xs h2
      refine ⟨by simp [k1], fun i y hi => ?_⟩
      cases i with
      | zero => simp at hi; subst hi; exact ⟨b, rfl, h1⟩
      | succ i => obtain ⟨z, hz1, hz2⟩ := k2 i y (by simpa using hi); exact ⟨z, by simpa using hz1, hz2⟩
    · cases h
theorem cleanOK_at {ps : Nat → Option Nat} : ∀ (l : List Nat) (k : Nat), cleanOK st ps wr l k = true → ∀ i b, l[i]? = some b → wr.any (Nat.beq (k + i)) = false → Blk.clean ps (st.get b) = true
  | [], _, _, i, b, h, _ => by simp at h
  | x :: l, k, h, i, b, hi, hw => by
    simp only [cleanOK, Bool.and_eq_true, Bool.or_eq_true] at h
    cases i with
    | zero =>
      simp at hi
      subst hi
      rcases h.1 with h | h
      · rw [Nat.add_zero] at hw; rw [hw] at h; cases h
      · exact h
    | succ i => exact cleanOK_at l (k + 1) h.2 i b (by simpa using hi) (by rw [show k + 1 + i = k + (i + 1) by omega]; exact hw)
theorem any_beq {l : List Nat} {i : Nat} : l.any (Nat.beq i) = true ↔ i ∈ l := by
  rw [List.any_eq_true]
  constructor
  · rintro ⟨x, hx, h⟩; rw [beq_dec] at h; simp at h; rw [h]; exact hx
  · intro h; exact ⟨i, h, by simp [beq_dec]⟩
end

/-! ### Clean values -/
mutual
theorem clean_ren {rho rho' : List Nat} (hp : ∀ b i, posOf rho 0 b = some i → rho'[i]? = some b) : (v : AV) → AV.clean (posOf rho 0) v = true → AV.ren rho' (AV.inv (posOf rho 0) dropJ v) = v
  | .bool _, _ => rfl
  | .int _ _, _ => rfl
  | .str _, _ => rfl
  | .nilp, _ => rfl
  | .ptr b o, h => by
    simp only [AV.clean] at h
    obtain ⟨i, hi⟩ := Option.isSome_iff_exists.1 h
    simp only [AV.inv, AV.look, hi, AV.ren, hp b i hi]
  | .iptr _ _, _ => rfl
  | .nils, _ => rfl
  | .sl b o n sz, h => by
    simp only [AV.clean] at h
    obtain ⟨i, hi⟩ := Option.isSome_iff_exists.1 h
    simp only [AV.inv, AV.look, hi, AV.ren, hp b i hi]
  | .imm _ _ _, _ => rfl
  | .nilm, _ => rfl
  | .map b, h => by
    simp only [AV.clean] at h
    obtain ⟨i, hi⟩ := Option.isSome_iff_exists.1 h
    simp only [AV.inv, AV.look, hi, AV.ren, hp b i hi]
  | .nilf, _ => rfl
  | .fn f fs cs, h => by
    cases f with
    | yield l =>
      cases fs with
      | nil =>
        cases cs with
        | nil =>
          simp only [AV.clean] at h
          obtain ⟨i, hi⟩ := Option.isSome_iff_exists.1 h
          simp only [AV.inv, hi, AV.ren, hp l i hi]
        | cons c cs => simp [AV.clean] at h
      | cons c fs => simp [AV.clean] at h
    | func g =>
      simp only [AV.clean, Bool.and_eq_true] at h
      simp only [AV.inv, AV.ren, clean_rens hp fs h.1, clean_rens hp cs h.2]
    | method n =>
      simp only [AV.clean, Bool.and_eq_true] at h
      simp only [AV.inv, AV.ren, clean_rens hp fs h.1, clean_rens hp cs h.2]
    | methodOf t n =>
      simp only [AV.clean, Bool.and_eq_true] at h
      simp only [AV.inv, AV.ren, clean_rens hp fs h.1, clean_rens hp cs h.2]
    | via a b c d =>
      simp only [AV.clean, Bool.and_eq_true] at h
      simp only [AV.inv, AV.ren, clean_rens hp fs h.1, clean_rens hp cs h.2]
  | .nili, _ => rfl
  | .iface t v, h => by
    simp only [AV.clean] at h
    simp only [AV.inv, AV.ren, clean_ren hp v h]
  | .agg cs, h => by
    simp only [AV.clean] at h
    simp only [AV.inv, AV.ren, clean_rens hp cs h]
  | .tup cs, h => by
    simp only [AV.clean] at h
    simp only [AV.inv, AV.ren, clean_rens hp cs h]
  | .junk, _ => rfl
theorem clean_rens {rho rho' : List Nat} (hp : ∀ b i, posOf rho 0 b = some i → rho'[i]? = some b) : (l : List AV) → AV.cleans (posOf rho 0) l = true → AV.rens rho' (AV.invs (posOf rho 0) dropJ l) = l
  | [], _ => rfl
  | v :: l, h => by
    simp only [AV.cleans, Bool.and_eq_true] at h
    simp only [AV.invs, AV.rens, clean_ren hp v h.1, clean_rens hp l h.2]
end
theorem allv_get (f : AV → Bool) : ∀ (t : T AV), T.allv f t = true → ∀ i v, t.get? i = some v → f v = true := by
  intro t
  induction t with
  | nil => intro _ i v h; simp [T.get?_nil] at h
  | node l x r ihl ihr =>
    intro h i v hi
    simp only [T.allv, Bool.and_eq_true] at h
    rw [T.get?_node] at hi
    split at hi
    · subst hi; exact h.1.2
    · split at hi
      · exact ihl h.1.1 _ _ hi
      · exact ihr h.2 _ _ hi

/-! ### Up -/
section
variable {X : Nat → Prop} {L L' : Loc} {w w' : World} {rho : List Nat}
/-- back under the old names -/
theorem ren_rel {X0 : Nat → Prop} {L0 : Loc} {b0 : Bool} (out : b0 = true → ∀ c, c < w'.heap.size → ¬ Owned L0 c → ¬ X0 c → ¬ Owned L' c ∧ ¬ X c ∧ c < w'.heap.size ∧ w'.heap[c]? = w'.heap[c]?)
    (hrho : ∀ b c, rho[b]? = some c → L' c = L0 b) {v : AV} {x : Value} (hv : VRel X0 L0 w' v x) : (b0 = true ∨ AV.noImm v = true) → VRel X L' w' (AV.ren rho v) x := by
  have get : ∀ (l : List AV) (j : Nat) (u : AV), (AV.rens rho l)[j]? = some u → ∃ v, l[j]? = some v ∧ u = AV.ren rho v := by
    intro l j u h
    rw [rens_map, List.getElem?_map, Option.map_eq_some_iff] at h
    obtain ⟨v, h1, h2⟩ := h
    exact ⟨v, h1, h2.symm⟩
  have len : ∀ l, (AV.rens rho l).length = l.length := by intro l; rw [rens_map, List.length_map]
  induction hv with
  | bool b => intro _; exact .bool b
  | int k n => intro _; exact .int k n
  | str s => intro _; exact .str s
  | nilp => intro _; exact .nilp
  | @ptr b off c o cap sz h1 =>
    intro _
    simp only [AV.ren]
    cases hp : rho[b]? with
    | some i => exact .ptr ((hrho b i hp).trans h1)
    | none => exact .junk _
  | @ptrD b off x h1 h2 =>
    intro _
    simp only [AV.ren]
    cases hp : rho[b]? with
    | some i => exact .ptrD ((hrho b i hp).trans h1) h2
    | none => exact .junk _
  | iptr xs h1 h2 h3 h4 h5 h6 ih =>
    intro hb
    rcases hb with hb | hb
    · exact VRel.ofFree (out hb) (.iptr xs h1 h2 h3 h4 h5 h6) (.iptr _ h6)
    · simp [AV.noImm] at hb
  | nils => intro _; exact .nils
  | @sl b off len sz c o cap dz cap' h1 h2 h3 =>
    intro _
    simp only [AV.ren]
    cases hp : rho[b]? with
    | some i => exact .sl ((hrho b i hp).trans h1) h2 h3
    | none => exact .junk _
  | @slE b off sz a h1 =>
    intro _
    simp only [AV.ren]
    cases hp : rho[b]? with
    | some i => exact .slE (by rw [hrho b i hp]; exact h1)
    | none => exact .junk _
  | @slD b off len sz x h1 h2 =>
    intro _
    simp only [AV.ren]
    cases hp : rho[b]? with
    | some i => exact .slD ((hrho b i hp).trans h1) h2
    | none => exact .junk _
  | immE h1 => intro _; exact .immE h1
  | imm xs h0 h1 h2 h3 h4 h5 h6 h7 h8 h9 ih =>
    intro hb
    rcases hb with hb | hb
    · exact VRel.ofFree (out hb) (.imm xs h0 h1 h2 h3 h4 h5 h6 h7 h8 h9) (.imm _ _ h9)
    · simp [AV.noImm] at hb
  | nilm => intro _; exact .nilm
  | @map b c o cap sz h1 =>
    intro _
    simp only [AV.ren]
    cases hp : rho[b]? with
    | some i => exact .map ((hrho b i hp).trans h1)
    | none => exact .junk _
  | @mapD b x h1 h2 =>
    intro _
    simp only [AV.ren]
    cases hp : rho[b]? with
    | some i => exact .mapD ((hrho b i hp).trans h1) h2
    | none => exact .junk _
  | nilf => intro _; exact .nilf
  | fn h1 h2 h3 h4 ih1 ih2 =>
    intro hb
    simp only [AV.ren]
    simp only [AV.noImm, Bool.and_eq_true] at hb
    refine .fn ((len _).trans h1) ((len _).trans h2) (fun j v x hj hx => ?_) (fun j v x hj hx => ?_)
    · obtain ⟨u, hu, rfl⟩ := get _ _ _ hj; exact ih1 j u x hu hx (hb.imp id fun h => noImms_all _ h.1 u (List.mem_of_getElem? hu))
    · obtain ⟨u, hu, rfl⟩ := get _ _ _ hj; exact ih2 j u x hu hx (hb.imp id fun h => noImms_all _ h.2 u (List.mem_of_getElem? hu))
  | @fnY l c o cap sz h1 =>
    intro _
    simp only [AV.ren]
    cases hp : rho[l]? with
    | some i => exact .fnY ((hrho l i hp).trans h1)
    | none => exact .junk _
  | @fnD l x h1 h2 =>
    intro _
    simp only [AV.ren]
    cases hp : rho[l]? with
    | some i => exact .fnD ((hrho l i hp).trans h1) h2
    | none => exact .junk _
  | nili => intro _; exact .nili
  | iface h1 ih => intro hb; simp only [AV.ren]; exact .iface (ih (by simpa only [AV.noImm] using hb))
  | agg h1 h2 ih =>
    intro hb
    simp only [AV.ren]
    simp only [AV.noImm] at hb
    refine .agg ((len _).trans h1) (fun j v x hj hx => ?_)
    obtain ⟨u, hu, rfl⟩ := get _ _ _ hj; exact ih j u x hu hx (hb.imp id fun h => noImms_all _ h u (List.mem_of_getElem? hu))
  | tup h1 h2 ih =>
    intro hb
    simp only [AV.ren]
    simp only [AV.noImm] at hb
    refine .tup ((len _).trans h1) (fun j v x hj hx => ?_)
    obtain ⟨u, hu, rfl⟩ := get _ _ _ hj; exact ih j u x hu hx (hb.imp id fun h => noImms_all _ h u (List.mem_of_getElem? hu))
  | junk x => intro _; exact .junk x
theorem ren_blk {X0 : Nat → Prop} {L0 : Loc} {b0 : Bool} (out : b0 = true → ∀ c, c < w'.heap.size → ¬ Owned L0 c → ¬ X0 c → ¬ Owned L' c ∧ ¬ X c ∧ c < w'.heap.size ∧ w'.heap[c]? = w'.heap[c]?)
    (hrho : ∀ b c, rho[b]? = some c → L' c = L0 b) {c o cap sz : Nat} {x y : Blk} (hB : BRel X0 L0 w' c o cap sz x) (h : Blk.ren rho x = some y) (hb : b0 = true ∨ Blk.noImm x = true) : BRel X L' w' c o cap sz y := by
  cases x with
  | cells cs =>
    simp only [Blk.ren, Option.some.injEq] at h
    subst h
    obtain ⟨arr, e, k1, k2, k3, k4⟩ := hB
    refine ⟨arr, e, k1, k2, by rw [rens_map, List.length_map]; exact k3, ?_⟩
    rw [rens_map, List.length_map]
    refine ⟨by rw [List.length_map]; exact k4.1, fun j v y hj hy => ?_⟩
    rw [List.getElem?_map, Option.map_eq_some_iff] at hj
    obtain ⟨u, hu, rfl⟩ := hj
    exact ren_rel out hrho (k4.2 j u y hu hy) (hb.imp id fun h => noImms_all _ h u (List.mem_of_getElem? hu))
  | map es =>
    simp only [Blk.ren, Option.some.injEq] at h
    subst h
    obtain ⟨fs, k, h1, h2⟩ := hB
    refine ⟨fs, k, h1, ?_⟩
    have hb' : ∀ e ∈ es, b0 = true ∨ AV.noImm e.2 = true := fun e he => hb.imp id fun h => List.all_eq_true.1 h e he
    generalize fs.toList = l at h2
    clear h1 hb
    induction h2 with
    | nil => exact .nil
    | cons g1 g2 g3 ih => exact .cons g1 (ren_rel out hrho g2 (hb' _ (List.mem_cons_self ..))) (ih fun e he => hb' e (List.mem_cons_of_mem _ he))
  | loop s p f t qs a b d =>
    simp only [Blk.ren] at h
    split at h
    · rename_i d' hd
      cases h
      obtain ⟨r, h1, h2, h3, h4, h5, h6, h7, h8, h9, h10⟩ := hB
      refine ⟨r, h1, h2, h3, h4, h5, h6, h7, fun i v hi => ?_, ?_, h10⟩
      · rw [mapv_get, Option.map_eq_some_iff] at hi
        obtain ⟨u, hu, rfl⟩ := hi
        obtain ⟨x, hx, hxv⟩ := h8 i u hu
        exact ⟨x, hx, ren_rel out hrho hxv (hb.imp id fun h => allv_get _ _ h i u hu)⟩
      · rw [hrho d d' hd]; exact h9
    · cases h
  | defd t => simp only [Blk.ren, Option.some.injEq] at h; subst h; exact hB
  | dead => exact hB.elim
end
end Go.Sy
