import Derived.Test.YtapfloegpaadgaaGreatSyLift
/- A run from a small state is a run from any state that holds it. -/
set_option linter.unusedVariables false
set_option linter.unusedSimpArgs false
set_option linter.unusedSectionVars false
namespace Go.Sy

theorem posOf_some : ∀ (l : List Nat) (k b i : Nat), posOf l k b = some i → k ≤ i ∧ l[i - k]? = some b
  | [], _, _, _, h => by simp [posOf] at h
  | x :: l, k, b, i, h => by
    simp only [posOf, beq_dec, Bool.cond_eq_ite, decide_eq_true_eq] at h
    split at h
    · rename_i e; cases h; simp [e]
    · obtain ⟨h1, h2⟩ := posOf_some l (k + 1) b i h
      refine ⟨by omega, ?_⟩
      have : i - k = (i - (k + 1)) + 1 := by omega
      rw [this, List.getElem?_cons_succ]; exact h2
theorem posOf_none : ∀ (l : List Nat) (k b : Nat), posOf l k b = none → b ∉ l
  | [], _, _, _ => by simp
  | x :: l, k, b, h => by
    simp only [posOf, beq_dec, Bool.cond_eq_ite, decide_eq_true_eq] at h
    split at h
    · cases h
    · rename_i e
      rw [List.mem_cons, not_or]
      exact ⟨fun hh => e hh.symm, posOf_none l (k + 1) b h⟩
theorem posOf_at {l : List Nat} (hn : l.Nodup) {b i : Nat} (h : l[i]? = some b) : posOf l 0 b = some i := by
  cases hp : posOf l 0 b with
  | none => exact absurd (List.mem_of_getElem? h) (posOf_none _ _ _ hp)
  | some j =>
    obtain ⟨_, h2⟩ := posOf_some _ _ _ _ hp
    obtain ⟨h3, h3'⟩ := List.getElem?_eq_some_iff.1 h
    obtain ⟨h4, h4'⟩ := List.getElem?_eq_some_iff.1 h2
    have := (List.getElem_inj (h₀ := h3) (h₁ := h4) hn).1 (by rw [h3', h4'])
    rw [this]; rfl
theorem invs_map (ps : Nat → Option Nat) (lk : AV → AV) : ∀ l, AV.invs ps lk l = l.map (AV.inv ps lk)
  | [] => rfl
  | v :: l => by rw [AV.invs, invs_map ps lk l, List.map_cons]
theorem rens_map (rho : List Nat) : ∀ l, AV.rens rho l = l.map (AV.ren rho)
  | [] => rfl
  | v :: l => by rw [AV.rens, rens_map rho l, List.map_cons]
theorem cleans_all (ps : Nat → Option Nat) : ∀ l, AV.cleans ps l = true → ∀ v ∈ l, AV.clean ps v = true
  | [], _, v, hv => by cases hv
  | u :: l, h, v, hv => by
    simp only [AV.cleans, Bool.and_eq_true] at h
    rcases List.mem_cons.1 hv with rfl | hv
    · exact h.1
    · exact cleans_all ps l h.2 v hv
theorem noImms_all : ∀ l, AV.noImms l = true → ∀ v ∈ l, AV.noImm v = true
  | [], _, v, hv => by cases hv
  | u :: l, h, v, hv => by
    simp only [AV.noImms, Bool.and_eq_true] at h
    rcases List.mem_cons.1 hv with rfl | hv
    · exact h.1
    · exact noImms_all l h.2 v hv

section
variable {X X' : Nat → Prop} {L L' : Loc} {w w' : World}
/-- what names no block wants little -/
theorem VRel.ofFree (out : ∀ c, c < w.heap.size → ¬ Owned L c → ¬ X c → ¬ Owned L' c ∧ ¬ X' c ∧ c < w'.heap.size ∧ w'.heap[c]? = w.heap[c]?) {v : AV} {x : Value} (hv : VRel X L w v x) (hf : Free v) : VRel X' L' w' v x := by
  have cell : ∀ bl o, bl < w.heap.size → ¬ Owned L bl → ¬ X bl → w'.cell? ⟨bl, o, none⟩ = w.cell? ⟨bl, o, none⟩ := by
    intro bl o h1 h2 h3
    unfold World.cell?
    rw [(out bl h1 h2 h3).2.2.2]
  induction hv with
  | bool b => exact .bool b
  | int k n => exact .int k n
  | str s => exact .str s
  | nilp => exact .nilp
  | ptr h1 => cases hf
  | ptrD h1 h2 => cases hf
  | iptr xs h1 h2 h3 h4 h5 h6 ih =>
    obtain ⟨a1, a2, a3, a4⟩ := out _ h3 h1 h2
    exact .iptr xs a1 a2 a3 (fun j v hj => (cell _ _ h3 h1 h2).trans (h4 j v hj)) (fun j v hj => ih j v hj (h6 v (List.mem_of_getElem? hj))) h6
  | nils => exact .nils
  | sl h1 h2 h3 => cases hf
  | slE h1 => cases hf
  | slD h1 h2 => cases hf
  | immE h1 => exact .immE h1
  | imm xs h0 h1 h2 h3 h4 h5 h6 h7 h8 h9 ih =>
    obtain ⟨a1, a2, a3, a4⟩ := out _ h3 h1 h2
    refine .imm xs h0 a1 a2 a3 (fun j v hj => (cell _ _ h3 h1 h2).trans (h4 j v hj)) (fun j v hj => ih j v hj ?_) h6 h7 h8 h9
    obtain ⟨e, he, hv⟩ := List.mem_flatMap.1 (List.mem_of_getElem? hj)
    exact (h9 e he).cells v hv
  | nilm => exact .nilm
  | map h1 => cases hf
  | mapD h1 h2 => cases hf
  | nilf => exact .nilf
  | fn h1 h2 h3 h4 ih1 ih2 =>
    cases hf with
    | fn _ k1 k2 => exact .fn h1 h2 (fun j v x hj hx => ih1 j v x hj hx (k1 v (List.mem_of_getElem? hj))) (fun j v x hj hx => ih2 j v x hj hx (k2 v (List.mem_of_getElem? hj)))
  | fnY h1 => cases hf
  | fnD h1 h2 => cases hf
  | nili => exact .nili
  | iface h1 ih => cases hf with | iface _ h => exact .iface (ih h)
  | agg h1 h2 ih => cases hf with | agg h => exact .agg h1 (fun j v x hj hx => ih j v x hj hx (h v (List.mem_of_getElem? hj)))
  | tup h1 h2 ih => cases hf with | tup h => exact .tup h1 (fun j v x hj hx => ih j v x hj hx (h v (List.mem_of_getElem? hj)))
  | junk x => exact .junk x

/-- seen from elsewhere -/
theorem inv_rel {ps : Nat → Option Nat} {lk : AV → AV} (out : ∀ c, c < w.heap.size → ¬ Owned L c → ¬ X c → ¬ Owned L' c ∧ ¬ X' c ∧ c < w'.heap.size ∧ w'.heap[c]? = w.heap[c]?)
    (hps : ∀ b i, ps b = some i → L' i = L b) (hlk : ∀ v x, VRel X L w v x → VRel X' L' w' (lk v) x) {v : AV} {x : Value} (hv : VRel X L w v x) : VRel X' L' w' (AV.inv ps lk v) x := by
  have get : ∀ (l : List AV) (j : Nat) (u : AV), (AV.invs ps lk l)[j]? = some u → ∃ v, l[j]? = some v ∧ u = AV.inv ps lk v := by
    intro l j u h
    rw [invs_map, List.getElem?_map, Option.map_eq_some_iff] at h
    obtain ⟨v, h1, h2⟩ := h
    exact ⟨v, h1, h2.symm⟩
  have len : ∀ l, (AV.invs ps lk l).length = l.length := by intro l; rw [invs_map, List.length_map]
  induction hv with
  | bool b => exact .bool b
  | int k n => exact .int k n
  | str s => exact .str s
  | nilp => exact .nilp
  | @ptr b off c o cap sz h1 =>
    simp only [AV.inv, AV.look]
    cases hp : ps b with
    | some i => exact .ptr ((hps b i hp).trans h1)
    | none => exact hlk _ _ (.ptr h1)
  | @ptrD b off x h1 h2 =>
    simp only [AV.inv, AV.look]
    cases hp : ps b with
    | some i => exact .ptrD ((hps b i hp).trans h1) h2
    | none => exact hlk _ _ (.ptrD h1 h2)
  | iptr xs h1 h2 h3 h4 h5 h6 ih => exact VRel.ofFree out (.iptr xs h1 h2 h3 h4 h5 h6) (.iptr _ h6)
  | nils => exact .nils
  | @sl b off len sz c o cap dz cap' h1 h2 h3 =>
    simp only [AV.inv, AV.look]
    cases hp : ps b with
    | some i => exact .sl ((hps b i hp).trans h1) h2 h3
    | none => exact hlk _ _ (.sl h1 h2 h3)
  | @slE b off sz a h1 =>
    simp only [AV.inv, AV.look]
    cases hp : ps b with
    | some i => exact .slE (by rw [hps b i hp]; exact h1)
    | none => exact hlk _ _ (.slE h1)
  | @slD b off len sz x h1 h2 =>
    simp only [AV.inv, AV.look]
    cases hp : ps b with
    | some i => exact .slD ((hps b i hp).trans h1) h2
    | none => exact hlk _ _ (.slD h1 h2)
  | immE h1 => exact .immE h1
  | imm xs h0 h1 h2 h3 h4 h5 h6 h7 h8 h9 ih => exact VRel.ofFree out (.imm xs h0 h1 h2 h3 h4 h5 h6 h7 h8 h9) (.imm _ _ h9)
  | nilm => exact .nilm
  | @map b c o cap sz h1 =>
    simp only [AV.inv, AV.look]
    cases hp : ps b with
    | some i => exact .map ((hps b i hp).trans h1)
    | none => exact .junk _
  | @mapD b x h1 h2 =>
    simp only [AV.inv, AV.look]
    cases hp : ps b with
    | some i => exact .mapD ((hps b i hp).trans h1) h2
    | none => exact .junk _
  | nilf => exact .nilf
  | fn h1 h2 h3 h4 ih1 ih2 =>
    simp only [AV.inv]
    refine .fn ((len _).trans h1) ((len _).trans h2) (fun j v x hj hx => ?_) (fun j v x hj hx => ?_)
    · obtain ⟨u, hu, rfl⟩ := get _ _ _ hj; exact ih1 j u x hu hx
    · obtain ⟨u, hu, rfl⟩ := get _ _ _ hj; exact ih2 j u x hu hx
  | @fnY l c o cap sz h1 =>
    simp only [AV.inv]
    cases hp : ps l with
    | some i => exact .fnY ((hps l i hp).trans h1)
    | none => exact .junk _
  | @fnD l x h1 h2 =>
    simp only [AV.inv]
    cases hp : ps l with
    | some i => exact .fnD ((hps l i hp).trans h1) h2
    | none => exact .junk _
  | nili => exact .nili
  | iface h1 ih => simp only [AV.inv]; exact .iface ih
  | agg h1 h2 ih =>
    simp only [AV.inv]
    refine .agg ((len _).trans h1) (fun j v x hj hx => ?_)
    obtain ⟨u, hu, rfl⟩ := get _ _ _ hj; exact ih j u x hu hx
  | tup h1 h2 ih =>
    simp only [AV.inv]
    refine .tup ((len _).trans h1) (fun j v x hj hx => ?_)
    obtain ⟨u, hu, rfl⟩ := get _ _ _ hj; exact ih j u x hu hx
  | junk x => exact .junk x
theorem inv_free {lk : AV → AV} (hlk : ∀ v x, VRel X L w v x → Free (lk v)) {v : AV} {x : Value} (hv : VRel X L w v x) : Free (AV.inv (fun _ => none) lk v) := by
  have all : ∀ (l : List AV) (xs : List Value), l.length = xs.length → (∀ (j : Nat) (v : AV) (x : Value), l[j]? = some v → xs[j]? = some x → Free (AV.inv (fun _ => none) lk v)) → ∀ u ∈ AV.invs (fun _ => none) lk l, Free u := by
    intro l xs hl h u hu
    rw [invs_map] at hu
    obtain ⟨v, hv, rfl⟩ := List.mem_map.1 hu
    obtain ⟨j, hj, hjv⟩ := List.mem_iff_getElem.1 hv
    exact h j v xs[j] (by rw [List.getElem?_eq_getElem hj, hjv]) (List.getElem?_eq_getElem (by omega))
  induction hv with
  | bool b => exact .bool b
  | int k n => exact .int k n
  | str s => exact .str s
  | nilp => exact .nilp
  | ptr h1 => exact hlk _ _ (.ptr h1)
  | ptrD h1 h2 => exact hlk _ _ (.ptrD h1 h2)
  | iptr xs h1 h2 h3 h4 h5 h6 ih => exact .iptr _ h6
  | nils => exact .nils
  | sl h1 h2 h3 => exact hlk _ _ (.sl h1 h2 h3)
  | @slE b off sz a h1 => exact hlk _ _ (.slE (a := a) h1)
  | slD h1 h2 => exact hlk _ _ (.slD h1 h2)
  | immE h1 => exact .imm _ _ (fun v hv => by cases hv)
  | imm xs h0 h1 h2 h3 h4 h5 h6 h7 h8 h9 ih => exact .imm _ _ h9
  | nilm => exact .nilm
  | map h1 => exact .junk
  | mapD h1 h2 => exact .junk
  | nilf => exact .nilf
  | fn h1 h2 h3 h4 ih1 ih2 => exact .fn _ (all _ _ (h1.trans Array.length_toList.symm) (fun j v x hj hx => ih1 j v x hj (by simpa using hx))) (all _ _ (h2.trans Array.length_toList.symm) (fun j v x hj hx => ih2 j v x hj (by simpa using hx)))
  | fnY h1 => exact .junk
  | fnD h1 h2 => exact .junk
  | nili => exact .nili
  | iface h1 ih => exact .iface _ ih
  | agg h1 h2 ih => exact .agg (all _ _ (h1.trans Array.length_toList.symm) (fun j v x hj hx => ih j v x hj (by simpa using hx)))
  | tup h1 h2 ih => exact .tup (all _ _ (h1.trans Array.length_toList.symm) (fun j v x hj hx => ih j v x hj (by simpa using hx)))
  | junk x => exact .junk
end

theorem grp_len (sz : Nat) : ∀ (n : Nat) (l : List AV), (grp sz n l).length = n
  | 0, _ => rfl
  | n + 1, l => by simp [grp, grp_len sz n]
theorem grp_cells (sz : Nat) : ∀ (n : Nat) (l : List AV), l.length = n * sz → (grp sz n l).flatMap AV.cells = l ∧ ∀ e ∈ grp sz n l, e.cells.length = sz
  | 0, l, h => by
    have : l = [] := List.eq_nil_of_length_eq_zero (by simpa using h)
    subst this
    exact ⟨rfl, fun e he => by cases he⟩
  | n + 1, l, h => by
    rw [Nat.succ_mul] at h
    obtain ⟨h1, h2⟩ := grp_cells sz n (l.drop sz) (by simp; omega)
    refine ⟨?_, fun e he => ?_⟩
    · simp only [grp, List.flatMap_cons, AV.cells, h1, List.take_append_drop]
    · rcases List.mem_cons.1 he with rfl | he
      · simp [AV.cells]; omega
      · exact h2 e he
theorem grp_mem (sz : Nat) : ∀ (n : Nat) (l : List AV) (e : AV), e ∈ grp sz n l → ∃ k, e = .agg k ∧ ∀ v ∈ k, v ∈ l
  | 0, _, e, h => by cases h
  | n + 1, l, e, h => by
    rcases List.mem_cons.1 h with rfl | h
    · exact ⟨_, rfl, fun v hv => List.mem_of_mem_take hv⟩
    · obtain ⟨k, rfl, h2⟩ := grp_mem sz n (l.drop sz) e h
      exact ⟨k, rfl, fun v hv => List.mem_of_mem_drop (h2 v hv)⟩

theorem setSlots_at : ∀ (l : List (Nat × AV)) (t : T AV) (i : Nat) (v : AV), (setSlots t l).get? i = some v → (i, v) ∈ l ∨ t.get? i = some v
  | [], t, i, v, h => .inr h
  | (j, u) :: l, t, i, v, h => by
    rcases setSlots_at l _ i v h with h | h
    · exact .inl (List.mem_cons_of_mem _ h)
    · rw [T.get?_set] at h
      split at h
      · rename_i e; cases h; subst e; exact .inl (List.mem_cons_self ..)
      · exact .inr h
/-! ### Down -/
def lowL (L : Loc) (rho : List Nat) : Loc := fun i => match rho[i]? with | some b => L b | none => .absent
def Lent (L : Loc) (lend : List Nat) (c : Nat) : Prop := ∃ b ∈ lend, ∃ o cap sz, L b = .live c o cap sz
def lowX (X : Nat → Prop) (L : Loc) (rho lend : List Nat) : Nat → Prop := fun c => X c ∨ (Owned L c ∧ ¬ Owned (lowL L rho) c ∧ ¬ Lent L lend c)
def hpL (l : List Blk) : Hp := fun b => l[b]?

section
variable {X : Nat → Prop} {L : Loc} {w : World} {st : St} {rho lend : List Nat}
theorem lowL_at {i b : Nat} (h : rho[i]? = some b) : lowL L rho i = L b := by simp [lowL, h]
theorem lowL_own {c : Nat} (h : Owned (lowL L rho) c) : ∃ i b o cap sz : Nat, rho[i]? = some b ∧ L b = .live c o cap sz := by
  obtain ⟨i, o, cap, sz, h⟩ := h
  unfold lowL at h
  split at h
  · rename_i b hb; exact ⟨i, b, o, cap, sz, hb, h⟩
  · cases h
theorem low_out (c : Nat) (h1 : c < w.heap.size) (h2 : ¬ Owned L c) (h3 : ¬ X c) : ¬ Owned (lowL L rho) c ∧ ¬ lowX X L rho lend c ∧ c < w.heap.size ∧ w.heap[c]? = w.heap[c]? := by
  refine ⟨fun h => ?_, fun h => ?_, h1, rfl⟩
  · obtain ⟨i, b, o, cap, sz, _, h⟩ := lowL_own h
    exact h2 ⟨b, o, cap, sz, h⟩
  · rcases h with h | ⟨h, _⟩
    · exact h3 h
    · exact h2 h

theorem lend_rel (H : HRel X L st.hp w) (hnd : (rho ++ lend).Nodup) : ∀ (k : Nat) (v : AV) (x : Value), VRel X L w v x → VRel (lowX X L rho lend) (lowL L rho) w (lendV st lend k v) x ∧ Free (lendV st lend k v) := by
  intro k
  induction k with
  | zero => intro v x _; exact ⟨.junk _, .junk⟩
  | succ k ih =>
    intro v x hv
    have disj : ∀ b, b ∈ lend → b ∉ rho := fun b hb hr => (List.nodup_append.1 hnd).2.2 b hr b hb rfl
    have free : ∀ {v : AV} {x : Value}, VRel X L w v x → VRel (lowX X L rho lend) (lowL L rho) w (AV.inv (fun _ => none) (lendV st lend k) v) x ∧ Free (AV.inv (fun _ => none) (lendV st lend k) v) := by
      intro v x hv
      exact ⟨inv_rel low_out (fun b i h => by cases h) (fun v x hv => (ih v x hv).1) hv, inv_free (fun v x hv => (ih v x hv).2) hv⟩
    have ours : ∀ {b c o cap sz : Nat}, b ∈ lend → L b = .live c o cap sz → ¬ Owned (lowL L rho) c ∧ ¬ lowX X L rho lend c ∧ c < w.heap.size := by
      intro b c o cap sz hb hL
      refine ⟨fun h => ?_, fun h => ?_, H.lt c ⟨b, o, cap, sz, hL⟩⟩
      · obtain ⟨i, b', o', cap', sz', hi, h⟩ := lowL_own h
        have := H.inj _ _ _ _ _ _ _ _ _ h hL
        subst this
        exact disj _ hb (List.mem_of_getElem? hi)
      · rcases h with h | ⟨_, _, h⟩
        · exact H.far c ⟨b, o, cap, sz, hL⟩ h
        · exact h ⟨b, hb, o, cap, sz, hL⟩
    cases v with
    | sl b o n sz =>
      simp only [lendV, Bool.cond_eq_ite]
      split
      · rename_i hb
        have hb : b ∈ lend := by
          obtain ⟨y, hy, he⟩ := List.any_eq_true.1 hb
          rw [beq_dec] at he
          simp at he
          rw [he]; exact hy
        split
        · rename_i cs hcs
          split
          · rename_i hle
            have hal : (st.get b).alive = true := by rw [hcs]; rfl
            obtain ⟨c, oo, cap, dz, hL, hB⟩ := H.at (St.hp_some hal) hal
            rw [hcs] at hB
            obtain ⟨arr, e, k1, k2, k3, k4⟩ := hB
            have hrow := (k4.drop o).take (n * sz)
            have hlen : (AV.invs (fun _ => none) (lendV st lend k) ((cs.drop o).take (n * sz))).length = n * sz := by rw [invs_map, List.length_map, List.length_take, List.length_drop]; omega
            obtain ⟨g1, g2⟩ := grp_cells sz n _ hlen
            have gfree : ∀ e ∈ grp sz n (AV.invs (fun _ => none) (lendV st lend k) ((cs.drop o).take (n * sz))), Free e := by
              intro e he
              obtain ⟨q, rfl, hq⟩ := grp_mem _ _ _ _ he
              refine .agg fun u hu => ?_
              have := hq u hu
              rw [invs_map] at this
              obtain ⟨y, hy, rfl⟩ := List.mem_map.1 this
              obtain ⟨j, hj⟩ := List.mem_iff_getElem?.1 hy
              obtain ⟨z, _, hz⟩ := hrow.get hj
              exact (free hz).2
            refine ⟨?_, .imm _ _ gfree⟩
            by_cases hn0 : n = 0
            · subst hn0
              have hx : ∃ A cp, x = .slice A 0 cp := by
                rcases hv.sl_live hL with ⟨cap', e, _⟩ | ⟨_, q, e⟩
                · exact ⟨_, _, e⟩
                · exact ⟨_, _, e⟩
              obtain ⟨A, cp, rfl⟩ := hx
              exact .immE fun h => by cases h
            · rcases hv.sl_live hL with ⟨cap', rfl, hc1, hc2⟩ | ⟨h0, _⟩
              · obtain ⟨u1, u2, u3⟩ := ours hb hL
                have hne : grp sz n (AV.invs (fun _ => none) (lendV st lend k) ((cs.drop o).take (n * sz))) ≠ [] := by
                  intro h
                  have := congrArg List.length h
                  rw [grp_len] at this
                  exact hn0 this
                have cell : ∀ j v, ((grp sz n (AV.invs (fun _ => none) (lendV st lend k) ((cs.drop o).take (n * sz)))).flatMap AV.cells)[j]? = some v → ∃ y, arr[oo + o + j]? = some y ∧ VRel (lowX X L rho lend) (lowL L rho) w v y := by
                  intro j v hj
                  rw [g1, invs_map, List.getElem?_map, Option.map_eq_some_iff] at hj
                  obtain ⟨u, hu, rfl⟩ := hj
                  obtain ⟨y, hy, hyv⟩ := hrow.get hu
                  refine ⟨y, ?_, (free hyv).1⟩
                  rw [List.getElem?_take] at hy
                  split at hy
                  · rw [List.getElem?_drop, List.getElem?_take] at hy
                    split at hy
                    · rw [List.getElem?_drop, Array.getElem?_toList] at hy
                      rw [Nat.add_assoc]; exact hy
                    · cases hy
                  · cases hy
                have := VRel.imm (X := lowX X L rho lend) (L := lowL L rho) (w := w) (es := grp sz n (AV.invs (fun _ => none) (lendV st lend k) ((cs.drop o).take (n * sz)))) (clip := false) (bl := c) (o := oo + o) (cap := cap') (sz := sz)
                  (fun j => (arr[oo + o + j]?).getD undef) hne u1 u2 u3 (fun j v hj => by
                    obtain ⟨y, hy, _⟩ := cell j v hj
                    simp [World.cell?, k1, hy]) (fun j v hj => by
                    obtain ⟨y, hy, hyv⟩ := cell j v hj
                    simp only [hy, Option.getD_some]; exact hyv) (by rw [grp_len]; exact hc1) (fun h => by cases h) g2 gfree
                rw [grp_len] at this
                exact this
              · exact absurd h0 hn0
          · exact ⟨.junk _, .junk⟩
        · exact ⟨.junk _, .junk⟩
      · exact ⟨.junk _, .junk⟩
    | ptr b o =>
      simp only [lendV, Bool.cond_eq_ite]
      split
      · rename_i hb
        have hb : b ∈ lend := by
          obtain ⟨y, hy, he⟩ := List.any_eq_true.1 hb
          rw [beq_dec] at he
          simp at he
          rw [he]; exact hy
        split
        · rename_i cs hcs
          have hal : (st.get b).alive = true := by rw [hcs]; rfl
          obtain ⟨c, oo, cap, dz, hL, hB⟩ := H.at (St.hp_some hal) hal
          rw [hcs] at hB
          obtain ⟨arr, e, k1, k2, k3, k4⟩ := hB
          obtain ⟨u1, u2, u3⟩ := ours hb hL
          have gfree : ∀ u ∈ AV.invs (fun _ => none) (lendV st lend k) cs, Free u := by
            intro u hu
            rw [invs_map] at hu
            obtain ⟨y, hy, rfl⟩ := List.mem_map.1 hu
            obtain ⟨j, hj⟩ := List.mem_iff_getElem?.1 hy
            obtain ⟨z, _, hz⟩ := k4.get hj
            exact (free hz).2
          refine ⟨?_, .iptr _ gfree⟩
          rw [hv.ptr_live hL]
          have cell : ∀ j v, (AV.invs (fun _ => none) (lendV st lend k) cs)[j]? = some v → ∃ y, arr[oo + j]? = some y ∧ VRel (lowX X L rho lend) (lowL L rho) w v y := by
            intro j v hj
            rw [invs_map, List.getElem?_map, Option.map_eq_some_iff] at hj
            obtain ⟨u, hu, rfl⟩ := hj
            obtain ⟨y, hy, hyv⟩ := k4.get hu
            refine ⟨y, ?_, (free hyv).1⟩
            rw [List.getElem?_take] at hy
            split at hy
            · rw [List.getElem?_drop, Array.getElem?_toList] at hy; exact hy
            · cases hy
          exact .iptr (fun j => (arr[oo + j]?).getD undef) u1 u2 u3 (fun j v hj => by
            obtain ⟨y, hy, _⟩ := cell j v hj
            simp [World.cell?, k1, hy]) (fun j v hj => by
            obtain ⟨y, hy, hyv⟩ := cell j v hj
            simp only [hy, Option.getD_some]; exact hyv) gfree
        · exact ⟨.junk _, .junk⟩
      · exact ⟨.junk _, .junk⟩
    | _ => exact ⟨.junk _, .junk⟩
theorem low_ps (b i : Nat) (h : posOf rho 0 b = some i) : lowL L rho i = L b := by
  obtain ⟨_, h2⟩ := posOf_some _ _ _ _ h
  exact lowL_at h2
theorem see_rel (H : HRel X L st.hp w) (hnd : (rho ++ lend).Nodup) {v : AV} {x : Value} (hv : VRel X L w v x) : VRel (lowX X L rho lend) (lowL L rho) w (seeV st rho lend v) x :=
  inv_rel low_out low_ps (fun v x hv => (lend_rel H hnd 3 v x hv).1) hv
theorem drop_rel (H : HRel X L st.hp w) (hnd : (rho ++ lend).Nodup) {v : AV} {x : Value} (hv : VRel X L w v x) : VRel (lowX X L rho lend) (lowL L rho) w (AV.inv (posOf rho 0) dropJ v) x :=
  inv_rel low_out low_ps (fun v x _ => .junk x) hv
theorem mapv_get (f : AV → AV) : ∀ (t : T AV) (i : Nat), (T.mapv f t).get? i = (t.get? i).map f := by
  intro t
  induction t with
  | nil => intro i; rfl
  | node l v r ihl ihr =>
    intro i
    simp only [T.mapv, T.get?_node]
    split
    · rfl
    · split
      · exact ihl _
      · exact ihr _
theorem down_blk (H : HRel X L st.hp w) (hnd : (rho ++ lend).Nodup) {c o cap sz : Nat} {x y : Blk} (hB : BRel X L w c o cap sz x) (h : Blk.inv (posOf rho 0) x = some y) : BRel (lowX X L rho lend) (lowL L rho) w c o cap sz y := by
  cases x with
  | cells cs =>
    simp only [Blk.inv, Option.some.injEq] at h
    subst h
    obtain ⟨arr, e, k1, k2, k3, k4⟩ := hB
    refine ⟨arr, e, k1, k2, by rw [invs_map, List.length_map]; exact k3, ?_⟩
    rw [invs_map, List.length_map]
    refine ⟨by rw [List.length_map]; exact k4.1, fun j v y hj hy => ?_⟩
    rw [List.getElem?_map, Option.map_eq_some_iff] at hj
    obtain ⟨u, hu, rfl⟩ := hj
    exact drop_rel H hnd (k4.2 j u y hu hy)
  | map es =>
    simp only [Blk.inv, Option.some.injEq] at h
    subst h
    obtain ⟨fs, k, h1, h2⟩ := hB
    refine ⟨fs, k, h1, ?_⟩
    generalize fs.toList = l at h2
    clear h1
    induction h2 with
    | nil => exact .nil
    | cons g1 g2 g3 ih => exact .cons g1 (drop_rel H hnd g2) ih
  | loop s p f t qs a b d =>
    simp only [Blk.inv] at h
    split at h
    · rename_i d' hd
      cases h
      obtain ⟨r, h1, h2, h3, h4, h5, h6, h7, h8, h9, h10⟩ := hB
      refine ⟨r, h1, h2, h3, h4, h5, h6, h7, fun i v hi => ?_, ?_, h10⟩
      · rcases setSlots_at _ _ _ _ hi with hi | hi
        · obtain ⟨j, _, hj⟩ := List.mem_filterMap.1 hi
          obtain ⟨u, hu, hue⟩ := Option.map_eq_some_iff.1 hj
          cases hue
          obtain ⟨x, hx, hxv⟩ := h8 _ u hu
          exact ⟨x, hx, drop_rel H hnd hxv⟩
        · rw [T.get?_nil] at hi; cases hi
      · rw [low_ps d d' hd]; exact h9
    · cases h
  | defd t => simp only [Blk.inv, Option.some.injEq] at h; subst h; exact hB
  | dead => cases h
theorem invBlks_at {ps : Nat → Option Nat} : ∀ (l : List Nat) (pre : List Blk), invBlks st ps l = some pre → pre.length = l.length ∧ ∀ i b : Nat, l[i]? = some b → ∃ y, pre[i]? = some y ∧ Blk.inv ps (st.get b) = some y
  | [], pre, h => by cases h; exact ⟨rfl, fun i b h => by simp at h⟩
  | b :: l, pre, h => by
    simp only [invBlks] at h
    split at h
    · rename_i x xs h1 h2
      cases h
      obtain ⟨k1, k2⟩ := invBlks_at l xs h2
      refine ⟨by simp [k1], fun i b' hi => ?_⟩
      cases i with
      | zero => simp at hi; subst hi; exact ⟨x, rfl, h1⟩
      | succ i => obtain ⟨y, hy1, hy2⟩ := k2 i b' (by simpa using hi); exact ⟨y, by simpa using hy1, hy2⟩
    · cases h
theorem inv_alive {ps : Nat → Option Nat} {x y : Blk} (h : Blk.inv ps x = some y) : y.alive = true ∧ x.alive = true := by
  cases x <;> simp only [Blk.inv] at h
  case loop s p f t qs a b d => split at h <;> cases h; exact ⟨rfl, rfl⟩
  all_goals first | (cases h; exact ⟨rfl, rfl⟩) | cases h
theorem down (H : HRel X L st.hp w) (hnd : (rho ++ lend).Nodup) {pre : List Blk} (h : invBlks st (posOf rho 0) rho = some pre) : HRel (lowX X L rho lend) (lowL L rho) (hpL pre) w := by
  obtain ⟨hl, hat⟩ := invBlks_at _ _ h
  have get : ∀ (i : Nat) (y : Blk), pre[i]? = some y → ∃ b, rho[i]? = some b ∧ Blk.inv (posOf rho 0) (st.get b) = some y := by
    intro i y hy
    have hi : i < rho.length := by have := (List.getElem?_eq_some_iff.1 hy).1; omega
    obtain ⟨y', h1, h2⟩ := hat i rho[i] (List.getElem?_eq_getElem hi)
    rw [hy] at h1; cases h1
    exact ⟨rho[i], List.getElem?_eq_getElem hi, h2⟩
  refine ⟨fun b hb => ?_, fun b hb => ?_, fun b x hb hx => ?_, fun i j c o cap sz o' cap' sz' hi hj => ?_, fun c hc => ?_, fun c hc hx => ?_, fun c hc => ?_⟩
  · have : rho.length ≤ b := by
      have : pre[b]? = none := hb
      rw [List.getElem?_eq_none_iff] at this
      omega
    simp [lowL, List.getElem?_eq_none this]
  · obtain ⟨a, _, h2⟩ := get b .dead hb
    exact absurd (inv_alive h2).1 (by simp [Blk.alive])
  · obtain ⟨a, h1, h2⟩ := get b x hb
    have hal := (inv_alive h2).2
    obtain ⟨c, o, cap, sz, k1, k2⟩ := H.at (St.hp_some hal) hal
    exact ⟨c, o, cap, sz, by rw [lowL_at h1]; exact k1, down_blk H hnd k2 h2⟩
  · have at' : ∀ {i c o cap sz}, lowL L rho i = .live c o cap sz → ∃ b, rho[i]? = some b ∧ L b = .live c o cap sz := by
      intro i c o cap sz h
      unfold lowL at h
      split at h
      · rename_i b hb; exact ⟨b, hb, h⟩
      · cases h
    obtain ⟨b, g1, g2⟩ := at' hi
    obtain ⟨b', g3, g4⟩ := at' hj
    have := H.inj _ _ _ _ _ _ _ _ _ g2 g4
    subst this
    have e1 := posOf_at (List.nodup_append.1 hnd).1 g1
    have e2 := posOf_at (List.nodup_append.1 hnd).1 g3
    rw [e1] at e2; cases e2; rfl
  · obtain ⟨i, b, o, cap, sz, _, h⟩ := lowL_own hc
    exact H.lt c ⟨b, o, cap, sz, h⟩
  · rcases hx with hx | ⟨_, hx, _⟩
    · obtain ⟨i, b, o, cap, sz, _, h⟩ := lowL_own hc
      exact H.far c ⟨b, o, cap, sz, h⟩ hx
    · exact hx hc
  · rcases hc with hc | ⟨hc, _⟩
    · exact H.xlt c hc
    · exact H.lt c hc
end
end Go.Sy

/- A run from a small state is a run from any state that holds it: back again. -/
set_option linter.unusedVariables false
set_option linter.unusedSimpArgs false
set_option linter.unusedSectionVars false
namespace Go.Sy

theorem hp_none {st : St} {b : Nat} (h : st.next ≤ b) : st.hp b = none := by simp [St.hp, Nat.not_lt.2 h]
/-! ### The state behind -/
section
variable {st : St} {rho lend wr : List Nat}
theorem newAll_get : ∀ (l : List Blk) (st : St), (newAll st l).next = st.next + l.length ∧ (∀ b, b < st.next → (newAll st l).get b = st.get b) ∧ ∀ (j : Nat) (x : Blk), l[j]? = some x → (newAll st l).get (st.next + j) = x
  | [], st => ⟨rfl, fun _ _ => rfl, fun j x h => by simp at h⟩
  | y :: l, st => by
    obtain ⟨h1, h2, h3⟩ := newAll_get l (st.new y)
    have hn : (st.new y).next = st.next + 1 := rfl
    refine ⟨by simp only [newAll, h1, hn, List.length_cons]; omega, fun b hb => ?_, fun j x hj => ?_⟩
    · simp only [newAll]
      rw [h2 b (by omega), St.get_new st y b hb]
    · simp only [newAll]
      cases j with
      | zero =>
        simp at hj
        subst hj
        rw [Nat.add_zero, h2 _ (by omega)]
        have := St.new_hp st y
        have := congrFun this st.next
        simp only [St.hp, Hp.set, if_true] at this
        rw [if_pos (by simp [St.new])] at this
        exact Option.some.inj this
      | succ j =>
        have := h3 j x (by simpa using hj)
        rw [hn] at this
        rw [show st.next + (j + 1) = st.next + 1 + j by omega]
        exact this
theorem putAll_next (rho : List Nat) (post : List Blk) : ∀ (wr : List Nat) (st : St), (putAll st rho post wr).next = st.next
  | [], st => rfl
  | i :: wr, st => by
    unfold putAll
    split
    · rw [putAll_next rho post wr]; rfl
    · exact putAll_next rho post wr st
theorem putAll_at {rho : List Nat} {post : List Blk} (hn : rho.Nodup) : ∀ (wr : List Nat) (st : St) (i b : Nat) (x : Blk), i ∈ wr → rho[i]? = some b → post[i]? = some x → b < st.next → (putAll st rho post wr).get b = x
  | j :: wr, st, i, b, x, hi, hb, hx, hlt => by
    by_cases hiw : i ∈ wr
    · unfold putAll
      split
      · exact putAll_at hn wr _ i b x hiw hb hx hlt
      · exact putAll_at hn wr st i b x hiw hb hx hlt
    · have hij : i = j := by
        rcases List.mem_cons.1 hi with h | h
        · exact h
        · exact absurd h hiw
      subst hij
      unfold putAll
      rw [hb, hx]
      simp only
      rw [(putAll_puts rho post wr (st.put b x 0 whole)).get b (show b < (st.put b x 0 whole).next from hlt) ?_]
      · rw [St.get_put, if_pos hlt, if_pos rfl]
      · rintro ⟨k, hk, hk2, _⟩
        have e1 := posOf_at hn hb
        have e2 := posOf_at hn hk2
        rw [e1] at e2; cases e2
        exact hiw hk
theorem killAll_at : ∀ (l : List Nat) (st : St) (b : Nat), b ∈ l → (killAll st l).get b = .dead
  | x :: l, st, b, hb => by
    unfold killAll
    by_cases hbl : b ∈ l
    · exact killAll_at l _ b hbl
    · have : b = x := by
        rcases List.mem_cons.1 hb with h | h
        · exact h
        · exact absurd h hbl
      subst this
      by_cases hlt : b < st.next
      · rw [(killAll_puts l (st.put b .dead 0 whole)).get b (show b < (st.put b .dead 0 whole).next from hlt) hbl, St.get_put, if_pos hlt, if_pos rfl]
      · have hnx : ∀ (l : List Nat) (st : St), (killAll st l).next = st.next := by
          intro l
          induction l with
          | nil => intro st; rfl
          | cons y l ih => intro st; unfold killAll; rw [ih]; rfl
        exact get_over (by rw [hnx]; exact Nat.not_lt.1 hlt)
theorem killAll_next : ∀ (l : List Nat) (st : St), (killAll st l).next = st.next
  | [], st => rfl
  | y :: l, st => by unfold killAll; rw [killAll_next l]; rfl
theorem renBlks_at {rho : List Nat} : ∀ (l post : List Blk), renBlks rho l = some post → post.length = l.length ∧ ∀ (i : Nat) (x : Blk), post[i]? = some x → ∃ y, l[i]? = some y ∧ Blk.ren rho y = some x
  | [], post, h => by cases h; exact ⟨rfl, fun i x h => by simp at h⟩
  | b :: l, post, h => by
    simp only [renBlks] at h
    split at h
    · rename_i x xs h1 h2
      cases h
      obtain ⟨k1, k2⟩ := renBlks_at l xs h2
      refine ⟨by simp [k1], fun i y hi => ?_⟩
      cases i with
      | zero => simp at hi; subst hi; exact ⟨b, rfl, h1⟩
      | succ i => obtain ⟨z, hz1, hz2⟩ := k2 i y (by simpa using hi); exact ⟨z, by simpa using hz1, hz2⟩
    · cases h
theorem cleanOK_at {ps : Nat → Option Nat} : ∀ (l : List Nat) (k : Nat), cleanOK st ps wr l k = true → ∀ i b, l[i]? = some b → wr.any (Nat.beq (k + i)) = false → Blk.clean ps (st.get b) = true
  | [], _, _, i, b, h, _ => by simp at h
  | x :: l, k, h, i, b, hi, hw => by
    simp only [cleanOK, Bool.and_eq_true, Bool.or_eq_true] at h
    cases i with
    | zero =>
      simp at hi
      subst hi
      rcases h.1 with h | h
      · rw [Nat.add_zero] at hw; rw [hw] at h; cases h
      · exact h
    | succ i => exact cleanOK_at l (k + 1) h.2 i b (by simpa using hi) (by rw [show k + 1 + i = k + (i + 1) by omega]; exact hw)
theorem any_beq {l : List Nat} {i : Nat} : l.any (Nat.beq i) = true ↔ i ∈ l := by
  rw [List.any_eq_true]
  constructor
  · rintro ⟨x, hx, h⟩; rw [beq_dec] at h; simp at h; rw [h]; exact hx
  · intro h; exact ⟨i, h, by simp [beq_dec]⟩
end

/-! ### Clean values -/
mutual
theorem clean_ren {rho rho' : List Nat} (hp : ∀ b i, posOf rho 0 b = some i → rho'[i]? = some b) : (v : AV) → AV.clean (posOf rho 0) v = true → AV.ren rho' (AV.inv (posOf rho 0) dropJ v) = v
  | .bool _, _ => rfl
  | .int _ _, _ => rfl
  | .str _, _ => rfl
  | .nilp, _ => rfl
  | .ptr b o, h => by
    simp only [AV.clean] at h
    obtain ⟨i, hi⟩ := Option.isSome_iff_exists.1 h
    simp only [AV.inv, AV.look, hi, AV.ren, hp b i hi]
  | .iptr _ _, _ => rfl
  | .nils, _ => rfl
  | .sl b o n sz, h => by
    simp only [AV.clean] at h
    obtain ⟨i, hi⟩ := Option.isSome_iff_exists.1 h
    simp only [AV.inv, AV.look, hi, AV.ren, hp b i hi]
  | .imm _ _ _, _ => rfl
  | .nilm, _ => rfl
  | .map b, h => by
    simp only [AV.clean] at h
    obtain ⟨i, hi⟩ := Option.isSome_iff_exists.1 h
    simp only [AV.inv, AV.look, hi, AV.ren, hp b i hi]
  | .nilf, _ => rfl
  | .fn f fs cs, h => by
    cases f with
    | yield l =>
      cases fs with
      | nil =>
        cases cs with
        | nil =>
          simp only [AV.clean] at h
          obtain ⟨i, hi⟩ := Option.isSome_iff_exists.1 h
          simp only [AV.inv, hi, AV.ren, hp l i hi]
        | cons c cs => simp [AV.clean] at h
      | cons c fs => simp [AV.clean] at h
    | func g =>
      simp only [AV.clean, Bool.and_eq_true] at h
      simp only [AV.inv, AV.ren, clean_rens hp fs h.1, clean_rens hp cs h.2]
    | method n =>
      simp only [AV.clean, Bool.and_eq_true] at h
      simp only [AV.inv, AV.ren, clean_rens hp fs h.1, clean_rens hp cs h.2]
    | methodOf t n =>
      simp only [AV.clean, Bool.and_eq_true] at h
      simp only [AV.inv, AV.ren, clean_rens hp fs h.1, clean_rens hp cs h.2]
    | via a b c d =>
      simp only [AV.clean, Bool.and_eq_true] at h
      simp only [AV.inv, AV.ren, clean_rens hp fs h.1, clean_rens hp cs h.2]
  | .nili, _ => rfl
  | .iface t v, h => by
    simp only [AV.clean] at h
    simp only [AV.inv, AV.ren, clean_ren hp v h]
  | .agg cs, h => by
    simp only [AV.clean] at h
    simp only [AV.inv, AV.ren, clean_rens hp cs h]
  | .tup cs, h => by
    simp only [AV.clean] at h
    simp only [AV.inv, AV.ren, clean_rens hp cs h]
  | .junk, _ => rfl
theorem clean_rens {rho rho' : List Nat} (hp : ∀ b i, posOf rho 0 b = some i → rho'[i]? = some b) : (l : List AV) → AV.cleans (posOf rho 0) l = true → AV.rens rho' (AV.invs (posOf rho 0) dropJ l) = l
  | [], _ => rfl
  | v :: l, h => by
    simp only [AV.cleans, Bool.and_eq_true] at h
    simp only [AV.invs, AV.rens, clean_ren hp v h.1, clean_rens hp l h.2]
end
theorem allv_get (f : AV → Bool) : ∀ (t : T AV), T.allv f t = true → ∀ i v, t.get? i = some v → f v = true := by
  intro t
  induction t with
  | nil => intro _ i v h; simp [T.get?_nil] at h
  | node l x r ihl ihr =>
    intro h i v hi
    simp only [T.allv, Bool.and_eq_true] at h
    rw [T.get?_node] at hi
    split at hi
    · subst hi; exact h.1.2
    · split at hi
      · exact ihl h.1.1 _ _ hi
      · exact ihr h.2 _ _ hi

/-! ### Up -/
section
variable {X : Nat → Prop} {L L' : Loc} {w w' : World} {rho : List Nat}
/-- back under the old names -/
theorem ren_rel {X0 : Nat → Prop} {L0 : Loc} {b0 : Bool} (out : b0 = true → ∀ c, c < w'.heap.size → ¬ Owned L0 c → ¬ X0 c → ¬ Owned L' c ∧ ¬ X c ∧ c < w'.heap.size ∧ w'.heap[c]? = w'.heap[c]?)
    (hrho : ∀ b c, rho[b]? = some c → L' c = L0 b) {v : AV} {x : Value} (hv : VRel X0 L0 w' v x) : (b0 = true ∨ AV.noImm v = true) → VRel X L' w' (AV.ren rho v) x := by
  have get : ∀ (l : List AV) (j : Nat) (u : AV), (AV.rens rho l)[j]? = some u → ∃ v, l[j]? = some v ∧ u = AV.ren rho v := by
    intro l j u h
    rw [rens_map, List.getElem?_map, Option.map_eq_some_iff] at h
    obtain ⟨v, h1, h2⟩ := h
    exact ⟨v, h1, h2.symm⟩
  have len : ∀ l, (AV.rens rho l).length = l.length := by intro l; rw [rens_map, List.length_map]
  induction hv with
  | bool b => intro _; exact .bool b
  | int k n => intro _; exact .int k n
  | str s => intro _; exact .str s
  | nilp => intro _; exact .nilp
  | @ptr b off c o cap sz h1 =>
    intro _
    simp only [AV.ren]
    cases hp : rho[b]? with
    | some i => exact .ptr ((hrho b i hp).trans h1)
    | none => exact .junk _
  | @ptrD b off x h1 h2 =>
    intro _
    simp only [AV.ren]
    cases hp : rho[b]? with
    | some i => exact .ptrD ((hrho b i hp).trans h1) h2
    | none => exact .junk _
  | iptr xs h1 h2 h3 h4 h5 h6 ih =>
    intro hb
    rcases hb with hb | hb
    · exact VRel.ofFree (out hb) (.iptr xs h1 h2 h3 h4 h5 h6) (.iptr _ h6)
    · simp [AV.noImm] at hb
  | nils => intro _; exact .nils
  | @sl b off len sz c o cap dz cap' h1 h2 h3 =>
    intro _
    simp only [AV.ren]
    cases hp : rho[b]? with
    | some i => exact .sl ((hrho b i hp).trans h1) h2 h3
    | none => exact .junk _
  | @slE b off sz a h1 =>
    intro _
    simp only [AV.ren]
    cases hp : rho[b]? with
    | some i => exact .slE (by rw [hrho b i hp]; exact h1)
    | none => exact .junk _
  | @slD b off len sz x h1 h2 =>
    intro _
    simp only [AV.ren]
    cases hp : rho[b]? with
    | some i => exact .slD ((hrho b i hp).trans h1) h2
    | none => exact .junk _
  | immE h1 => intro _; exact .immE h1
  | imm xs h0 h1 h2 h3 h4 h5 h6 h7 h8 h9 ih =>
    intro hb
    rcases hb with hb | hb
    · exact VRel.ofFree (out hb) (.imm xs h0 h1 h2 h3 h4 h5 h6 h7 h8 h9) (.imm _ _ h9)
    · simp [AV.noImm] at hb
  | nilm => intro _; exact .nilm
  | @map b c o cap sz h1 =>
    intro _
    simp only [AV.ren]
    cases hp : rho[b]? with
    | some i => exact .map ((hrho b i hp).trans h1)
    | none => exact .junk _
  | @mapD b x h1 h2 =>
    intro _
    simp only [AV.ren]
    cases hp : rho[b]? with
    | some i => exact .mapD ((hrho b i hp).trans h1) h2
    | none => exact .junk _
  | nilf => intro _; exact .nilf
  | fn h1 h2 h3 h4 ih1 ih2 =>
    intro hb
    simp only [AV.ren]
    simp only [AV.noImm, Bool.and_eq_true] at hb
    refine .fn ((len _).trans h1) ((len _).trans h2) (fun j v x hj hx => ?_) (fun j v x hj hx => ?_)
    · obtain ⟨u, hu, rfl⟩ := get _ _ _ hj; exact ih1 j u x hu hx (hb.imp id fun h => noImms_all _ h.1 u (List.mem_of_getElem? hu))
    · obtain ⟨u, hu, rfl⟩ := get _ _ _ hj; exact ih2 j u x hu hx (hb.imp id fun h => noImms_all _ h.2 u (List.mem_of_getElem? hu))
  | @fnY l c o cap sz h1 =>
    intro _
    simp only [AV.ren]
    cases hp : rho[l]? with
    | some i => exact .fnY ((hrho l i hp).trans h1)
    | none => exact .junk _
  | @fnD l x h1 h2 =>
    intro _
    simp only [AV.ren]
    cases hp : rho[l]? with
    | some i => exact .fnD ((hrho l i hp).trans h1) h2
    | none => exact .junk _
  | nili => intro _; exact .nili
  | iface h1 ih => intro hb; simp only [AV.ren]; exact .iface (ih (by simpa only [AV.noImm] using hb))
  | agg h1 h2 ih =>
    intro hb
    simp only [AV.ren]
    simp only [AV.noImm] at hb
    refine .agg ((len _).trans h1) (fun j v x hj hx => ?_)
    obtain ⟨u, hu, rfl⟩ := get _ _ _ hj; exact ih j u x hu hx (hb.imp id fun h => noImms_all _ h u (List.mem_of_getElem? hu))
  | tup h1 h2 ih =>
    intro hb
    simp only [AV.ren]
    simp only [AV.noImm] at hb
    refine .tup ((len _).trans h1) (fun j v x hj hx => ?_)
    obtain ⟨u, hu, rfl⟩ := get _ _ _ hj; exact ih j u x hu hx (hb.imp id fun h => noImms_all _ h u (List.mem_of_getElem? hu))
  | junk x => intro _; exact .junk x
theorem ren_blk {X0 : Nat → Prop} {L0 : Loc} {b0 : Bool} (out : b0 = true → ∀ c, c < w'.heap.size → ¬ Owned L0 c → ¬ X0 c → ¬ Owned L' c ∧ ¬ X c ∧ c < w'.heap.size ∧ w'.heap[c]? = w'.heap[c]?)
    (hrho : ∀ b c, rho[b]? = some c → L' c = L0 b) {c o cap sz : Nat} {x y : Blk} (hB : BRel X0 L0 w' c o cap sz x) (h : Blk.ren rho x = some y) (hb : b0 = true ∨ Blk.noImm x = true) : BRel X L' w' c o cap sz y := by
  cases x with
  | cells cs =>
    simp only [Blk.ren, Option.some.injEq] at h
    subst h
    obtain ⟨arr, e, k1, k2, k3, k4⟩ := hB
    refine ⟨arr, e, k1, k2, by rw [rens_map, List.length_map]; exact k3, ?_⟩
    rw [rens_map, List.length_map]
    refine ⟨by rw [List.length_map]; exact k4.1, fun j v y hj hy => ?_⟩
    rw [List.getElem?_map, Option.map_eq_some_iff] at hj
    obtain ⟨u, hu, rfl⟩ := hj
    exact ren_rel out hrho (k4.2 j u y hu hy) (hb.imp id fun h => noImms_all _ h u (List.mem_of_getElem? hu))
  | map es =>
    simp only [Blk.ren, Option.some.injEq] at h
    subst h
    obtain ⟨fs, k, h1, h2⟩ := hB
    refine ⟨fs, k, h1, ?_⟩
    have hb' : ∀ e ∈ es, b0 = true ∨ AV.noImm e.2 = true := fun e he => hb.imp id fun h => List.all_eq_true.1 h e he
    generalize fs.toList = l at h2
    clear h1 hb
    induction h2 with
    | nil => exact .nil
    | cons g1 g2 g3 ih => exact .cons g1 (ren_rel out hrho g2 (hb' _ (List.mem_cons_self ..))) (ih fun e he => hb' e (List.mem_cons_of_mem _ he))
  | loop s p f t qs a b d =>
    simp only [Blk.ren] at h
    split at h
    · rename_i d' hd
      cases h
      obtain ⟨r, h1, h2, h3, h4, h5, h6, h7, h8, h9, h10⟩ := hB
      refine ⟨r, h1, h2, h3, h4, h5, h6, h7, fun i v hi => ?_, ?_, h10⟩
      · rw [mapv_get, Option.map_eq_some_iff] at hi
        obtain ⟨u, hu, rfl⟩ := hi
        obtain ⟨x, hx, hxv⟩ := h8 i u hu
        exact ⟨x, hx, ren_rel out hrho hxv (hb.imp id fun h => allv_get _ _ h i u hu)⟩
      · rw [hrho d d' hd]; exact h9
    · cases h
  | defd t => simp only [Blk.ren, Option.some.injEq] at h; subst h; exact hB
  | dead => exact hB.elim
end
end Go.Sy

/- A run from a small state is a run from any state that holds it: the rule. -/
set_option linter.unusedVariables false
set_option linter.unusedSimpArgs false
set_option linter.unusedSectionVars false
namespace Go.Sy

noncomputable def upL (L L0' : Loc) (rho' lend : List Nat) (keep : Bool) : Loc := fun b => match posOf rho' 0 b with
  | some i => L0' i
  | none => if keep = false ∧ b ∈ lend then .dead else L b

section
variable {X : Nat → Prop} {L L0' : Loc} {w w' : World} {st st' : St} {rho lend wr rho' : List Nat} {post pre : List Blk} {vs : List AV}
theorem rhoNew_at (i : Nat) : (rhoNew st rho post)[i]? = if i < rho.length then rho[i]? else if i < post.length then some (st.next + (i - rho.length)) else none := by
  unfold rhoNew
  by_cases h : i < rho.length
  · rw [if_pos h, List.getElem?_append_left h]
  · rw [if_neg h, List.getElem?_append_right (Nat.not_lt.1 h)]
    simp only [List.getElem?_map]
    by_cases h2 : i < post.length
    · rw [if_pos h2, List.getElem?_range (by omega)]; rfl
    · rw [if_neg h2, List.getElem?_eq_none (by simp; omega)]; rfl
theorem up (H : HRel X L st.hp w) (ht : told st rho lend wr post vs = some (pre, rho', st')) (hun : Unch rho.length wr pre post) (hE : Ext (lowL L rho) w L0' w') (H' : HRel (lowX X L rho lend) L0' (hpL post) w') :
    ∃ L', Ext L w L' w' ∧ HRel X L' st'.hp w' ∧ ∀ v x, v ∈ vs → VRel (lowX X L rho lend) L0' w' v x → VRel X L' w' (AV.ren rho' v) x := by
  obtain ⟨post', t1, t2, t3, t4, t5, rfl, rfl⟩ := told_inv ht
  obtain ⟨hnd, hal, hle, hwr⟩ := rhoOK_inv t3
  have hndr := (List.nodup_append.1 hnd).1
  have disj : ∀ b, b ∈ rho → b ∉ lend := fun b hb hr => (List.nodup_append.1 hnd).2.2 b hb b hr rfl
  obtain ⟨hpl, hpat⟩ := renBlks_at _ _ t2
  have hlt : ∀ b ∈ rho, b < st.next := fun b hb => St.alive_lt (hal b hb)
  have hltl : ∀ b ∈ lend, b < st.next := fun b hb => St.alive_lt (hle b hb)
  generalize hkeep : keepOK lend post vs = keep
  generalize hR : rhoNew st rho post = R at *
  have Rat : ∀ i, R[i]? = if i < rho.length then rho[i]? else if i < post.length then some (st.next + (i - rho.length)) else none := by intro i; rw [← hR]; exact rhoNew_at i
  have Rlen : R.length = post.length := by
    have h1 : R[post.length]? = none := by rw [Rat, if_neg (by omega), if_neg (by omega)]
    rw [List.getElem?_eq_none_iff] at h1
    apply Nat.le_antisymm h1
    apply Nat.le_of_not_lt
    intro hh
    have h2 : R[R.length]? = none := List.getElem?_eq_none (Nat.le_refl _)
    rw [Rat] at h2
    split at h2
    · rename_i h3; rw [List.getElem?_eq_getElem h3] at h2; cases h2
    · first | (cases h2; done) | (rw [if_pos hh] at h2; cases h2)
  have Rnd : R.Nodup := by
    rw [← hR]
    unfold rhoNew
    rw [List.nodup_append]
    refine ⟨hndr, ?_, fun a ha b hb => ?_⟩
    · rw [List.Nodup, List.pairwise_map]
      exact List.nodup_range.imp fun h => by omega
    · have := hlt a ha
      obtain ⟨j, _, rfl⟩ := List.mem_map.1 hb
      omega
  have Rrho : ∀ (i b : Nat), rho[i]? = some b → R[i]? = some b := by
    intro i b h
    rw [Rat, if_pos (List.getElem?_eq_some_iff.1 h).1]; exact h
  have Rcase : ∀ (i b : Nat), R[i]? = some b → (i < rho.length ∧ rho[i]? = some b) ∨ (rho.length ≤ i ∧ i < post.length ∧ b = st.next + (i - rho.length)) := by
    intro i b h
    rw [Rat] at h
    split at h
    · rename_i h1; exact .inl ⟨h1, h⟩
    · rename_i h1
      split at h
      · rename_i h2; cases h; exact .inr ⟨by omega, h2, rfl⟩
      · cases h
  -- the state behind
  generalize hS1 : putAll st rho post' wr = S0
  have n0 : S0.next = st.next := by rw [← hS1]; exact putAll_next _ _ _ _
  obtain ⟨n1, gold, gnew⟩ := newAll_get (post'.drop rho.length) S0
  generalize hS2 : newAll S0 (post'.drop rho.length) = S1 at n1 gold gnew
  have hup : upSt st rho lend wr keep post' = bif keep then S1 else killAll S1 lend := by simp only [upSt, hS1, hS2]
  have hn1 : S1.next = st.next + (post.length - rho.length) := by rw [n1, n0]; simp [hpl]
  have hnx : (upSt st rho lend wr keep post').next = st.next + (post.length - rho.length) := by
    rw [hup]
    cases keep
    · simp only [cond_false]; rw [killAll_next]; exact hn1
    · simp only [cond_true]; exact hn1
  have getU : ∀ b, b < S1.next → (keep = true ∨ b ∉ lend) → (upSt st rho lend wr keep post').get b = S1.get b := by
    intro b hb hk
    rw [hup]
    cases keep
    · simp only [cond_false]
      exact (killAll_puts lend S1).get b hb (hk.resolve_left (by simp))
    · rfl
  have g1 : ∀ (i b : Nat) (x : Blk), i ∈ wr → rho[i]? = some b → post'[i]? = some x → (upSt st rho lend wr keep post').get b = x := by
    intro i b x hi hb hx
    have hbm := List.mem_of_getElem? hb
    have h2 := hlt b hbm
    rw [getU b (by omega) (.inr (disj b hbm)), gold b (by omega), ← hS1]
    exact putAll_at hndr wr st i b x hi hb hx h2
  have g2 : ∀ (i b : Nat), i ∉ wr → rho[i]? = some b → (upSt st rho lend wr keep post').get b = st.get b := by
    intro i b hi hb
    have hbm := List.mem_of_getElem? hb
    have h2 := hlt b hbm
    rw [getU b (by omega) (.inr (disj b hbm)), gold b (by omega), ← hS1]
    refine (putAll_puts rho post' wr st).get b h2 ?_
    rintro ⟨k, hk, hk2, _⟩
    have e1 := posOf_at hndr hb
    have e2 := posOf_at hndr hk2
    rw [e1] at e2; cases e2
    exact hi hk
  have g3 : ∀ (i : Nat) (x : Blk), rho.length ≤ i → post'[i]? = some x → (upSt st rho lend wr keep post').get (st.next + (i - rho.length)) = x := by
    intro i x hi hx
    have hil := (List.getElem?_eq_some_iff.1 hx).1
    have := gnew (i - rho.length) x (by rw [List.getElem?_drop, show rho.length + (i - rho.length) = i by omega]; exact hx)
    rw [n0] at this
    rw [getU _ (by omega) (.inr fun hh => by have := hltl _ hh; omega)]
    exact this
  have g4 : ∀ b, b < st.next → b ∉ rho → (keep = true ∨ b ∉ lend) → (upSt st rho lend wr keep post').get b = st.get b := by
    intro b hb hr hk
    rw [getU b (by omega) hk, gold b (by omega), ← hS1]
    refine (putAll_puts rho post' wr st).get b hb ?_
    rintro ⟨k, hk, hk2, _⟩
    exact hr (List.mem_of_getElem? hk2)
  have g5 : ∀ b, keep = false → b ∈ lend → (upSt st rho lend wr keep post').get b = .dead := by
    intro b hk hb
    rw [hup, hk]
    simp only [cond_false]
    exact killAll_at lend S1 b hb
  -- where it lies
  have hLat : ∀ (i b : Nat), R[i]? = some b → upL L L0' R lend keep b = L0' i := by
    intro i b h
    simp only [upL, posOf_at Rnd h]
  have hLelse : ∀ b, posOf R 0 b = none → (keep = true ∨ b ∉ lend) → upL L L0' R lend keep b = L b := by
    intro b h hk
    simp only [upL, h]
    rw [if_neg]
    rintro ⟨h1, h2⟩
    rcases hk with hk | hk
    · rw [hk] at h1; cases h1
    · exact hk h2
  have hLkill : ∀ b, keep = false → b ∈ lend → upL L L0' R lend keep b = .dead := by
    intro b hk hb
    have : posOf R 0 b = none := by
      cases hp : posOf R 0 b with
      | none => rfl
      | some i =>
        obtain ⟨_, h2⟩ := posOf_some _ _ _ _ hp
        rcases Rcase i b h2 with ⟨_, h⟩ | ⟨_, _, h⟩
        · exact absurd hb (disj b (List.mem_of_getElem? h))
        · have := hltl b hb; omega
    simp only [upL, this]
    rw [if_pos ⟨hk, hb⟩]
  have hLabs : ∀ b, L b ≠ .absent → b < st.next := by
    intro b hb
    apply Classical.byContradiction
    intro hh
    exact hb (H.out b (hp_none (Nat.not_lt.1 hh)))
  have nrho : ∀ b, posOf R 0 b = none → b ∉ rho := by
    intro b hp hb
    obtain ⟨i, hi⟩ := List.mem_iff_getElem?.1 hb
    exact posOf_none _ _ _ hp (List.mem_of_getElem? (Rrho i b hi))
  have live : ∀ b c o cap sz, upL L L0' R lend keep b = .live c o cap sz → (∃ i, R[i]? = some b ∧ L0' i = .live c o cap sz) ∨ (b ∉ rho ∧ (keep = true ∨ b ∉ lend) ∧ L b = .live c o cap sz) := by
    intro b c o cap sz h
    cases hp : posOf R 0 b with
    | some i =>
      obtain ⟨_, h2⟩ := posOf_some _ _ _ _ hp
      rw [hLat i b h2] at h
      exact .inl ⟨i, h2, h⟩
    | none =>
      by_cases hk : keep = false ∧ b ∈ lend
      · rw [hLkill b hk.1 hk.2] at h; cases h
      · have hk' : keep = true ∨ b ∉ lend := by
          cases hkk : keep
          · exact .inr fun hb => hk ⟨hkk, hb⟩
          · exact .inl rfl
        rw [hLelse b hp hk'] at h
        exact .inr ⟨nrho b hp, hk', h⟩
  have own : ∀ c, Owned (upL L L0' R lend keep) c → Owned L0' c ∨ ∃ b o cap sz, b ∉ rho ∧ (keep = true ∨ b ∉ lend) ∧ L b = .live c o cap sz := by
    rintro c ⟨b, o, cap, sz, h⟩
    rcases live b c o cap sz h with ⟨i, h1, h2⟩ | ⟨h1, h2, h3⟩
    · exact .inl ⟨i, o, cap, sz, h2⟩
    · exact .inr ⟨b, o, cap, sz, h1, h2, h3⟩
  have notlow : ∀ b c o cap sz, b ∉ rho → L b = .live c o cap sz → ¬ Owned (lowL L rho) c := by
    intro b c o cap sz hb hL h
    obtain ⟨i, b', o', cap', sz', hi, h⟩ := lowL_own h
    have := H.inj _ _ _ _ _ _ _ _ _ h hL
    subst this
    exact hb (List.mem_of_getElem? hi)
  have hEX : Ext L w (upL L L0' R lend keep) w' := by
    refine ⟨hE.size, fun c hc ho => hE.same c hc fun h => ?_, fun b hb => ?_, fun c hc => ?_, hE.os, hE.tape, hE.output⟩
    · obtain ⟨i, b, o, cap, sz, _, h⟩ := lowL_own h
      exact ho ⟨b, o, cap, sz, h⟩
    · cases hp : posOf R 0 b with
      | some i =>
        obtain ⟨_, h2⟩ := posOf_some _ _ _ _ hp
        rw [hLat i b h2]
        rcases Rcase i b h2 with ⟨_, h⟩ | ⟨_, _, h⟩
        · have e := lowL_at (L := L) h
          rw [← e]
          exact hE.loc i (by rw [e]; exact hb)
        · have := hLabs b hb; omega
      | none =>
        by_cases hk : keep = false ∧ b ∈ lend
        · exact .inr (hLkill b hk.1 hk.2)
        · refine .inl (hLelse b hp ?_)
          cases hkk : keep
          · exact .inr fun hb => hk ⟨hkk, hb⟩
          · exact .inl rfl
    · rcases own c hc with h | ⟨b, o, cap, sz, _, _, h⟩
      · rcases hE.own c h with h | h
        · obtain ⟨i, b, o, cap, sz, _, h⟩ := lowL_own h
          exact .inl ⟨b, o, cap, sz, h⟩
        · exact .inr h
      · exact .inl ⟨b, o, cap, sz, h⟩
  -- what is read alone stays so
  have out : (!keep || lend.isEmpty) = true → ∀ c, c < w'.heap.size → ¬ Owned L0' c → ¬ lowX X L rho lend c → ¬ Owned (upL L L0' R lend keep) c ∧ ¬ X c ∧ c < w'.heap.size ∧ w'.heap[c]? = w'.heap[c]? := by
    intro hb0 c hc h1 h2
    refine ⟨fun h => ?_, fun h => h2 (.inl h), hc, rfl⟩
    rcases own c h with h | ⟨b, o, cap, sz, k1, k2, k3⟩
    · exact h1 h
    · apply h2
      refine .inr ⟨⟨b, o, cap, sz, k3⟩, notlow b c o cap sz k1 k3, ?_⟩
      rintro ⟨b', hb', o', cap', sz', h⟩
      have := H.inj _ _ _ _ _ _ _ _ _ h k3
      subst this
      rcases k2 with k2 | k2
      · rw [k2] at hb0
        simp at hb0
        subst hb0
        cases hb'
      · exact k2 hb'
  have imm : ∀ x, x ∈ post → (!keep || lend.isEmpty) = true ∨ Blk.noImm x = true := by
    intro x hx
    cases hkk : keep
    · exact .inl rfl
    · rw [hkk] at hkeep
      simp only [keepOK, Bool.or_eq_true, Bool.and_eq_true] at hkeep
      rcases hkeep with h | ⟨h, _⟩
      · exact .inl (by rw [h]; simp)
      · exact .inr (List.all_eq_true.1 h x hx)
  have immV : ∀ v, v ∈ vs → (!keep || lend.isEmpty) = true ∨ AV.noImm v = true := by
    intro v hv
    cases hkk : keep
    · exact .inl rfl
    · rw [hkk] at hkeep
      simp only [keepOK, Bool.or_eq_true, Bool.and_eq_true] at hkeep
      rcases hkeep with h | ⟨_, h⟩
      · exact .inl (by rw [h]; simp)
      · exact .inr (noImms_all _ h v hv)
  have hRL : ∀ (b c : Nat), R[b]? = some c → upL L L0' R lend keep c = L0' b := fun b c h => hLat b c h
  refine ⟨upL L L0' R lend keep, hEX, ?_, fun v x hv hx => ren_rel out hRL hx (immV v hv)⟩
  obtain ⟨hprl, hprat⟩ := invBlks_at _ _ t1
  -- what a block of the row holds
  have blk : ∀ (i b : Nat), R[i]? = some b → ∃ y, post[i]? = some y ∧ ((∃ x, Blk.ren R y = some x ∧ (upSt st rho lend wr keep post').get b = x) ∨ (y.alive = true ∧ ∃ x, (upSt st rho lend wr keep post').get b = x ∧ x.alive = true ∧ Blk.ren R y = some x)) := by
    intro i b h
    rcases Rcase i b h with ⟨h1, h2⟩ | ⟨h1, h2, h3⟩
    · by_cases hi : i ∈ wr
      · have hil : i < post'.length := by omega
        obtain ⟨y, hy, hyr⟩ := hpat i _ (List.getElem?_eq_getElem hil)
        exact ⟨y, hy, .inl ⟨_, hyr, g1 i b _ hi h2 (List.getElem?_eq_getElem hil)⟩⟩
      · have hany : wr.any (Nat.beq i) = false := by
          cases hh : wr.any (Nat.beq i) with
          | false => rfl
          | true => exact absurd (any_beq.1 hh) hi
        obtain ⟨y, hy1, hy2⟩ := hprat i b h2
        have hyp := hun i h1 hany
        rw [hy1] at hyp
        obtain ⟨a1, a2⟩ := inv_alive hy2
        refine ⟨y, hyp, .inr ⟨a1, st.get b, g2 i b hi h2, a2, ?_⟩⟩
        have hcl := cleanOK_at rho 0 t4 i b h2 (by rw [Nat.zero_add]; exact hany)
        have hpp : ∀ b i, posOf rho 0 b = some i → R[i]? = some b := by
          intro b i hp
          obtain ⟨_, q⟩ := posOf_some _ _ _ _ hp
          exact Rrho i b q
        cases hsb : st.get b with
        | cells cs =>
          rw [hsb] at hy2 hcl
          simp only [Blk.inv, Option.some.injEq] at hy2
          subst hy2
          simp only [Blk.ren, clean_rens hpp cs hcl]
        | map ms =>
          rw [hsb] at hy2 hcl
          simp only [Blk.inv, Option.some.injEq] at hy2
          subst hy2
          simp only [Blk.ren, List.map_map, Option.some.injEq, Blk.map.injEq]
          refine (List.map_congr_left fun e he => ?_).trans (List.map_id _)
          have := List.all_eq_true.1 hcl e he
          simp only [Function.comp, clean_ren hpp e.2 this, id]
        | loop s p f t qs a b' d => rw [hsb] at hcl; simp [Blk.clean] at hcl
        | defd t => rw [hsb] at hy2; simp only [Blk.inv, Option.some.injEq] at hy2; subst hy2; rfl
        | dead => rw [hsb] at hy2; cases hy2
    · have hil : i < post'.length := by omega
      obtain ⟨y, hy, hyr⟩ := hpat i _ (List.getElem?_eq_getElem hil)
      refine ⟨y, hy, .inl ⟨_, hyr, ?_⟩⟩
      rw [h3]
      exact g3 i _ h1 (List.getElem?_eq_getElem hil)
  have blk' : ∀ (i b : Nat), R[i]? = some b → ∃ y, post[i]? = some y ∧ Blk.ren R y = some ((upSt st rho lend wr keep post').get b) := by
    intro i b h
    obtain ⟨y, hy, h | ⟨_, x, h1, _, h2⟩⟩ := blk i b h
    · obtain ⟨x, h1, h2⟩ := h; exact ⟨y, hy, by rw [h2]; exact h1⟩
    · exact ⟨y, hy, by rw [h1]; exact h2⟩
  have dead_ren : ∀ y, Blk.ren R y = some .dead → y = .dead := by
    intro y h
    cases y <;> simp only [Blk.ren] at h
    case loop s p f t qs a b d => split at h <;> cases h
    all_goals first | rfl | cases h
  have Rlt : ∀ (i b : Nat), R[i]? = some b → b < st.next + (post.length - rho.length) := by
    intro i b h
    rcases Rcase i b h with ⟨_, h2⟩ | ⟨_, h2, h3⟩
    · have := hlt b (List.mem_of_getElem? h2); omega
    · omega
  have hhp : ∀ b x, (upSt st rho lend wr keep post').hp b = some x → b < st.next + (post.length - rho.length) ∧ (upSt st rho lend wr keep post').get b = x := by
    intro b x h
    unfold St.hp at h
    rw [hnx] at h
    split at h
    · rename_i hb; cases h; exact ⟨hb, rfl⟩
    · cases h
  have newR : ∀ b, st.next ≤ b → b < st.next + (post.length - rho.length) → posOf R 0 b ≠ none := by
    intro b h1 h2 h3
    have : R[rho.length + (b - st.next)]? = some b := by
      rw [Rat, if_neg (by omega), if_pos (by omega)]
      congr 1
      omega
    exact posOf_none _ _ _ h3 (List.mem_of_getElem? this)
  refine ⟨fun b hb => ?_, fun b hb => ?_, fun b x hb hx => ?_, fun b b' c o cap sz o' cap' sz' h h' => ?_, fun c hc => ?_, fun c hc hX => ?_, fun c hc => Nat.lt_of_lt_of_le (H.xlt c hc) hE.size⟩
  · have hbn : st.next + (post.length - rho.length) ≤ b := by
      unfold St.hp at hb
      rw [hnx] at hb
      split at hb
      · cases hb
      · omega
    have hp : posOf R 0 b = none := by
      cases hp : posOf R 0 b with
      | none => rfl
      | some i =>
        obtain ⟨_, h2⟩ := posOf_some _ _ _ _ hp
        have := Rlt i b h2; omega
    rw [hLelse b hp (.inr fun h => by have := hltl b h; omega)]
    exact H.out b (hp_none (by omega))
  · obtain ⟨hbn, hg⟩ := hhp b _ hb
    cases hp : posOf R 0 b with
    | some i =>
      obtain ⟨_, h2⟩ := posOf_some _ _ _ _ hp
      rw [hLat i b h2]
      obtain ⟨y, hy, hyr⟩ := blk' i b h2
      rw [hg] at hyr
      have := dead_ren y hyr
      subst this
      exact H'.dead i hy
    | none =>
      by_cases hk : keep = false ∧ b ∈ lend
      · exact hLkill b hk.1 hk.2
      · have hk' : keep = true ∨ b ∉ lend := by
          cases hkk : keep
          · exact .inr fun hb => hk ⟨hkk, hb⟩
          · exact .inl rfl
        have hbs : b < st.next := by
          apply Classical.byContradiction
          intro hh
          exact newR b (Nat.not_lt.1 hh) hbn hp
        rw [hLelse b hp hk']
        rw [g4 b hbs (nrho b hp) hk'] at hg
        exact H.dead b (by simp [St.hp, hbs, hg])
  · obtain ⟨hbn, hg⟩ := hhp b _ hb
    cases hp : posOf R 0 b with
    | some i =>
      obtain ⟨_, h2⟩ := posOf_some _ _ _ _ hp
      obtain ⟨y, hy, hyr⟩ := blk' i b h2
      rw [hg] at hyr
      have hya : y.alive = true := by cases y <;> first | rfl | (simp only [Blk.ren, Option.some.injEq] at hyr; subst hyr; cases hx)
      obtain ⟨c, o, cap, sz, k1, k2⟩ := H'.blk i y hy hya
      exact ⟨c, o, cap, sz, by rw [hLat i b h2]; exact k1, ren_blk out hRL k2 hyr (imm y (List.mem_of_getElem? hy))⟩
    | none =>
      have hk' : keep = true ∨ b ∉ lend := by
        cases hkk : keep
        · refine .inr fun hbl => ?_
          rw [g5 b hkk hbl] at hg
          subst hg; cases hx
        · exact .inl rfl
      have hbs : b < st.next := by
        apply Classical.byContradiction
        intro hh
        exact newR b (Nat.not_lt.1 hh) hbn hp
      rw [g4 b hbs (nrho b hp) hk'] at hg
      obtain ⟨c, o, cap, sz, k1, k2⟩ := H.blk b x (by simp [St.hp, hbs, hg]) hx
      refine ⟨c, o, cap, sz, by rw [hLelse b hp hk']; exact k1, k2.lift hEX.lift ?_⟩
      exact hE.same c (H.lt c ⟨b, o, cap, sz, k1⟩) (notlow b c o cap sz (nrho b hp) k1)
  · have cross : ∀ (i b c o cap sz o' cap' sz' : Nat), R[i]? = some b → L0' i = .live c o cap sz → b' ∉ rho → L b' = .live c o' cap' sz' → False := by
      intro i b c o cap sz o' cap' sz' q1 q2 q3 q4
      have hcs := H.lt c ⟨b', _, _, _, q4⟩
      rcases hE.own c ⟨i, _, _, _, q2⟩ with q | q
      · exact notlow b' c _ _ _ q3 q4 q
      · omega
    have cross' : ∀ (i b0 c o cap sz o' cap' sz' : Nat), R[i]? = some b0 → L0' i = .live c o cap sz → b ∉ rho → L b = .live c o' cap' sz' → False := by
      intro i b0 c o cap sz o' cap' sz' q1 q2 q3 q4
      have hcs := H.lt c ⟨b, _, _, _, q4⟩
      rcases hE.own c ⟨i, _, _, _, q2⟩ with q | q
      · exact notlow b c _ _ _ q3 q4 q
      · omega
    rcases live b c o cap sz h with ⟨i, h1, h2⟩ | ⟨h1, h2, h3⟩ <;> rcases live b' c o' cap' sz' h' with ⟨j, h4, h5⟩ | ⟨h4, h5, h6⟩
    · have := H'.inj _ _ _ _ _ _ _ _ _ h2 h5
      subst this
      rw [h1] at h4; cases h4; rfl
    · exact (cross i b c o cap sz o' cap' sz' h1 h2 h4 h6).elim
    · exact (cross' j b' c o' cap' sz' o cap sz h4 h5 h1 h3).elim
    · exact H.inj _ _ _ _ _ _ _ _ _ h3 h6
  · rcases own c hc with h | ⟨b, o, cap, sz, _, _, h⟩
    · exact H'.lt c h
    · exact Nat.lt_of_lt_of_le (H.lt c ⟨b, o, cap, sz, h⟩) hE.size
  · rcases own c hc with h | ⟨b, o, cap, sz, _, _, h⟩
    · exact H'.far c h (.inl hX)
    · exact H.far c ⟨b, o, cap, sz, h⟩ hX
end
end Go.Sy

/- One operation that has effects, in a frame. -/
set_option linter.unusedVariables false
set_option linter.unusedSimpArgs false
namespace Go.Sy

section
variable {P : Program} {tb : Tab} {X : Nat → Prop} {L : Loc} {w : World} {st : St} {ρ : Operand → AV} {ρc : Operand → Value}

theorem callV_enter {f : AV} {args : List AV} {g : Nat} {as : List AV} {st' : St} (h : aCallV st f args = .enter g as st') : ∃ first cap, f = .fn (.func g) first cap ∧ as = first ++ args ++ cap := by
  unfold aCallV at h
  split at h
  · cases h; exact ⟨_, _, rfl, rfl⟩
  · cases h
  · cases h
theorem callV_yield {f : AV} {args : List AV} {l : Nat} {as : List AV} {st' : St} (h : aCallV st f args = .yield l as st') : f = .fn (.yield l) [] [] ∧ as = args := by
  unfold aCallV at h
  split at h
  · cases h
  · cases h; exact ⟨rfl, rfl⟩
  · cases h

theorem VRel.func_inv {g : Nat} {first cap : List AV} {x : Value} (h : VRel X L w (.fn (.func g) first cap) x) : ∃ fs cs, x = .func (.func g) fs cs ∧ VRels X L w first fs.toList ∧ VRels X L w cap cs.toList := by
  cases h with
  | fn h1 h2 h3 h4 =>
    exact ⟨_, _, rfl, ⟨by simpa using h1, fun j v x hj hx => h3 j v x hj (by simpa using hx)⟩, ⟨by simpa using h2, fun j v x hj hx => h4 j v x hj (by simpa using hx)⟩⟩

theorem eStore_kind (t : Nat) (a x : Operand) : (∃ v s, eStore tb st ρ t a x = .val v s) ∨ eStore tb st ρ t a x = .stuck := by
  unfold eStore
  repeat' split
  all_goals first | exact .inr rfl | exact .inl ⟨_, _, rfl⟩
theorem eMap_kind (t : Nat) (m k x : Operand) : (∃ v s, eMap tb st ρ t m k x = .val v s) ∨ eMap tb st ρ t m k x = .stuck := by
  unfold eMap
  repeat' split
  all_goals first | exact .inr rfl | exact .inl ⟨_, _, rfl⟩
theorem eDefer_kind (c : Call) : (∃ v, eDefer st ρ c = .defer v st) ∨ eDefer st ρ c = .stuck := by
  unfold eDefer
  repeat' split
  all_goals first | exact .inr rfl | exact .inl ⟨_, rfl⟩
theorem ePanic_kind (x : AV) : (∃ v, ePanic st x = .pan v st) ∨ ePanic st x = .stuck := by
  unfold ePanic
  repeat' split
  all_goals first | exact .inr rfl | exact .inl ⟨_, rfl⟩
theorem builtin_kind (b : Builtin) (ts : List Nat) (xs : List AV) : (∃ v s, aBuiltin tb st b ts xs = .val v s) ∨ aBuiltin tb st b ts xs = .stuck ∨ (b = .recover ∧ aBuiltin tb st b ts xs = .recov st) := by
  unfold aBuiltin
  split
  · unfold bAppend
    repeat' split
    all_goals first | exact .inr (.inl rfl) | exact .inl ⟨_, _, rfl⟩
  · unfold bCopy
    repeat' split
    all_goals first | exact .inr (.inl rfl) | exact .inl ⟨_, _, rfl⟩
  · unfold bClear
    repeat' split
    all_goals first | exact .inr (.inl rfl) | exact .inl ⟨_, _, rfl⟩
  · exact .inr (.inr ⟨rfl, rfl⟩)
  · exact .inr (.inl rfl)

/-- a call of a function -/
theorem enter_ok (hT : TabOK P tb) (hρ : OpRel X L w ρ ρc) {o : Oper} {g : Nat} {as : List AV} {st' : St} (h : aEff tb st ρ o.op = .enter g as st') :
    st' = st ∧ (∃ c, o.op = .call c) ∧ ∃ xs : Array Value, VRels X L w as xs.toList ∧ ∀ fn, tb.funcs.get? g = some fn → fn.body.isSome = true → (execOp ρc o).run P w = .ok (.enter g xs) w := by
  refine ⟨aEff_st (by rw [h]; rfl) (by rw [h]; simp), ?_⟩
  cases hop : o.op <;> rw [hop] at h <;> simp only [aEff] at h
  case call c =>
    refine ⟨⟨c, rfl⟩, ?_⟩
    unfold eCall at h
    split at h
    · rename_i f hc
      obtain ⟨first, cap, hf, rfl⟩ := callV_enter h
      have hv := hρ f
      rw [hf] at hv
      obtain ⟨fs, cs, hx, h1, h2⟩ := hv.func_inv
      refine ⟨fs ++ c.args.map ρc ++ cs, ?_, fun fn hfn hb => ?_⟩
      · simp only [Array.toList_append]
        exact (h1.append (VRels.map hρ c.args)).append h2
      · simp only [execOp, hop, resolve, hc, hx, Deferred.ofValue, Sem.run_bind, Sem.run_pure, Result.andThen_ok, invoke]
        exact hT.call g fn hfn hb _ w
    · rename_i b hc
      rcases builtin_kind (tb := tb) (st := st) b c.argTypes.toList (c.args.toList.map ρ) with ⟨v, s, e⟩ | e | ⟨_, e⟩ <;> rw [e] at h <;> cases h
    · cases h
  case store t a x => rcases eStore_kind (tb := tb) (st := st) (ρ := ρ) t a x with ⟨v, s, e⟩ | e <;> rw [e] at h <;> cases h
  case mapUpdate t m k x => rcases eMap_kind (tb := tb) (st := st) (ρ := ρ) t m k x with ⟨v, s, e⟩ | e <;> rw [e] at h <;> cases h
  case insert t m k x => rcases eMap_kind (tb := tb) (st := st) (ρ := ρ) t m k x with ⟨v, s, e⟩ | e <;> rw [e] at h <;> cases h
  case defer c => rcases eDefer_kind (st := st) (ρ := ρ) c with ⟨v, e⟩ | e <;> rw [e] at h <;> cases h
  case panic x => rcases ePanic_kind (st := st) (ρ x) with ⟨v, e⟩ | e <;> rw [e] at h <;> cases h
  all_goals cases h

theorem defer_ok (hρ : OpRel X L w ρ ρc) {o : Oper} {d : ADef} {st' : St} (h : aEff tb st ρ o.op = .defer d st') :
    st' = st ∧ ∃ D, (execOp ρc o).run P w = .ok (.defer D) w ∧ DRel X L w d D := by
  refine ⟨aEff_st (by rw [h]; rfl) (by rw [h]; simp), ?_⟩
  cases hop : o.op <;> rw [hop] at h <;> simp only [aEff] at h
  case defer c =>
    unfold eDefer at h
    split at h
    · rename_i f hc
      split at h
      · rename_i g first cap hf
        cases h
        have hv := hρ f
        rw [hf] at hv
        obtain ⟨fs, cs, hx, h1, h2⟩ := hv.func_inv
        refine ⟨{ target := .fn (.func g) cs, args := fs ++ c.args.map ρc }, ?_, .call h2 ?_⟩
        · simp only [execOp, hop, resolve, hc, hx, Deferred.ofValue, Sem.run_bind, Sem.run_pure, Result.andThen_ok]
        · simp only [Array.toList_append]
          exact h1.append (VRels.map hρ c.args)
      · cases h
    · cases h
  case call c =>
    unfold eCall at h
    split at h
    · unfold aCallV at h; split at h <;> cases h
    · rename_i b hc
      rcases builtin_kind (tb := tb) (st := st) b c.argTypes.toList (c.args.toList.map ρ) with ⟨v, s, e⟩ | e | ⟨_, e⟩ <;> rw [e] at h <;> cases h
    · cases h
  case store t a x => rcases eStore_kind (tb := tb) (st := st) (ρ := ρ) t a x with ⟨v, s, e⟩ | e <;> rw [e] at h <;> cases h
  case mapUpdate t m k x => rcases eMap_kind (tb := tb) (st := st) (ρ := ρ) t m k x with ⟨v, s, e⟩ | e <;> rw [e] at h <;> cases h
  case insert t m k x => rcases eMap_kind (tb := tb) (st := st) (ρ := ρ) t m k x with ⟨v, s, e⟩ | e <;> rw [e] at h <;> cases h
  case panic x => rcases ePanic_kind (st := st) (ρ x) with ⟨v, e⟩ | e <;> rw [e] at h <;> cases h
  all_goals cases h

theorem recov_ok {o : Oper} {st' : St} (h : aEff tb st ρ o.op = .recov st') : st' = st ∧ (∃ c, o.op = .call c) ∧ (execOp ρc o).run P w = .ok .recover w := by
  refine ⟨aEff_st (by rw [h]; rfl) (by rw [h]; simp), ?_⟩
  cases hop : o.op <;> rw [hop] at h <;> simp only [aEff] at h
  case call c =>
    refine ⟨⟨c, rfl⟩, ?_⟩
    unfold eCall at h
    split at h
    · unfold aCallV at h; split at h <;> cases h
    · rename_i b hc
      rcases builtin_kind (tb := tb) (st := st) b c.argTypes.toList (c.args.toList.map ρ) with ⟨v, s, e⟩ | e | ⟨e1, e⟩ <;> rw [e] at h <;> first | (cases h; done) | skip
      subst e1
      simp only [execOp, hop, resolve, hc, Sem.run_bind, Sem.run_pure, Result.andThen_ok, invoke, builtin]
    · cases h
  case store t a x => rcases eStore_kind (tb := tb) (st := st) (ρ := ρ) t a x with ⟨v, s, e⟩ | e <;> rw [e] at h <;> cases h
  case mapUpdate t m k x => rcases eMap_kind (tb := tb) (st := st) (ρ := ρ) t m k x with ⟨v, s, e⟩ | e <;> rw [e] at h <;> cases h
  case insert t m k x => rcases eMap_kind (tb := tb) (st := st) (ρ := ρ) t m k x with ⟨v, s, e⟩ | e <;> rw [e] at h <;> cases h
  case defer c => rcases eDefer_kind (st := st) (ρ := ρ) c with ⟨v, e⟩ | e <;> rw [e] at h <;> cases h
  case panic x => rcases ePanic_kind (st := st) (ρ x) with ⟨v, e⟩ | e <;> rw [e] at h <;> cases h
  all_goals cases h

theorem pan_ok (hρ : OpRel X L w ρ ρc) {o : Oper} {v : AV} {st' : St} (h : aEff tb st ρ o.op = .pan v st') : st' = st ∧ (∀ c, o.op ≠ .defer c) ∧ ∃ x, (execOp ρc o).run P w = .halt (.panic x) w ∧ VRel X L w v x := by
  refine ⟨aEff_st (by rw [h]; rfl) (by rw [h]; simp), ?_⟩
  cases hop : o.op <;> rw [hop] at h <;> simp only [aEff] at h
  case panic x =>
    refine ⟨fun c => by simp, ?_⟩
    unfold ePanic at h
    split at h
    · rename_i t u hx
      cases h
      have hv := hρ x
      rw [hx] at hv
      refine ⟨ρc x, ?_, hv⟩
      cases hv' : ρc x <;> rw [hv'] at hv <;> first | (cases hv; done) | skip
      simp [execOp, hop, Instr.panic, goPanic, hv']
    · cases h
  case call c =>
    unfold eCall at h
    split at h
    · unfold aCallV at h; split at h <;> cases h
    · rename_i b hc
      rcases builtin_kind (tb := tb) (st := st) b c.argTypes.toList (c.args.toList.map ρ) with ⟨v, s, e⟩ | e | ⟨_, e⟩ <;> rw [e] at h <;> cases h
    · cases h
  case store t a x => rcases eStore_kind (tb := tb) (st := st) (ρ := ρ) t a x with ⟨v, s, e⟩ | e <;> rw [e] at h <;> cases h
  case mapUpdate t m k x => rcases eMap_kind (tb := tb) (st := st) (ρ := ρ) t m k x with ⟨v, s, e⟩ | e <;> rw [e] at h <;> cases h
  case insert t m k x => rcases eMap_kind (tb := tb) (st := st) (ρ := ρ) t m k x with ⟨v, s, e⟩ | e <;> rw [e] at h <;> cases h
  case defer c => rcases eDefer_kind (st := st) (ρ := ρ) c with ⟨v, e⟩ | e <;> rw [e] at h <;> cases h
  all_goals cases h

theorem yield_ok (hρ : OpRel X L w ρ ρc) {o : Oper} {l : Nat} {as : List AV} {st' : St} (h : aEff tb st ρ o.op = .yield l as st') {c o' cap sz : Nat} (hl : L l = .live c o' cap sz) :
    st' = st ∧ (∃ c, o.op = .call c) ∧ ∃ xs : Array Value, VRels X L w as xs.toList ∧ (execOp ρc o).run P w = (Instr.yield c xs).run P w := by
  refine ⟨aEff_st (by rw [h]; rfl) (by rw [h]; simp), ?_⟩
  cases hop : o.op <;> rw [hop] at h <;> simp only [aEff] at h
  case call c =>
    refine ⟨⟨c, rfl⟩, ?_⟩
    unfold eCall at h
    split at h
    · rename_i f hc
      obtain ⟨hf, rfl⟩ := callV_yield h
      have hv := hρ f
      rw [hf] at hv
      refine ⟨_, VRels.map hρ c.args, ?_⟩
      generalize hy : ρc f = y at hv
      cases hv with
      | fnY h1 =>
        rw [hl] at h1
        cases h1
        simp [execOp, hop, resolve, hc, hy, Deferred.ofValue, invoke]
      | fnD h1 _ => rw [hl] at h1; cases h1
    · rename_i b hc
      rcases builtin_kind (tb := tb) (st := st) b c.argTypes.toList (c.args.toList.map ρ) with ⟨v, s, e⟩ | e | ⟨_, e⟩ <;> rw [e] at h <;> cases h
    · cases h
  case store t a x => rcases eStore_kind (tb := tb) (st := st) (ρ := ρ) t a x with ⟨v, s, e⟩ | e <;> rw [e] at h <;> cases h
  case mapUpdate t m k x => rcases eMap_kind (tb := tb) (st := st) (ρ := ρ) t m k x with ⟨v, s, e⟩ | e <;> rw [e] at h <;> cases h
  case insert t m k x => rcases eMap_kind (tb := tb) (st := st) (ρ := ρ) t m k x with ⟨v, s, e⟩ | e <;> rw [e] at h <;> cases h
  case defer c => rcases eDefer_kind (st := st) (ρ := ρ) c with ⟨v, e⟩ | e <;> rw [e] at h <;> cases h
  case panic x => rcases ePanic_kind (st := st) (ρ x) with ⟨v, e⟩ | e <;> rw [e] at h <;> cases h
  all_goals cases h
end
end Go.Sy

/- One operation that has effects, step by step. -/
set_option linter.unusedVariables false
set_option linter.unusedSimpArgs false
namespace Go.Sy

def putT (a : Array Value) (dst : Option Nat) (v : Value) : Array Value :=
  match dst with
  | some d => a.setIfInBounds d v
  | none => a
theorem putT_size (a : Array Value) (d : Option Nat) (v : Value) : (putT a d v).size = a.size := by
  unfold putT; split <;> simp

section
variable {P : Program} {F : Frame} {cs : List Frame} {w w' : World} {ops : Array Oper} {i : Nat} {rest : List Nat} {k : List Item} {o : Oper}

theorem finish_op (ht : F.todo = .inRegion ops (i :: rest) :: k) (ho : ops[i]? = some o) (v : Value) : F.finish v = { F with tmps := putT F.tmps o.dst v, todo := .inRegion ops rest :: k } := by
  simp only [Frame.finish, ht, ho, Option.bind_some, putT]
  split <;> simp_all
theorem stepG_oper (hm : F.mode = .run) (ht : F.todo = .inRegion ops (i :: rest) :: k) (ho : ops[i]? = some o) (hw : Region.wanted o (yielded ops F.tmps) = true) (hd : F.roundOf = none ∨ ∀ c, o.op ≠ .defer c) :
    stepG P true { frame := F, callers := cs, status := .running, dying := none } w = stepG.apply P true F cs none (execOp F.eval o) w := by
  rcases hd with hd | hd
  · simp [stepG, stepG.exec, stepG.oper, Frame.oper?, hm, ht, ho, hw, hd]
  · cases hr : F.roundOf with
    | none => simp [stepG, stepG.exec, stepG.oper, Frame.oper?, hm, ht, ho, hw, hr]
    | some l =>
      cases hop : o.op <;> first | exact absurd hop (hd _) | simp [stepG, stepG.exec, stepG.oper, Frame.oper?, hm, ht, ho, hw, hr, hop]

theorem st_val (hm : F.mode = .run) (ht : F.todo = .inRegion ops (i :: rest) :: k) (ho : ops[i]? = some o) (hw : Region.wanted o (yielded ops F.tmps) = true) (hd : F.roundOf = none ∨ ∀ c, o.op ≠ .defer c) {nx : Next} {x : Value}
    (hr : (execOp F.eval o).run P w = .ok nx w') (hx : nx = .value x ∨ (nx = .skip ∧ x = undef)) :
    step P (lone F cs w) = .next (lone { F with tmps := putT F.tmps o.dst x, todo := .inRegion ops rest :: k } cs w') := by
  rw [← finish_op ht ho]
  refine step_lone_go ?_
  rw [stepG_oper hm ht ho hw hd]
  rcases hx with rfl | ⟨rfl, rfl⟩ <;> simp [stepG.apply, hr]
theorem st_skipped (hm : F.mode = .run) (ht : F.todo = .inRegion ops (i :: rest) :: k) (ho : ops[i]? = some o) (hw : Region.wanted o (yielded ops F.tmps) = false) :
    step P (lone F cs w) = .next (lone { F with tmps := putT F.tmps o.dst undef, todo := .inRegion ops rest :: k } cs w) := by
  rw [← finish_op ht ho]
  exact step_lone_go (by simp [stepG, stepG.exec, hm, ht, ho, hw])
theorem st_defer (hm : F.mode = .run) (ht : F.todo = .inRegion ops (i :: rest) :: k) (ho : ops[i]? = some o) (hw : Region.wanted o (yielded ops F.tmps) = true) (hd : F.roundOf = none) {D : Deferred}
    (hr : (execOp F.eval o).run P w = .ok (.defer D) w') :
    step P (lone F cs w) = .next (lone { F with tmps := putT F.tmps o.dst undef, todo := .inRegion ops rest :: k, defers := D :: F.defers } cs w') := by
  refine step_lone_go ?_
  rw [stepG_oper hm ht ho hw (.inl hd)]
  have := finish_op (F := { F with defers := D :: F.defers }) ht ho undef
  simp [stepG.apply, hr, this]
theorem st_enter (hm : F.mode = .run) (ht : F.todo = .inRegion ops (i :: rest) :: k) (ho : ops[i]? = some o) (hw : Region.wanted o (yielded ops F.tmps) = true) (hd : F.roundOf = none ∨ ∀ c, o.op ≠ .defer c) {f : Nat} {xs : Array Value}
    (hr : (execOp F.eval o).run P w = .ok (.enter f xs) w') :
    step P (lone F cs w) = .next (lone (Frame.enter P f xs .normal) (F :: cs) w') := by
  refine step_lone_go ?_
  rw [stepG_oper hm ht ho hw hd]
  simp [stepG.apply, hr, ht]
theorem st_round (hm : F.mode = .run) (ht : F.todo = .inRegion ops (i :: rest) :: k) (ho : ops[i]? = some o) (hw : Region.wanted o (yielded ops F.tmps) = true) (hd : F.roundOf = none ∨ ∀ c, o.op ≠ .defer c) {l f : Nat} {ts : Array Value} {a b : Code}
    (hr : (execOp F.eval o).run P w = .ok (.round l f ts a b) w') :
    step P (lone F cs w) = .next (lone (Frame.round l f ts a b .normal) (F :: cs) w') := by
  refine step_lone_go ?_
  rw [stepG_oper hm ht ho hw hd]
  simp [stepG.apply, hr, ht]
theorem st_panic (hm : F.mode = .run) (ht : F.todo = .inRegion ops (i :: rest) :: k) (ho : ops[i]? = some o) (hw : Region.wanted o (yielded ops F.tmps) = true) (hd : F.roundOf = none ∨ ∀ c, o.op ≠ .defer c) {x : Value}
    (hr : (execOp F.eval o).run P w = .halt (.panic x) w') :
    step P (lone F cs w) = .next (lone { F with mode := .panicking [{ v := x, recovered := false }] } cs w') := by
  refine step_lone_go ?_
  rw [stepG_oper hm ht ho hw hd]
  simp [stepG.apply, hr, Frame.raise, hm]
theorem st_recover (hm : F.mode = .run) (ht : F.todo = .inRegion ops (i :: rest) :: k) (ho : ops[i]? = some o) (hw : Region.wanted o (yielded ops F.tmps) = true) (hd : F.roundOf = none)
    (hr : (execOp F.eval o).run P w = .ok .recover w') {x : Value} {cs' : List Frame} (hx : tryRecover F cs = some (x, cs') ∨ (tryRecover F cs = none ∧ x = .nilIface ∧ cs' = cs)) :
    step P (lone F cs w) = .next (lone { F with tmps := putT F.tmps o.dst x, todo := .inRegion ops rest :: k } cs' w') := by
  rw [← finish_op ht ho]
  refine step_lone_go ?_
  rw [stepG_oper hm ht ho hw (.inl hd)]
  rcases hx with hx | ⟨hx, rfl, rfl⟩ <;> simp [stepG.apply, hr, hd, hx]
end

section
variable {P : Program} {tb : Tab} {rec : Cmd → St → Ex} {X : Nat → Prop} {L : Loc} {w : World} {F : Frame} {cs : List Frame}

/-- what an effect comes to, for the machine -/
def EffOut (P : Program) (X : Nat → Prop) (L : Loc) (w : World) (F : Frame) (cs : List Frame) (ops : Array Oper) (o : Oper) (rest : List Nat) (k : List Item) (fr : Fr) : Eff → Prop
  | .val v fr' bel' st' => fr'.tmps = fr.tmps ∧ fr'.fn = fr.fn ∧ fr'.round = fr.round ∧ ∃ x L' w' ds cs', Steps P (lone F cs w) (lone { F with tmps := putT F.tmps o.dst x, todo := .inRegion ops rest :: k, defers := ds } cs' w') ∧
      Ext L w L' w' ∧ HRel X L' st'.hp w' ∧ VRel X L' w' v x ∧ DRels X L' w' fr'.defs ds ∧ BelR X L' w' bel' F.kind cs' ∧ Unders F.kind cs cs'
  | .pan v bel' st' => ∃ ch L' w' cs', Steps P (lone F cs w) (lone { F with mode := .panicking ch } cs' w') ∧ Ext L w L' w' ∧ HRel X L' st'.hp w' ∧ ChainR X L' w' v false ch ∧ BelR X L' w' bel' F.kind cs' ∧ Unders F.kind cs cs'
  | .err _ => True

def endOut : End → Out
  | .ret v => .done v
  | .pan v => .pan v
/-- a run of a function, from a small state -/
def CallSpec (P : Program) (f : Nat) (args : List AV) (pre : List Blk) (r : End) (post : List Blk) : Prop := ∀ (X : Nat → Prop) (L : Loc) (w : World) (xs : Array Value) (cs : List Frame), HRel X L (hpL pre) w → VRels X L w args xs.toList →
  ∃ L' w' F', Steps P (lone (Frame.enter P f xs .normal) cs w) (lone F' cs w') ∧ Ext L w L' w' ∧ HRel X L' (hpL post) w' ∧ F'.kind = .normal ∧ LeaveR P X L' w' F' (endOut r)
/-- a run of a piece of code, from a small state -/
def FragSpec (P : Program) (fn : Nat) (c : Code) (slots : List (Nat × AV)) (pre : List Blk) (out : Out) (outs : List (Nat × AV)) (post : List Blk) : Prop := ∀ (X : Nat → Prop) (L : Loc) (w : World) (F : Frame) (k : List Item) (cs : List Frame), HRel X L (hpL pre) w →
  F.fn = fn → F.defers = [] → F.roundOf = none → F.kind = .normal → F.mode = .run → F.todo = .code c :: k → codeOK F.tmps.size c = true → (∀ e ∈ slots, ∃ x, F.tmps[e.1]? = some x ∧ VRel X L w e.2 x) →
  ∃ L' w' F', Steps P (lone F cs w) (lone F' cs w') ∧ Ext L w L' w' ∧ HRel X L' (hpL post) w' ∧ F'.fn = fn ∧ F'.kind = .normal ∧ F'.roundOf = none ∧ F'.tmps.size = F.tmps.size ∧ F'.defers = [] ∧ (∀ e ∈ outs, ∃ x, F'.tmps[e.1]? = some x ∧ VRel X L' w' e.2 x) ∧ OutR X L' w' F' k out
/-- what is told ahead is so -/
structure SpecOK (P : Program) (tb : Tab) : Prop where
  call : ∀ f args pre r post, tb.spec f args pre r post → (∃ fn, tb.funcs.get? f = some fn ∧ fn.body.isSome = true) ∧ CallSpec P f args pre r post
  frag : ∀ fn c slots pre out outs post, tb.frag fn c slots pre out outs post → FragSpec P fn c slots pre out outs post

theorem leave_done {F' : Frame} {v : AV} {L' : Loc} {w' : World} (h : LeaveR P X L' w' F' (.done v)) (hk : F'.kind = .normal) : ∃ x, F'.leaving P w' (.returned x) ∧ VRel X L' w' v x := by
  obtain ⟨h1, h2, _, fn, h3, x, h4, h5⟩ := h
  exact ⟨x, ⟨h1, h2, hk, fn, h3, h4⟩, h5⟩
theorem leave_pan {F' : Frame} {v : AV} {L' : Loc} {w' : World} (h : LeaveR P X L' w' F' (.pan v)) : ∃ ch, F'.leaving P w' (.panicked ch) ∧ ChainR X L' w' v false ch := by
  obtain ⟨ch, h1, h2, _, h3, h4⟩ := h
  exact ⟨ch, ⟨h1, h2, h3⟩, h4⟩

theorem not_defer {op : Op} {r : R} {st : St} {ρ : Operand → AV} (h : aEff tb st ρ op = r) (hr : ∀ d s, r ≠ .defer d s) (hs : r ≠ .stuck) : ∀ c, op ≠ .defer c := by
  rintro c rfl
  simp only [aEff] at h
  rcases eDefer_kind (st := st) (ρ := ρ) c with ⟨v, e⟩ | e <;> rw [e] at h
  · exact hr _ _ h.symm
  · exact hs h.symm

theorem hp_log (st : St) (l : Log) : ({ st with log := l } : St).hp = st.hp := rfl

theorem eff_call {ops : Array Oper} {i : Nat} {rest : List Nat} {k : List Item} {o : Oper} (ih : RecOK P rec) {fr : Fr} {bel : Below} {st : St} {e : Eff} {f : Nat} {args : List AV} (he : evCall rec f args fr bel st = e) (hobl : ∀ s, e.st? = some s → AllObl s.obl)
    (hm : F.mode = .run) (ht : F.todo = .inRegion ops (i :: rest) :: k) (ho : ops[i]? = some o)
    (H : HRel X L st.hp w) (hds : DRels X L w fr.defs F.defers) (hb : BelR X L w bel F.kind cs) {xs : Array Value} (hxs : VRels X L w args xs.toList)
    (hst : step P (lone F cs w) = .next (lone (Frame.enter P f xs .normal) (F :: cs) w)) : EffOut P X L w F cs ops o rest k fr e := by
  unfold evCall at he
  split at he
  · rename_i v fr1 bel1 st1 h1
    subst he
    have ho1 : AllObl st1.obl := by have hh := hobl _ rfl; exact hh
    obtain ⟨L', w', F', cs', s1, hE, hH, hfn, hk, hu, _, hl⟩ := ih.call _ _ _ _ _ h1 X L w xs .normal (F :: cs) H ho1 hxs rfl
    have hcs := hu.normal
    subst hcs
    obtain ⟨x, hx, hv⟩ := leave_done hl hk
    refine ⟨rfl, rfl, rfl, x, L', w', F.defers, cs, ?_, hE, hH, hv, hds.mono hE, hb.mono hE, .refl _ _⟩
    have s2 := step_leave_returned (c := F) (cs := cs) hx
    rw [finish_op ht ho] at s2
    exact .head hst (s1.trans (.one s2))
  · rename_i v fr1 bel1 st1 h1
    subst he
    have ho1 : AllObl st1.obl := by have hh := hobl _ rfl; exact hh
    obtain ⟨L', w', F', cs', s1, hE, hH, hfn, hk, hu, _, hl⟩ := ih.call _ _ _ _ _ h1 X L w xs .normal (F :: cs) H ho1 hxs rfl
    have hcs := hu.normal
    subst hcs
    obtain ⟨ch, hx, hv⟩ := leave_pan hl
    refine ⟨ch, L', w', cs, ?_, hE, hH, hv, hb.mono hE, .refl _ _⟩
    have s2 := step_leave_panicked (c := F) (cs := cs) hx
    have e2 : F.raise ch = { F with mode := .panicking ch } := by simp [Frame.raise, hm]
    rw [e2] at s2
    exact .head hst (s1.trans (.one s2))
  · subst he; trivial
  · subst he; trivial
end
end Go.Sy

/- A round of a loop over a function. -/
set_option linter.unusedVariables false
set_option linter.unusedSimpArgs false
namespace Go.Sy

section
variable {P : Program} {F G : Frame} {cs : List Frame} {w : World} {c : Nat} {r : Loop} {k : List Item}

def setLoop (w : World) (c : Nat) (r : Loop) : World := { w with heap := w.heap.setIfInBounds c (.loop r) }

theorem run_begin (h : w.heap[c]? = some (.loop r)) (hs : r.state = .ready) : (Instr.beginRound c).run P w = .ok () (setLoop w c { r with state := .busy }) := by
  have hg : (getObj c).run P w = .ok (.loop r) w := by simp [getObj, Sem.run, h]
  have hse : (setObj c (.loop { r with state := .busy })).run P w = .ok () (setLoop w c { r with state := .busy }) := run_setObj h (by simp)
  simp only [Instr.beginRound, Instr.getLoop, Sem.run_bind, hg, Result.andThen_ok, Sem.run_pure, hse, hs]
theorem run_end (h : w.heap[c]? = some (.loop r)) (jump : Option Code) : (Instr.endRound c jump).run P w = .ok (.bool jump.isNone) (setLoop w c { r with state := if jump.isNone then .ready else .done, pending := jump }) := by
  have hg : (getObj c).run P w = .ok (.loop r) w := by simp [getObj, Sem.run, h]
  have hse := run_setObj (P := P) (o2 := .loop { r with state := if jump.isNone then .ready else .done, pending := jump }) h (by simp)
  simp only [Instr.endRound, Instr.getLoop, Sem.run_bind, hg, Result.andThen_ok, Sem.run_pure, hse]
  rfl
theorem run_yield (h : w.heap[c]? = some (.loop r)) {xs : Array Value} (hs : xs.size = r.params.size) : (Instr.yield c xs).run P w = .ok (.round c r.fn ((r.params.zip xs).foldl (fun tmps (t, a) => tmps.setIfInBounds t a) r.tmps) r.assign r.body) w := by
  have hg : (getObj c).run P w = .ok (.loop r) w := by simp [getObj, Sem.run, h]
  simp only [Instr.yield, Instr.getLoop, Sem.run_bind, hg, Result.andThen_ok, Sem.run_pure, hs, ne_eq, not_true_eq_false, if_false]

theorem st_begin (hm : G.mode = .run) (ht : G.todo = .beginRound :: k) (hr : G.roundOf = some c) (h : w.heap[c]? = some (.loop r)) (hs : r.state = .ready) :
    step P (lone G cs w) = .next (lone { G with todo := k } cs (setLoop w c { r with state := .busy })) :=
  step_lone_go (by simp [stepG, stepG.exec, stepG.apply, hm, ht, hr, run_begin h hs, Frame.finish])

theorem st_leave (hm : G.mode = .run) (hr : G.roundOf = some c) (hk : G.kind = .normal) (h : w.heap[c]? = some (.loop r)) {jump : Option Code}
    (ht : (jump = none ∧ G.todo = []) ∨ (jump = some .ret ∧ ∃ k, G.todo = .code .ret :: k) ∨ (∃ i k, jump = some (.exit i) ∧ G.todo = .code (.exit i) :: k ∧ exitTo i k = none)) :
    step P (lone G (F :: cs) w) = .next (lone (F.finish (.bool jump.isNone)) cs (setLoop w c { r with state := if jump.isNone then .ready else .done, pending := jump })) := by
  refine step_lone_go ?_
  rcases ht with ⟨rfl, ht⟩ | ⟨rfl, k, ht⟩ | ⟨i, k, rfl, ht, hx⟩
  · simp [stepG, stepG.exec, hm, ht, hr, run_end h, doReturn, hk]
  · simp [stepG, stepG.exec, hm, ht, hr, run_end h, doReturn, hk]
  · simp [stepG, stepG.exec, hm, ht, hr, run_end h, doReturn, hk, hx]
end

section
variable {P : Program} {tb : Tab} {rec : Cmd → St → Ex} {X : Nat → Prop} {L : Loc} {w : World} {F : Frame} {cs : List Frame} {ρ : Operand → AV}

theorem setSlots_rel : ∀ (ps : List Nat) (args : List AV) (xs : List Value) (t : T AV) (ts : Array Value), TRel X L w t ts → VRels X L w args xs → ps.length = args.length → (∀ p ∈ ps, p < ts.size) →
    TRel X L w (setSlots t (ps.zip args)) ((ps.zip xs).foldl (fun tmps (t, a) => tmps.setIfInBounds t a) ts) ∧ ((ps.zip xs).foldl (fun tmps (t, a) => tmps.setIfInBounds t a) ts).size = ts.size := by
  intro ps
  induction ps with
  | nil => intro args xs t ts ht hx hl hp; exact ⟨by simpa [setSlots] using ht, rfl⟩
  | cons p ps ih =>
    intro args xs t ts ht hx hl hp
    cases args with
    | nil => simp at hl
    | cons a args =>
      obtain ⟨x, xs, rfl, h1, h2⟩ := hx.cons_inv
      have hps := hp p (List.mem_cons_self ..)
      have ht' : TRel X L w (t.set p (some a)) (ts.setIfInBounds p x) := by
        intro i v hi
        rw [T.get?_set] at hi
        by_cases e : i = p
        · subst e
          rw [if_pos rfl] at hi
          cases hi
          exact ⟨x, by simp [hps], h1⟩
        · rw [if_neg e] at hi
          obtain ⟨y, hy, hv⟩ := ht i v hi
          exact ⟨y, by rw [Array.getElem?_setIfInBounds_ne (Ne.symm e)]; exact hy, hv⟩
      have := ih args xs (t.set p (some a)) (ts.setIfInBounds p x) ht' h2 (by simpa using hl) (fun q hq => by simp; exact hp q (List.mem_cons_of_mem _ hq))
      simp only [List.zip_cons_cons, setSlots, List.foldl_cons]
      exact ⟨this.1, by rw [this.2]; simp⟩

/-- a loop's block written -/
theorem loop_put {h : Hp} (H : HRel X L h w) {b c o cap sz : Nat} (hL : L b = .live c o cap sz) {r : Loop} (hr : w.heap[c]? = some (.loop r)) (r' : Loop) {x : Blk} (hx : x.alive = true) (hB : BRel X L (setLoop w c r') c o cap sz x) :
    Ext L w L (setLoop w c r') ∧ HRel X L (Hp.set h b x) (setLoop w c r') := by
  have hs : (setLoop w c r').heap.size = w.heap.size := by simp [setLoop]
  have ho : ∀ k, k ≠ c → (setLoop w c r').heap[k]? = w.heap[k]? := by intro k hk; simp [setLoop, Array.getElem?_setIfInBounds, Ne.symm hk]
  exact ⟨Ext.put hL hs ho rfl rfl rfl, H.put hL hs ho rfl rfl rfl hx hB⟩
theorem setLoop_get {c : Nat} {r r' : Loop} (hr : w.heap[c]? = some (.loop r)) : (setLoop w c r').heap[c]? = some (.loop r') := by
  obtain ⟨hcl, -⟩ := Array.getElem?_eq_some_iff.1 hr
  simp [setLoop, hcl]

theorem eff_yield {ops : Array Oper} {i : Nat} {rest : List Nat} {k : List Item} {o : Oper} (ih : RecOK P rec) (hT : TabOK P tb) {fr : Fr} {bel : Below} {st : St} {e : Eff} {l : Nat} {args : List AV} (he : evYield tb rec l args fr bel st = e) (hobl : ∀ s, e.st? = some s → AllObl s.obl)
    (hm : F.mode = .run) (ht : F.todo = .inRegion ops (i :: rest) :: k) (ho : ops[i]? = some o) (hw : Region.wanted o (yielded ops F.tmps) = true)
    (H : HRel X L st.hp w) (hds : DRels X L w fr.defs F.defers) (hb : BelR X L w bel F.kind cs) (hρ : OpRel X L w ρ F.eval) {st1 : St} (hy : aEff tb st ρ o.op = .yield l args st1) : EffOut P X L w F cs ops o rest k fr e := by
  unfold evYield at he
  split at he
  · rename_i s0 p0 f t ps a b d0 hl0
    split at he
    · rename_i hlen
      split at he
      · rename_i fr1 bel1 st2 h1
        split at he
        · rename_i p' f' t' ps' a' b' d' hl1
          split at he
          · rename_i out fr2 bel2 st3 h2
            split at he
            · rename_i s3 p3 f3 t3 ps3 a3 b3 d3 hdefs hl3
              -- what is found
              have hal : (st.get l).alive = true := by rw [hl0]; rfl
              obtain ⟨c, oo, cap, sz, hL, hB⟩ := H.at (St.hp_some hal) hal
              rw [hl0] at hB
              obtain ⟨r, q1, q2, q3, q4, q5, q6, q7, q8, q9, q10, q11, q12⟩ := hB
              obtain ⟨_, ⟨cl, hcl⟩, xs, hxs, hrun⟩ := yield_ok (P := P) hρ hy hL
              have hnd : ∀ cc, o.op ≠ .defer cc := by intro cc hh; rw [hcl] at hh; cases hh
              have hsize : xs.size = r.params.size := by rw [q5]; have := hxs.1; simp at this ⊢; omega
              have hr1 : (execOp F.eval o).run P w = .ok (.round c r.fn ((r.params.zip xs).foldl (fun tmps (t, a) => tmps.setIfInBounds t a) r.tmps) r.assign r.body) w := by rw [hrun]; exact run_yield q1 hsize
              have s1 := st_round (cs := cs) hm ht ho hw (.inr hnd) hr1
              have hz : ((r.params.zip xs).foldl (fun tmps (t, a) => tmps.setIfInBounds t a) r.tmps) = ((ps.zip xs.toList).foldl (fun tmps (t, a) => tmps.setIfInBounds t a) r.tmps) := by
                rw [q5, ← Array.foldl_toList, Array.toList_zip]
              obtain ⟨hT1, hsz1⟩ := setSlots_rel ps args xs.toList t r.tmps q8 hxs hlen q12
              rw [hz, q4, q6, q7] at s1
              generalize hG : Frame.round c f ((ps.zip xs.toList).foldl (fun tmps (t, a) => tmps.setIfInBounds t a) r.tmps) a b .normal = G at s1
              have hGm : G.mode = .run := by rw [← hG]; rfl
              have hGt : G.todo = .code a :: [.beginRound, .code b] := by rw [← hG]; rfl
              have hGk : G.kind = .normal := by rw [← hG]; rfl
              have hGr : G.roundOf = some c := by rw [← hG]; rfl
              have hGs : G.tmps.size = r.tmps.size := by rw [← hG]; exact hsz1
              have hGf : FRel X L w { fn := f, tmps := setSlots t (ps.zip args), defs := [], round := some l } G := by
                refine ⟨by rw [← hG]; rfl, by rw [← hG]; exact hT1, by rw [← hG]; exact .nil, ?_⟩
                exact ⟨c, hGr, .inl ⟨_, _, _, hL⟩⟩
              have same : ∀ {L' : Loc} {w' : World} {stt : St} {s p f t ps a b d}, Ext L w L' w' → HRel X L' stt.hp w' → stt.get l = .loop s p f t ps a b d → L' l = .live c oo cap sz ∧ BRel X L' w' c oo cap sz (.loop s p f t ps a b d) ∧ l < stt.next := by
                intro L' w' stt s p f t ps a b d hE' H' hg
                have hal' : (stt.get l).alive = true := by rw [hg]; rfl
                obtain ⟨c', oo', cap', sz', hL', hB'⟩ := H'.at (St.hp_some hal') hal'
                rw [hg] at hB'
                have e1 := hE'.loc l (by rw [hL]; simp)
                rw [hL, hL'] at e1
                rcases e1 with e1 | e1
                · cases e1; exact ⟨hL', hB', St.alive_lt hal'⟩
                · cases e1
              have main : AllObl st3.obl → ∃ L2 w2 G2, Steps P (lone F cs w) (lone G2 (F :: cs) w2) ∧ Ext L w L2 w2 ∧ HRel X L2 st3.hp w2 ∧ FRel X L2 w2 fr2 G2 ∧ G2.kind = .normal ∧ G2.roundOf = some c ∧ OutR X L2 w2 G2 [] out := by
                intro hoe
                have ho2 : AllObl st2.obl := (ih.adv _ _ _ h2).all hoe
                obtain ⟨L1, w1, G1, cs1, l1, hf1, hb1, o1⟩ := ih.code _ _ _ _ _ h1 X L w G [.beginRound, .code b] (F :: cs) H ho2 hGf hGm hGt (by rw [hGs]; exact q10) hGk
                have hu1 := l1.und
                rw [hGk] at hu1
                have hcs1 := hu1.normal
                subst hcs1
                obtain ⟨o1m, o1t⟩ := o1
                obtain ⟨hL1, hB1, hlt1⟩ := same l1.ext l1.heap hl1
                obtain ⟨r1, u1, u2, u3, u4, u5, u6, u7, u8, u9, u10, u11, u12⟩ := hB1
                have s2 := st_begin (P := P) (cs := F :: cs) o1m o1t (l1.round.trans hGr) u1 u2
                have hput := loop_put l1.heap hL1 u1 { r1 with state := .busy } (x := .loop .busy p' f' t' ps' a' b' d') rfl
                have hE1 : Ext L1 w1 L1 (setLoop w1 c { r1 with state := .busy }) := Ext.put hL1 (by simp [setLoop]) (by intro k hk; simp [setLoop, Array.getElem?_setIfInBounds, Ne.symm hk]) rfl rfl rfl
                obtain ⟨_, H1⟩ := hput ⟨_, setLoop_get u1, rfl, u3, u4, u5, u6, u7, u8.mono hE1, u9, u10, u11, u12⟩
                have H1' : HRel X L1 (st2.put l (.loop .busy p' f' t' ps' a' b' d') 0 whole).hp (setLoop w1 c { r1 with state := .busy }) := by rw [St.put_hp _ _ _ _ _ hlt1]; exact H1
                obtain ⟨L2, w2, G2, cs2, l2, hf2, hb2, o2⟩ := ih.code _ _ _ _ _ h2 X L1 _ { G1 with todo := [.code b] } [] (F :: cs) H1' hoe ((hf1.mono hE1).todo _ _) o1m rfl (by
                  show codeOK G1.tmps.size b = true
                  rw [l1.size, hGs]; exact q11) (l1.kind.trans hGk)
                have hu2 := l2.und
                have hk1 : ({ G1 with todo := [.code b] } : Frame).kind = .normal := l1.kind.trans hGk
                rw [hk1] at hu2
                have hcs2 := hu2.normal
                subst hcs2
                exact ⟨L2, w2, G2, .head s1 (l1.steps.trans (.head s2 l2.steps)), l1.ext.trans (hE1.trans l2.ext), l2.heap, hf2, l2.kind.trans hk1, l2.round.trans (l1.round.trans hGr), o2⟩
              have fin : ∀ (jump : Option Code) (s' : LoopState), s' = (if jump.isNone then .ready else .done) → AllObl st3.obl → (∀ L2 w2 G2, OutR X L2 w2 G2 [] out → G2.mode = .run ∧ ((jump = none ∧ G2.todo = []) ∨ (jump = some .ret ∧ ∃ k, G2.todo = .code .ret :: k) ∨ (∃ i k, jump = some (.exit i) ∧ G2.todo = .code (.exit i) :: k ∧ exitTo i k = none))) →
                  EffOut P X L w F cs ops o rest k fr (.val (.bool jump.isNone) fr bel (st3.put l (.loop s' jump f3 t3 ps3 a3 b3 d3) 0 whole)) := by
                intro jump s' hs' hoe hout
                obtain ⟨L2, w2, G2, t1, t2, t3', t4, t5, t6, t7⟩ := main hoe
                obtain ⟨g1, g2⟩ := hout _ _ _ t7
                obtain ⟨hL2, hB2, hlt2⟩ := same t2 t3' hl3
                obtain ⟨r2, u1, u2, u3, u4, u5, u6, u7, u8, u9, u10, u11, u12⟩ := hB2
                have s3 := st_leave (P := P) (F := F) (cs := cs) g1 t6 t5 u1 g2
                rw [finish_op ht ho] at s3
                have hE2 : Ext L2 w2 L2 (setLoop w2 c { r2 with state := if jump.isNone then .ready else .done, pending := jump }) := Ext.put hL2 (by simp [setLoop]) (by intro k hk; simp [setLoop, Array.getElem?_setIfInBounds, Ne.symm hk]) rfl rfl rfl
                obtain ⟨_, H2⟩ := loop_put t3' hL2 u1 { r2 with state := if jump.isNone then .ready else .done, pending := jump } (x := .loop s' jump f3 t3 ps3 a3 b3 d3) rfl ⟨_, setLoop_get u1, hs'.symm, rfl, u4, u5, u6, u7, u8.mono hE2, u9, u10, u11, u12⟩
                have hE := t2.trans hE2
                refine ⟨rfl, rfl, rfl, .bool jump.isNone, L2, _, F.defers, cs, t1.trans (.one s3), hE, ?_, .bool _, hds.mono hE, hb.mono hE, .refl _ _⟩
                rw [St.put_hp _ _ _ _ _ hlt2]; exact H2
              split at he
              · subst he
                exact fin none .ready rfl (by have hh := hobl _ rfl; exact hh) fun L2 w2 G2 ho2 => ⟨ho2.1, .inl ⟨rfl, ho2.2⟩⟩
              · rename_i ii
                subst he
                exact fin (some (.exit ii)) .done rfl (by have hh := hobl _ rfl; exact hh) fun L2 w2 G2 ho2 => by
                  obtain ⟨g1, j, g2, g3⟩ := ho2
                  exact ⟨g1, .inr (.inr ⟨ii, j ++ [], rfl, g2, by rw [g3]; rfl⟩)⟩
              · subst he
                exact fin (some .ret) .done rfl (by have hh := hobl _ rfl; exact hh) fun L2 w2 G2 ho2 => ⟨ho2.1, .inr (.inl ⟨rfl, ho2.2⟩)⟩
              · rename_i v
                split at he
                · rename_i fn hfn
                  subst he
                  obtain ⟨L2, w2, G2, t1, t2, t3', t4, t5, t6, ch, t7, t8⟩ := main (by have hh := hobl _ rfl; exact hh)
                  have hd2 : G2.defers = [] := by
                    have := t4.defs
                    rw [hdefs] at this
                    generalize G2.defers = ds at this
                    cases this; rfl
                  have hlv : G2.leaving P w2 (.panicked ch) := ⟨t7, hd2, fn, by rw [t4.fn]; exact hT.funcs _ _ hfn⟩
                  have s3 := step_leave_panicked (c := F) (cs := cs) hlv
                  have e2 : F.raise ch = { F with mode := .panicking ch } := by simp [Frame.raise, hm]
                  rw [e2] at s3
                  exact ⟨ch, L2, w2, cs, t1.trans (.one s3), t2, t3', t8, hb.mono t2, .refl _ _⟩
                · subst he; trivial
              · subst he; trivial
            · subst he; trivial
          · subst he; trivial
        · subst he; trivial
      · subst he; trivial
      · subst he; trivial
    · subst he; trivial
  · subst he; trivial
end
end Go.Sy

/- All operations that have effects. -/
set_option linter.unusedVariables false
set_option linter.unusedSimpArgs false
namespace Go.Sy

section
variable {P : Program} {tb : Tab} {rec : Cmd → St → Ex} {X : Nat → Prop} {L : Loc} {w : World} {F : Frame} {cs : List Frame} {ρ : Operand → AV}

theorem eff_ok {ops : Array Oper} {i : Nat} {rest : List Nat} {k : List Item} {o : Oper} (ih : RecOK P rec) (hT : TabOK P tb) (hS : SpecOK P tb) {fr : Fr} {bel : Below} {st : St} {e : Eff} (he : evEff tb rec o fr bel st = e) (hobl : ∀ s, e.st? = some s → AllObl s.obl)
    (hfun : ∀ f args b s r, rec (.call f args b) s = .ok r → ∃ fn, tb.funcs.get? f = some fn ∧ fn.body.isSome = true)
    (hm : F.mode = .run) (ht : F.todo = .inRegion ops (i :: rest) :: k) (ho : ops[i]? = some o) (hw : Region.wanted o (yielded ops F.tmps) = true)
    (H : HRel X L st.hp w) (hds : DRels X L w fr.defs F.defers) (hrd : fr.round = none → F.roundOf = none) (hb : BelR X L w bel F.kind cs) (hρ : OpRel X L w fr.eval F.eval) : EffOut P X L w F cs ops o rest k fr e := by
  unfold evEff at he
  split at he
  · rename_i v st1 ha
    subst he
    have hnd := not_defer ha (by simp) (by simp)
    obtain ⟨nx, x, w', L', h1, h2, h3, h4, h5⟩ := eff_val hT H hρ ha (hobl _ rfl)
    exact ⟨rfl, rfl, rfl, x, L', w', F.defers, cs, .one (st_val hm ht ho hw (.inr hnd) h1 h2), h3, h4, h5, hds.mono h3, hb.mono h3, .refl _ _⟩
  · rename_i f args st1 ha
    have hnd' := not_defer ha (by simp) (by simp)
    obtain ⟨rfl, _, xs, hxs, hrun⟩ := enter_ok (P := P) hT hρ ha
    have call : ∀ e, evCall rec f args fr bel st1 = e → (∀ s, e.st? = some s → AllObl s.obl) → EffOut P X L w F cs ops o rest k fr e := by
      intro e he hobl
      have hc : (∃ l, e = .err l) ∨ ∃ fn, tb.funcs.get? f = some fn ∧ fn.body.isSome = true := by
        unfold evCall at he
        split at he
        · rename_i h1; exact .inr (hfun _ _ _ _ _ h1)
        · rename_i h1; exact .inr (hfun _ _ _ _ _ h1)
        · exact .inl ⟨_, he.symm⟩
        · exact .inl ⟨_, he.symm⟩
      rcases hc with ⟨l, rfl⟩ | ⟨fn, hfn, hbody⟩
      · trivial
      · exact eff_call ih he hobl hm ht ho H hds hb hxs (st_enter hm ht ho hw (.inr hnd') (hrun fn hfn hbody))
    split at he
    · rename_i c rho lend wr r post tp htp
      rw [Bool.cond_eq_ite] at he
      split at he
      · unfold toldCall at he
        split at he
        · rename_i pre rho' st2 htold
          have main : AllObl (tb.spec f (args.map (seeV { st1 with tape := tp } rho lend)) pre r post :: Unch rho.length wr pre post :: st2.obl) →
              ∃ L' w' F', Steps P (lone F cs w) (lone F' (F :: cs) w') ∧ Ext L w L' w' ∧ HRel X L' st2.hp w' ∧ F'.kind = .normal ∧ (∃ L0 X0, LeaveR P X0 L0 w' F' (endOut r) ∧ ∀ v x, v ∈ endVs r → VRel X0 L0 w' v x → VRel X L' w' (AV.ren rho' v) x) := by
            intro hob
            have hs := hob _ (List.mem_cons_self ..)
            have hun : Unch rho.length wr pre post := hob _ (List.mem_cons_of_mem _ (List.mem_cons_self ..))
            obtain ⟨⟨fn, hfn, hbody⟩, hp⟩ := hS.call _ _ _ _ _ hs
            obtain ⟨post', t1, t2, t3, t4, t5, t6, t7⟩ := told_inv htold
            obtain ⟨hnd, _, _, _⟩ := rhoOK_inv t3
            have H1 : HRel X L ({ st1 with tape := tp } : St).hp w := H
            have hlow := down H1 hnd t1
            have hxs' : VRels (lowX X L rho lend) (lowL L rho) w (args.map (seeV { st1 with tape := tp } rho lend)) xs.toList := by
              refine ⟨by rw [List.length_map]; exact hxs.1, fun j v x hj hx => ?_⟩
              rw [List.getElem?_map, Option.map_eq_some_iff] at hj
              obtain ⟨u, hu, rfl⟩ := hj
              exact see_rel H1 hnd (hxs.2 j u x hu hx)
            obtain ⟨L0', w', F', s1, hE, hH, hk, hl⟩ := hp _ _ w xs (F :: cs) hlow hxs'
            obtain ⟨L', u1, u2, u3⟩ := up H1 htold hun hE hH
            exact ⟨L', w', F', .head (st_enter hm ht ho hw (.inr hnd') (hrun fn hfn hbody)) s1, u1, u2, hk, L0', _, hl, u3⟩
          split at he
          · rename_i v
            subst he
            obtain ⟨L', w', F', s1, hE, hH, hk, L0, X0, hl, hv⟩ := main (hobl _ rfl)
            obtain ⟨x, hx, hvx⟩ := leave_done hl hk
            have s2 := step_leave_returned (c := F) (cs := cs) hx
            rw [finish_op ht ho] at s2
            exact ⟨rfl, rfl, rfl, x, L', w', F.defers, cs, s1.trans (.one s2), hE, hH, hv _ _ (by simp [endVs]) hvx, hds.mono hE, hb.mono hE, .refl _ _⟩
          · rename_i v
            subst he
            obtain ⟨L', w', F', s1, hE, hH, hk, L0, X0, hl, hv⟩ := main (hobl _ rfl)
            obtain ⟨ch, hx, y, older, e1, e2, e3⟩ := leave_pan hl
            have s2 := step_leave_panicked (c := F) (cs := cs) hx
            have e4 : F.raise ch = { F with mode := .panicking ch } := by simp [Frame.raise, hm]
            rw [e4] at s2
            exact ⟨ch, L', w', cs, s1.trans (.one s2), hE, hH, ⟨y, older, e1, e2, hv _ _ (by simp [endVs]) e3⟩, hb.mono hE, .refl _ _⟩
        · subst he; trivial
      · exact call e he hobl
    · exact call e he hobl
  · rename_i l args st1 ha
    have hst : st1 = st := aEff_st (by rw [ha]; rfl) (by rw [ha]; simp)
    subst hst
    exact eff_yield ih hT he hobl hm ht ho hw H hds hb hρ ha
  · rename_i d st1 ha
    obtain ⟨rfl, D, hrun, hD⟩ := defer_ok (P := P) hρ ha
    split at he
    · rename_i hr
      subst he
      exact ⟨rfl, rfl, rfl, undef, L, w, D :: F.defers, cs, .one (st_defer hm ht ho hw (hrd hr) hrun), .refl _ _, H, undef_rel, .cons hD hds, hb, .refl _ _⟩
    · subst he; trivial
  · rename_i st1 ha
    obtain ⟨rfl, _, hrun⟩ := recov_ok (P := P) (w := w) (ρc := F.eval) ha
    split at he
    · rename_i hr
      have hrn := hrd hr
      cases bel with
      | none =>
        subst he
        have hk : F.kind = .normal := hb
        have : tryRecover F cs = none := by unfold tryRecover; rw [hk]
        exact ⟨rfl, rfl, rfl, .nilIface, L, w, F.defers, cs, .one (st_recover hm ht ho hw hrn hrun (.inr ⟨this, rfl, rfl⟩)), .refl _ _, H, .nili, hds, hb, .refl _ _⟩
      | returning =>
        subst he
        obtain ⟨hk, c, r, rfl, hc⟩ := hb
        have : tryRecover F (c :: r) = none := by unfold tryRecover; rw [hk]; simp [hc]
        exact ⟨rfl, rfl, rfl, .nilIface, L, w, F.defers, c :: r, .one (st_recover hm ht ho hw hrn hrun (.inr ⟨this, rfl, rfl⟩)), .refl _ _, H, .nili, hds, ⟨hk, c, r, rfl, hc⟩, .refl _ _⟩
      | panicking v q =>
        obtain ⟨hk, c, r, ch, rfl, hc, x, older, rfl, hold, hv⟩ := hb
        cases q with
        | false =>
          subst he
          have : tryRecover F (c :: r) = some (x, { c with mode := .panicking ({ v := x, recovered := true } :: older) } :: r) := by unfold tryRecover; rw [hk]; simp [hc]
          exact ⟨rfl, rfl, rfl, x, L, w, F.defers, _, .one (st_recover hm ht ho hw hrn hrun (.inl this)), .refl _ _, H, hv, hds, ⟨hk, _, r, _, rfl, rfl, x, older, rfl, hold, hv⟩, .inr ⟨hk, c, r, _, rfl, rfl⟩⟩
        | true =>
          subst he
          have : tryRecover F (c :: r) = none := by unfold tryRecover; rw [hk]; simp [hc]
          exact ⟨rfl, rfl, rfl, .nilIface, L, w, F.defers, c :: r, .one (st_recover hm ht ho hw hrn hrun (.inr ⟨this, rfl, rfl⟩)), .refl _ _, H, .nili, hds, ⟨hk, c, r, _, rfl, hc, x, older, rfl, hold, hv⟩, .refl _ _⟩
    · subst he; trivial
  · rename_i v st1 ha
    subst he
    obtain ⟨rfl, hnd, x, hrun, hv⟩ := pan_ok (P := P) hρ ha
    exact ⟨_, L, w, cs, .one (st_panic hm ht ho hw (.inr hnd) hrun), .refl _ _, H, ⟨x, [], rfl, by simp, hv⟩, hb, .refl _ _⟩
  · subst he; trivial
end
end Go.Sy

/- A region in the order of its text. -/
set_option linter.unusedVariables false
set_option linter.unusedSimpArgs false
namespace Go.Sy

section
variable {P : Program} {tb : Tab} {rec : Cmd → St → Ex} {X : Nat → Prop} {L : Loc} {w : World} {F : Frame} {cs : List Frame}

noncomputable def putA (t : T AV) (dst : Option Nat) (v : AV) : T AV :=
  match dst with
  | some d => t.set d (some v)
  | none => t
theorem put_rel {t : T AV} {ts : Array Value} (ht : TRel X L w t ts) {dst : Option Nat} (hd : ∀ d, dst = some d → d < ts.size) {v : AV} {x : Value} (hv : VRel X L w v x) :
    TRel X L w (putA t dst v) (putT ts dst x) := by
  cases dst with
  | none => exact ht
  | some d =>
    intro i u hi
    simp only [putA, T.get?_set] at hi
    simp only [putT]
    by_cases e : i = d
    · subst e
      rw [if_pos rfl] at hi
      cases hi
      exact ⟨x, by simp [hd i rfl], hv⟩
    · rw [if_neg e] at hi
      obtain ⟨y, hy, hu⟩ := ht i u hi
      exact ⟨y, by rw [Array.getElem?_setIfInBounds_ne (Ne.symm e)]; exact hy, hu⟩
theorem put_fr (fr : Fr) (dst : Option Nat) (v : AV) : (fr.put dst v).tmps = putA fr.tmps dst v ∧ (fr.put dst v).fn = fr.fn ∧ (fr.put dst v).defs = fr.defs ∧ (fr.put dst v).round = fr.round := by
  cases dst <;> exact ⟨rfl, rfl, rfl, rfl⟩

theorem wanted_ok {ops : Array Oper} {o : Oper} {fr : Fr} {ts : Array Value} {b : Bool} (h : wantedA o ops.toList fr = some b) (ht : ∀ g want d, o.guard = some (g, want) → (ops[g]?).bind (·.dst) = some d → ∀ v, fr.tmps.get? d = some v → ∃ x, ts[d]? = some x ∧ VRel X L w v x) :
    Region.wanted o (yielded ops ts) = b := by
  unfold wantedA at h
  unfold Region.wanted
  split at h
  · rename_i hg; cases h; rw [hg]
  · rename_i g want hg
    rw [hg]
    simp only
    rw [Array.getElem?_toList] at h
    split at h
    · rename_i d hd
      split at h
      · rename_i u hu
        cases h
        obtain ⟨x, hx, hv⟩ := ht g want d hg hd _ hu
        have := hv.bool_inv
        subst this
        simp [yielded, hd, hx]
      · rename_i hu
        cases h
        obtain ⟨x, hx, hv⟩ := ht g want d hg hd _ hu
        have e : yielded ops ts g = none := by
          unfold yielded
          rw [hd]
          simp only [Option.bind_some, hx]
          cases hv <;> rfl
        rw [e]; rfl
      · cases h
    · cases h

/-- the frame behind an operation -/
theorem FRel.done {fr : Fr} {dst : Option Nat} {v : AV} {x : Value} {ds : List Deferred} {td : List Item} (hfn : F.fn = fr.fn) (htm : TRel X L w fr.tmps F.tmps) (hds : DRels X L w fr.defs ds)
    (hrd : match fr.round with | none => F.roundOf = none | some l => ∃ c, F.roundOf = some c ∧ ((∃ o cap sz, L l = .live c o cap sz) ∨ L l = .dead))
    (hd : ∀ d, dst = some d → d < F.tmps.size) (hv : VRel X L w v x) : FRel X L w (fr.put dst v) { F with tmps := putT F.tmps dst x, todo := td, defers := ds } := by
  obtain ⟨e1, e2, e3, e4⟩ := put_fr fr dst v
  refine ⟨by rw [e2]; exact hfn, by rw [e1]; exact put_rel htm hd hv, by rw [e3]; exact hds, by rw [e4]; exact hrd⟩

theorem evOps_ok (ih : RecOK P rec) (hT : TabOK P tb) (hF : FieldsOK tb) (hS : SpecOK P tb) (hfun : ∀ f args b s r, rec (.call f args b) s = .ok r → ∃ fn, tb.funcs.get? f = some fn ∧ fn.body.isSome = true) {ops : Array Oper} {k : List Item} :
    ∀ (l : List Nat) (fr : Fr) (bel : Below) (st : St) (r : Res), evOps tb rec ops.toList l fr bel st = .ok r → ∀ (L : Loc) (w : World) (F : Frame) (cs : List Frame),
      HRel X L st.hp w → AllObl r.st.obl → FRel X L w fr F → F.mode = .run → F.todo = .inRegion ops l :: k → (∀ o ∈ ops.toList, ∀ d, o.dst = some d → d < F.tmps.size) → BelR X L w bel F.kind cs →
      ∃ L' w' F' cs', Lands P X L w F cs r.st L' w' F' cs' ∧ FRel X L' w' r.fr F' ∧ BelR X L' w' r.bel F.kind cs' ∧ OutR X L' w' F' k r.out := by
  intro l
  induction l with
  | nil =>
    intro fr bel st r h L w F cs H ho hf hm ht hd hb
    cases h
    have s : step P (lone F cs w) = .next (lone { F with todo := k } cs w) := step_lone_go (by simp [stepG, stepG.exec, hm, ht])
    exact ⟨L, w, { F with todo := k }, cs, ⟨.one s, .refl _ _, H, rfl, rfl, rfl, rfl, .refl _ _⟩, hf.todo k F.mode, hb, hm, rfl⟩
  | cons i rest ihl =>
    intro fr bel st r h L w F cs H ho hf hm ht hd hb
    simp only [evOps, opOne] at h
    split at h
    · cases h
    · rename_i o hoi
      rw [Array.getElem?_toList] at hoi
      have hmem : o ∈ ops.toList := by
        rw [← Array.getElem?_toList] at hoi
        exact List.mem_of_getElem? hoi
      -- on from behind the operation
      have go : ∀ {fr' : Fr} {bel' : Below} {st' : St} {L' : Loc} {w' : World} {x : Value} {ds : List Deferred} {cs' : List Frame} {v : AV}, evOps tb rec ops.toList rest (fr'.put o.dst v) bel' st'.tick = .ok r →
          Steps P (lone F cs w) (lone { F with tmps := putT F.tmps o.dst x, todo := .inRegion ops rest :: k, defers := ds } cs' w') → Ext L w L' w' → HRel X L' st'.hp w' → VRel X L' w' v x → DRels X L' w' fr'.defs ds → BelR X L' w' bel' F.kind cs' → Unders F.kind cs cs' →
          fr'.tmps = fr.tmps → fr'.fn = fr.fn → fr'.round = fr.round →
          ∃ L' w' F' cs', Lands P X L w F cs r.st L' w' F' cs' ∧ FRel X L' w' r.fr F' ∧ BelR X L' w' r.bel F.kind cs' ∧ OutR X L' w' F' k r.out := by
        intro fr' bel' st' L' w' x ds cs' v h s1 hE hH hv hds hb' hu e1 e2 e3
        have hf' := hf.mono hE
        have hfr : FRel X L' w' (fr'.put o.dst v) { F with tmps := putT F.tmps o.dst x, todo := .inRegion ops rest :: k, defers := ds } :=
          FRel.done (by rw [e2]; exact hf.fn) (by rw [e1]; exact hf'.tmps) hds (by rw [e3]; exact hf'.round) (hd o hmem) hv
        obtain ⟨L2, w2, F2, cs2, l2, hf2, hb2, o2⟩ := ihl _ _ _ _ h L' w' _ cs' (by rw [St.tick_eq]; exact hH) ho hfr hm rfl (fun o' ho' d hd' => by simp only [putT_size]; exact hd o' ho' d hd') hb'
        refine ⟨L2, w2, F2, cs2, ⟨s1.trans l2.steps, hE.trans l2.ext, l2.heap, l2.fn, l2.kind, l2.round, ?_, hu.trans l2.und⟩, hf2, hb2, o2⟩
        rw [l2.size]; exact putT_size _ _ _
      have hwant : ∀ b, wantedA o ops.toList fr = some b → Region.wanted o (yielded ops F.tmps) = b := fun b hb => wanted_ok hb fun g want d _ _ v hv => hf.tmps d v hv
      split at h
      · cases h
      · rename_i hw
        exact go (L' := L) (w' := w) h (.one (st_skipped hm ht hoi (hwant _ hw))) (.refl _ _) H undef_rel hf.defs hb (.refl _ _) rfl rfl rfl
      · rename_i hw
        have hww := hwant _ hw
        split at h
        · rename_i hkd
          have hnd : ∀ c, o.op ≠ .defer c := by intro c e; rw [e] at hkd; cases hkd
          unfold opV at h
          split at h
          · rename_i v st1 hask
            have hoo : AllObl st1.obl := by
              have := (evOps_adv (tb := tb) ih.adv _ _ _ _ _ _ h).all ho
              rw [St.tick_eq] at this
              exact this
            obtain ⟨a1, a2, a3, a4, a5, a6⟩ := askV_ok hask
            have hv := a1 hoo
            unfold aValS at hv
            rw [Bool.cond_eq_ite] at hv
            split at hv
            · rename_i hall
              obtain ⟨x, hx1, hx2⟩ := aVal_ok hT hF hf.evals (fun e he => memAt_of H (List.all_eq_true.1 hall e he)) hv
              exact go (L' := L) (w' := w) h (.one (st_val hm ht hoi hww (.inr hnd) hx1 (.inl rfl))) (.refl _ _) (by rw [hp_of_eq a3 a4]; exact H) hx2 hf.defs hb (.refl _ _) rfl rfl rfl
            · cases hv
          · cases h
        · rename_i hkd
          have hnd : ∀ c, o.op ≠ .defer c := by intro c e; rw [e] at hkd; cases hkd
          unfold opN at h
          split at h
          · rename_i blk mk hnew
            obtain ⟨x, obj, cap, sz, h1, h2⟩ := aNew_ok (P := P) (X := X) (L := L) (w := w) hT hf.evals hnew
            have hE := Ext.new H (next_none st) obj (cap := cap) (sz := sz)
            obtain ⟨h3, h4⟩ := h2 _ st.next (by simp [Loc.set]) hE
            have hal : blk.alive = true := by cases blk <;> first | rfl | exact h4.elim
            exact go h (.one (st_val hm ht hoi hww (.inr hnd) h1 (.inl rfl))) hE (by rw [St.new_hp]; exact H.new (next_none st) hal h4) h3 (hf.defs.mono hE) (hb.mono hE) (.refl _ _) rfl rfl rfl
          · cases h
        · rename_i hkd
          unfold opE at h
          split at h
          · rename_i v fr1 bel1 st1 he
            have hoo : AllObl st1.obl := by
              have := (evOps_adv (tb := tb) ih.adv _ _ _ _ _ _ h).all ho
              rw [St.tick_eq] at this
              exact this
            have := eff_ok ih hT hS he (fun s hs => by cases hs; exact hoo) hfun hm ht hoi hww H hf.defs (fun e => by have := hf.round; rw [e] at this; exact this) hb hf.evals
            obtain ⟨e1, e2, e3, x, L', w', ds, cs', s1, hE, hH, hv, hds, hb', hu⟩ := this
            exact go h s1 hE hH hv hds hb' hu e1 e2 e3
          · rename_i v bel1 st1 he
            cases h
            have := eff_ok ih hT hS he (fun s hs => by cases hs; exact ho) hfun hm ht hoi hww H hf.defs (fun e => by have := hf.round; rw [e] at this; exact this) hb hf.evals
            obtain ⟨ch, L', w', cs', s1, hE, hH, hv, hb', hu⟩ := this
            exact ⟨L', w', { F with mode := .panicking ch }, cs', ⟨s1, hE, hH, rfl, rfl, rfl, rfl, hu⟩, (hf.mono hE).todo F.todo _, hb', ch, rfl, hv⟩
          · cases h
end
end Go.Sy
