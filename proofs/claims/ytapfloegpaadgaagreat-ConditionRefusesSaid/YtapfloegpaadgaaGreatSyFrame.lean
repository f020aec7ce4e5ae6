/- A run from a small state is a run from any state that holds it. -/
import Derived.Test.YtapfloegpaadgaaGreatSyLift
set_option linter.unusedVariables false
set_option linter.unusedSimpArgs false
set_option linter.unusedSectionVars false
namespace Go.Sy

theorem posOf_some : ∀ (l : List Nat) (k b i : Nat), posOf l k b = some i → k ≤ i ∧ l[i - k]? = some b
  | [], _, _, _, h => by simp [posOf] at h
  | x :: l, k, b, i, h => by
    simp only [posOf, beq_dec, Bool.cond_eq_ite, decide_eq_true_eq] at h
    split at h
    · rename_i e; cases h; simp [e]
    · obtain ⟨h1, h2⟩ := posOf_some l (k + 1) b i h
      refine ⟨by omega, ?_⟩
      have : i - k = (i - (k + 1)) + 1 := by omega
      rw [this, List.getElem?_cons_succ]; exact h2
theorem posOf_none : ∀ (l : List Nat) (k b : Nat), posOf l k b = none → b ∉ l
  | [], _, _, _ => by simp
  | x :: l, k, b, h => by
    simp only [posOf, beq_dec, Bool.cond_eq_ite, decide_eq_true_eq] at h
    split at h
    · cases h
    · rename_i e
      rw [List.mem_cons, not_or]
      exact ⟨fun hh => e hh.symm, posOf_none l (k + 1) b h⟩
theorem posOf_at {l : List Nat} (hn : l.Nodup) {b i : Nat} (h : l[i]? = some b) : posOf l 0 b = some i := by
  cases hp : posOf l 0 b with
  | none => exact absurd (List.mem_of_getElem? h) (posOf_none _ _ _ hp)
  | some j =>
    obtain ⟨_, h2⟩ := posOf_some _ _ _ _ hp
    obtain ⟨h3, h3'⟩ := List.getElem?_eq_some_iff.1 h
    obtain ⟨h4, h4'⟩ := List.getElem?_eq_some_iff.1 h2
    have := (List.getElem_inj (h₀ := h3) (h₁ := h4) hn).1 (by rw [h3', h4'])
    rw [this]; rfl
theorem invs_map (ps : Nat → Option Nat) (lk : AV → AV) : ∀ l, AV.invs ps lk l = l.map (AV.inv ps lk)
  | [] => rfl
  | v :: l => by rw [AV.invs, invs_map ps lk l, List.map_cons]
theorem rens_map (rho : List Nat) : ∀ l, AV.rens rho l = l.map (AV.ren rho)
  | [] => rfl
  | v :: l => by rw [AV.rens, rens_map rho l, List.map_cons]
theorem cleans_all (ps : Nat → Option Nat) : ∀ l, AV.cleans ps l = true → ∀ v ∈ l, AV.clean ps v = true
  | [], _, v, hv => by cases hv
  | u :: l, h, v, hv => by
    simp only [AV.cleans, Bool.and_eq_true] at h
    rcases List.mem_cons.1 hv with rfl | hv
    · exact h.1
    · exact cleans_all ps l h.2 v hv
theorem noImms_all : ∀ l, AV.noImms l = true → ∀ v ∈ l, AV.noImm v = true
  | [], _, v, hv => by cases hv
  | u :: l, h, v, hv => by
    simp only [AV.noImms, Bool.and_eq_true] at h
    rcases List.mem_cons.1 hv with rfl | hv
    · exact h.1
    · exact noImms_all l h.2 v hv

section
variable {X X' : Nat → Prop} {L L' : Loc} {w w' : World}
/-- what names no block wants little -/
theorem VRel.ofFree (out : ∀ c, c < w.heap.size → ¬ Owned L c → ¬ X c → ¬ Owned L' c ∧ ¬ X' c ∧ c < w'.heap.size ∧ w'.heap[c]? = w.heap[c]?) {v : AV} {x : Value} (hv : VRel X L w v x) (hf : Free v) : VRel X' L' w' v x := by
  have cell : ∀ bl o, bl < w.heap.size → ¬ Owned L bl → ¬ X bl → w'.cell? ⟨bl, o, none⟩ = w.cell? ⟨bl, o, none⟩ := by
    intro bl o h1 h2 h3
    unfold World.cell?
    rw [(out bl h1 h2 h3).2.2.2]
  induction hv with
  | bool b => exact .bool b
  | int k n => exact .int k n
  | str s => exact .str s
  | nilp => exact .nilp
  | ptr h1 => cases hf
  | ptrD h1 h2 => cases hf
  | iptr xs h1 h2 h3 h4 h5 h6 ih =>
    obtain ⟨a1, a2, a3, a4⟩ := out _ h3 h1 h2
    exact .iptr xs a1 a2 a3 (fun j v hj => (cell _ _ h3 h1 h2).trans (h4 j v hj)) (fun j v hj => ih j v hj (h6 v (List.mem_of_getElem? hj))) h6
  | nils => exact .nils
  | sl h1 h2 h3 => cases hf
  | slE h1 => cases hf
  | slD h1 h2 => cases hf
  | immE h1 => exact .immE h1
  | imm xs h0 h1 h2 h3 h4 h5 h6 h7 h8 h9 ih =>
    obtain ⟨a1, a2, a3, a4⟩ := out _ h3 h1 h2
    refine .imm xs h0 a1 a2 a3 (fun j v hj => (cell _ _ h3 h1 h2).trans (h4 j v hj)) (fun j v hj => ih j v hj ?_) h6 h7 h8 h9
    obtain ⟨e, he, hv⟩ := List.mem_flatMap.1 (List.mem_of_getElem? hj)
    exact (h9 e he).cells v hv
  | nilm => exact .nilm
  | map h1 => cases hf
  | mapD h1 h2 => cases hf
  | nilf => exact .nilf
  | fn h1 h2 h3 h4 ih1 ih2 =>
    cases hf with
    | fn _ k1 k2 => exact .fn h1 h2 (fun j v x hj hx => ih1 j v x hj hx (k1 v (List.mem_of_getElem? hj))) (fun j v x hj hx => ih2 j v x hj hx (k2 v (List.mem_of_getElem? hj)))
  | fnY h1 => cases hf
  | fnD h1 h2 => cases hf
  | nili => exact .nili
  | iface h1 ih => cases hf with | iface _ h => exact .iface (ih h)
  | agg h1 h2 ih => cases hf with | agg h => exact .agg h1 (fun j v x hj hx => ih j v x hj hx (h v (List.mem_of_getElem? hj)))
  | tup h1 h2 ih => cases hf with | tup h => exact .tup h1 (fun j v x hj hx => ih j v x hj hx (h v (List.mem_of_getElem? hj)))
  | junk x => exact .junk x

/-- seen from elsewhere -/
theorem inv_rel {ps : Nat → Option Nat} {lk : AV → AV} (out : ∀ c, c < w.heap.size → ¬ Owned L c → ¬ X c → ¬ Owned L' c ∧ ¬ X' c ∧ c < w'.heap.size ∧ w'.heap[c]? = w.heap[c]?)
    (hps : ∀ b i, ps b = some i → L' i = L b) (hlk : ∀ v x, VRel X L w v x → VRel X' L' w' (lk v) x) {v : AV} {x : Value} (hv : VRel X L w v x) : VRel X' L' w' (AV.inv ps lk v) x := by
  have get : ∀ (l : List AV) (j : Nat) (u : AV), (AV.invs ps lk l)[j]? = some u → ∃ v, l[j]? = some v ∧ u = AV.inv ps lk v := by
    intro l j u h
    rw [invs_map, List.getElem?_map, Option.map_eq_some_iff] at h
    obtain ⟨v, h1, h2⟩ := h
    exact ⟨v, h1, h2.symm⟩
  have len : ∀ l, (AV.invs ps lk l).length = l.length := by intro l; rw [invs_map, List.length_map]
  induction hv with
  | bool b => exact .bool b
  | int k n => exact .int k n
  | str s => exact .str s
  | nilp => exact .nilp
  | @ptr b off c o cap sz h1 =>
    simp only [AV.inv, AV.look]
    cases hp : ps b with
    | some i => exact .ptr ((hps b i hp).trans h1)
    | none => exact hlk _ _ (.ptr h1)
  | @ptrD b off x h1 h2 =>
    simp only [AV.inv, AV.look]
    cases hp : ps b with
    | some i => exact .ptrD ((hps b i hp).trans h1) h2
    | none => exact hlk _ _ (.ptrD h1 h2)
  | iptr xs h1 h2 h3 h4 h5 h6 ih => exact VRel.ofFree out (.iptr xs h1 h2 h3 h4 h5 h6) (.iptr _ h6)
  | nils => exact .nils
  | @sl b off len sz c o cap dz cap' h1 h2 h3 =>
    simp only [AV.inv, AV.look]
    cases hp : ps b with
    | some i => exact .sl ((hps b i hp).trans h1) h2 h3
    | none => exact hlk _ _ (.sl h1 h2 h3)
  | @slE b off sz a h1 =>
    simp only [AV.inv, AV.look]
    cases hp : ps b with
    | some i => exact .slE (by rw [hps b i hp]; exact h1)
    | none => exact hlk _ _ (.slE h1)
  | @slD b off len sz x h1 h2 =>
    simp only [AV.inv, AV.look]
    cases hp : ps b with
    | some i => exact .slD ((hps b i hp).trans h1) h2
    | none => exact hlk _ _ (.slD h1 h2)
  | immE h1 => exact .immE h1
  | imm xs h0 h1 h2 h3 h4 h5 h6 h7 h8 h9 ih => exact VRel.ofFree out (.imm xs h0 h1 h2 h3 h4 h5 h6 h7 h8 h9) (.imm _ _ h9)
  | nilm => exact .nilm
  | @map b c o cap sz h1 =>
    simp only [AV.inv, AV.look]
    cases hp : ps b with
    | some i => exact .map ((hps b i hp).trans h1)
    | none => exact .junk _
  | @mapD b x h1 h2 =>
    simp only [AV.inv, AV.look]
    cases hp : ps b with
    | some i => exact .mapD ((hps b i hp).trans h1) h2
    | none => exact .junk _
  | nilf => exact .nilf
  | fn h1 h2 h3 h4 ih1 ih2 =>
    simp only [AV.inv]
    refine .fn ((len _).trans h1) ((len _).trans h2) (fun j v x hj hx => ?_) (fun j v x hj hx => ?_)
    · obtain ⟨u, hu, rfl⟩ := get _ _ _ hj; exact ih1 j u x hu hx
    · obtain ⟨u, hu, rfl⟩ := get _ _ _ hj; exact ih2 j u x hu hx
  | @fnY l c o cap sz h1 =>
    simp only [AV.inv]
    cases hp : ps l with
    | some i => exact .fnY ((hps l i hp).trans h1)
    | none => exact .junk _
  | @fnD l x h1 h2 =>
    simp only [AV.inv]
    cases hp : ps l with
    | some i => exact .fnD ((hps l i hp).trans h1) h2
    | none => exact .junk _
  | nili => exact .nili
  | iface h1 ih => simp only [AV.inv]; exact .iface ih
  | agg h1 h2 ih =>
    simp only [AV.inv]
    refine .agg ((len _).trans h1) (fun j v x hj hx => ?_)
    obtain ⟨u, hu, rfl⟩ := get _ _ _ hj; exact ih j u x hu hx
  | tup h1 h2 ih =>
    simp only [AV.inv]
    refine .tup ((len _).trans h1) (fun j v x hj hx => ?_)
    obtain ⟨u, hu, rfl⟩ := get _ _ _ hj; exact ih j u x hu hx
  | junk x => exact .junk x
theorem inv_free {lk : AV → AV} (hlk : ∀ v x, VRel X L w v x → Free (lk v)) {v : AV} {x : Value} (hv : VRel X L w v x) : Free (AV.inv (fun _ => none) lk v) := by
  have all : ∀ (l : List AV) (xs : List Value), l.length = xs.length → (∀ (j : Nat) (v : AV) (x : Value), l[j]? = some v → xs[j]? = some x → Free (AV.inv (fun _ => none) lk v)) → ∀ u ∈ AV.invs (fun _ => none) lk l, Free u := by
    intro l xs hl h u hu
    rw [invs_map] at hu
    obtain ⟨v, hv, rfl⟩ := List.mem_map.1 hu
    obtain ⟨j, hj, hjv⟩ := List.mem_iff_getElem.1 hv
    exact h j v xs[j] (by rw [List.getElem?_eq_getElem hj, hjv]) (List.getElem?_eq_getElem (by omega))
  induction hv with
  | bool b => exact .bool b
  | int k n => exact .int k n
  | str s => exact .str s
  | nilp => exact .nilp
  | ptr h1 => exact hlk _ _ (.ptr h1)
  | ptrD h1 h2 => exact hlk _ _ (.ptrD h1 h2)
  | iptr xs h1 h2 h3 h4 h5 h6 ih => exact .iptr _ h6
  | nils => exact .nils
  | sl h1 h2 h3 => exact hlk _ _ (.sl h1 h2 h3)
  | @slE b off sz a h1 => exact hlk _ _ (.slE (a := a) h1)
  | slD h1 h2 => exact hlk _ _ (.slD h1 h2)
  | immE h1 => exact .imm _ _ (fun v hv => by cases hv)
  | imm xs h0 h1 h2 h3 h4 h5 h6 h7 h8 h9 ih => exact .imm _ _ h9
  | nilm => exact .nilm
  | map h1 => exact .junk
  | mapD h1 h2 => exact .junk
  | nilf => exact .nilf
  | fn h1 h2 h3 h4 ih1 ih2 => exact .fn _ (all _ _ (h1.trans Array.length_toList.symm) (fun j v x hj hx => ih1 j v x hj (by simpa using hx))) (all _ _ (h2.trans Array.length_toList.symm) (fun j v x hj hx => ih2 j v x hj (by simpa using hx)))
  | fnY h1 => exact .junk
  | fnD h1 h2 => exact .junk
  | nili => exact .nili
  | iface h1 ih => exact .iface _ ih
  | agg h1 h2 ih => exact .agg (all _ _ (h1.trans Array.length_toList.symm) (fun j v x hj hx => ih j v x hj (by simpa using hx)))
  | tup h1 h2 ih => exact .tup (all _ _ (h1.trans Array.length_toList.symm) (fun j v x hj hx => ih j v x hj (by simpa using hx)))
  | junk x => exact .junk
end

theorem grp_len (sz : Nat) : ∀ (n : Nat) (l : List AV), (grp sz n l).length = n
  | 0, _ => rfl
  | n + 1, l => by simp [grp, grp_len sz n]
theorem grp_cells (sz : Nat) : ∀ (n : Nat) (l : List AV), l.length = n * sz → (grp sz n l).flatMap AV.cells = l ∧ ∀ e ∈ grp sz n l, e.cells.length = sz
  | 0, l, h => by
    have : l = [] := List.eq_nil_of_length_eq_zero (by simpa using h)
    subst this
    exact ⟨rfl, fun e he => by cases he⟩
  | n + 1, l, h => by
    rw [Nat.succ_mul] at h
    obtain ⟨h1, h2⟩ := grp_cells sz n (l.drop sz) (by simp; omega)
    refine ⟨?_, fun e he => ?_⟩
    · simp only [grp, List.flatMap_cons, AV.cells, h1, List.take_append_drop]
    · rcases List.mem_cons.1 he with rfl | he
      · simp [AV.cells]; omega
      · exact h2 e he
theorem grp_mem (sz : Nat) : ∀ (n : Nat) (l : List AV) (e : AV), e ∈ grp sz n l → ∃ k, e = .agg k ∧ ∀ v ∈ k, v ∈ l
  | 0, _, e, h => by cases h
  | n + 1, l, e, h => by
    rcases List.mem_cons.1 h with rfl | h
    · exact ⟨_, rfl, fun v hv => List.mem_of_mem_take hv⟩
    · obtain ⟨k, rfl, h2⟩ := grp_mem sz n (l.drop sz) e h
      exact ⟨k, rfl, fun v hv => List.mem_of_mem_drop (h2 v hv)⟩

theorem setSlots_at : ∀ (l : List (Nat × AV)) (t : T AV) (i : Nat) (v : AV), (setSlots t l).get? i = some v → (i, v) ∈ l ∨ t.get? i = some v
  | [], t, i, v, h => .inr h
  | (j, u) :: l, t, i, v, h => by
    rcases setSlots_at l _ i v h with h | h
    · exact .inl (List.mem_cons_of_mem _ h)
    · rw [T.get?_set] at h
      split at h
      · rename_i e; cases h; subst e; exact .inl (List.mem_cons_self ..)
      · exact .inr h
/-! ### Down -/
def lowL (L : Loc) (rho : List Nat) : Loc := fun i => match rho[i]? with | some b => L b | none => .absent
def Lent (L : Loc) (lend : List Nat) (c : Nat) : Prop := ∃ b ∈ lend, ∃ o cap sz, L b = .live c o cap sz
def lowX (X : Nat → Prop) (L : Loc) (rho lend : List Nat) : Nat → Prop := fun c => X c ∨ (Owned L c ∧ ¬ Owned (lowL L rho) c ∧ ¬ Lent L lend c)
def hpL (l : List Blk) : Hp := fun b => l[b]?

section
variable {X : Nat → Prop} {L : Loc} {w : World} {st : St} {rho lend : List Nat}
theorem lowL_at {i b : Nat} (h : rho[i]? = some b) : lowL L rho i = L b := by simp [lowL, h]
theorem lowL_own {c : Nat} (h : Owned (lowL L rho) c) : ∃ i b o cap sz : Nat, rho[i]? = some b ∧ L b = .live c o cap sz := by
  obtain ⟨i, o, cap, sz, h⟩ := h
  unfold lowL at h
  split at h
  · rename_i b hb; exact ⟨i, b, o, cap, sz, hb, h⟩
  · cases h
theorem low_out (c : Nat) (h1 : c < w.heap.size) (h2 : ¬ Owned L c) (h3 : ¬ X c) : ¬ Owned (lowL L rho) c ∧ ¬ lowX X L rho lend c ∧ c < w.heap.size ∧ w.heap[c]? = w.heap[c]? := by
  refine ⟨fun h => ?_, fun h => ?_, h1, rfl⟩
  · obtain ⟨i, b, o, cap, sz, _, h⟩ := lowL_own h
    exact h2 ⟨b, o, cap, sz, h⟩
  · rcases h with h | ⟨h, _⟩
    · exact h3 h
    · exact h2 h

theorem lend_rel (H : HRel X L st.hp w) (hnd : (rho ++ lend).Nodup) : ∀ (k : Nat) (v : AV) (x : Value), VRel X L w v x → VRel (lowX X L rho lend) (lowL L rho) w (lendV st lend k v) x ∧ Free (lendV st lend k v) := by
  intro k
  induction k with
  | zero => intro v x _; exact ⟨.junk _, .junk⟩
  | succ k ih =>
    intro v x hv
    have disj : ∀ b, b ∈ lend → b ∉ rho := fun b hb hr => (List.nodup_append.1 hnd).2.2 b hr b hb rfl
    have free : ∀ {v : AV} {x : Value}, VRel X L w v x → VRel (lowX X L rho lend) (lowL L rho) w (AV.inv (fun _ => none) (lendV st lend k) v) x ∧ Free (AV.inv (fun _ => none) (lendV st lend k) v) := by
      intro v x hv
      exact ⟨inv_rel low_out (fun b i h => by cases h) (fun v x hv => (ih v x hv).1) hv, inv_free (fun v x hv => (ih v x hv).2) hv⟩
    have ours : ∀ {b c o cap sz : Nat}, b ∈ lend → L b = .live c o cap sz → ¬ Owned (lowL L rho) c ∧ ¬ lowX X L rho lend c ∧ c < w.heap.size := by
      intro b c o cap sz hb hL
      refine ⟨fun h => ?_, fun h => ?_, H.lt c ⟨b, o, cap, sz, hL⟩⟩
      · obtain ⟨i, b', o', cap', sz', hi, h⟩ := lowL_own h
        have := H.inj _ _ _ _ _ _ _ _ _ h hL
        subst this
        exact disj _ hb (List.mem_of_getElem? hi)
      · rcases h with h | ⟨_, _, h⟩
        · exact H.far c ⟨b, o, cap, sz, hL⟩ h
        · exact h ⟨b, hb, o, cap, sz, hL⟩
    cases v with
    | sl b o n sz =>
      simp only [lendV, Bool.cond_eq_ite]
      split
      · rename_i hb
        have hb : b ∈ lend := by
          obtain ⟨y, hy, he⟩ := List.any_eq_true.1 hb
          rw [beq_dec] at he
          simp at he
          rw [he]; exact hy
        split
        · rename_i cs hcs
          split
          · rename_i hle
            have hal : (st.get b).alive = true := by rw [hcs]; rfl
            obtain ⟨c, oo, cap, dz, hL, hB⟩ := H.at (St.hp_some hal) hal
            rw [hcs] at hB
            obtain ⟨arr, e, k1, k2, k3, k4⟩ := hB
            have hrow := (k4.drop o).take (n * sz)
            have hlen : (AV.invs (fun _ => none) (lendV st lend k) ((cs.drop o).take (n * sz))).length = n * sz := by rw [invs_map, List.length_map, List.length_take, List.length_drop]; omega
            obtain ⟨g1, g2⟩ := grp_cells sz n _ hlen
            have gfree : ∀ e ∈ grp sz n (AV.invs (fun _ => none) (lendV st lend k) ((cs.drop o).take (n * sz))), Free e := by
              intro e he
              obtain ⟨q, rfl, hq⟩ := grp_mem _ _ _ _ he
              refine .agg fun u hu => ?_
              have := hq u hu
              rw [invs_map] at this
              obtain ⟨y, hy, rfl⟩ := List.mem_map.1 this
              obtain ⟨j, hj⟩ := List.mem_iff_getElem?.1 hy
              obtain ⟨z, _, hz⟩ := hrow.get hj
              exact (free hz).2
            refine ⟨?_, .imm _ _ gfree⟩
            by_cases hn0 : n = 0
            · subst hn0
              have hx : ∃ A cp, x = .slice A 0 cp := by
                rcases hv.sl_live hL with ⟨cap', e, _⟩ | ⟨_, q, e⟩
                · exact ⟨_, _, e⟩
                · exact ⟨_, _, e⟩
              obtain ⟨A, cp, rfl⟩ := hx
              exact .immE fun h => by cases h
            · rcases hv.sl_live hL with ⟨cap', rfl, hc1, hc2⟩ | ⟨h0, _⟩
              · obtain ⟨u1, u2, u3⟩ := ours hb hL
                have hne : grp sz n (AV.invs (fun _ => none) (lendV st lend k) ((cs.drop o).take (n * sz))) ≠ [] := by
                  intro h
                  have := congrArg List.length h
                  rw [grp_len] at this
                  exact hn0 this
                have cell : ∀ j v, ((grp sz n (AV.invs (fun _ => none) (lendV st lend k) ((cs.drop o).take (n * sz)))).flatMap AV.cells)[j]? = some v → ∃ y, arr[oo + o + j]? = some y ∧ VRel (lowX X L rho lend) (lowL L rho) w v y := by
                  intro j v hj
                  rw [g1, invs_map, List.getElem?_map, Option.map_eq_some_iff] at hj
                  obtain ⟨u, hu, rfl⟩ := hj
                  obtain ⟨y, hy, hyv⟩ := hrow.get hu
                  refine ⟨y, ?_, (free hyv).1⟩
                  rw [List.getElem?_take] at hy
                  split at hy
                  · rw [List.getElem?_drop, List.getElem?_take] at hy
                    split at hy
                    · rw [List.getElem?_drop, Array.getElem?_toList] at hy
                      rw [Nat.add_assoc]; exact hy
                    · cases hy
                  · cases hy
                have := VRel.imm (X := lowX X L rho lend) (L := lowL L rho) (w := w) (es := grp sz n (AV.invs (fun _ => none) (lendV st lend k) ((cs.drop o).take (n * sz)))) (clip := false) (bl := c) (o := oo + o) (cap := cap') (sz := sz)
                  (fun j => (arr[oo + o + j]?).getD undef) hne u1 u2 u3 (fun j v hj => by
                    obtain ⟨y, hy, _⟩ := cell j v hj
                    simp [World.cell?, k1, hy]) (fun j v hj => by
                    obtain ⟨y, hy, hyv⟩ := cell j v hj
                    simp only [hy, Option.getD_some]; exact hyv) (by rw [grp_len]; exact hc1) (fun h => by cases h) g2 gfree
                rw [grp_len] at this
                exact this
              · exact absurd h0 hn0
          · exact ⟨.junk _, .junk⟩
        · exact ⟨.junk _, .junk⟩
      · exact ⟨.junk _, .junk⟩
    | ptr b o =>
      simp only [lendV, Bool.cond_eq_ite]
      split
      · rename_i hb
        have hb : b ∈ lend := by
          obtain ⟨y, hy, he⟩ := List.any_eq_true.1 hb
          rw [beq_dec] at he
          simp at he
          rw [he]; exact hy
        split
        · rename_i cs hcs
          have hal : (st.get b).alive = true := by rw [hcs]; rfl
          obtain ⟨c, oo, cap, dz, hL, hB⟩ := H.at (St.hp_some hal) hal
          rw [hcs] at hB
          obtain ⟨arr, e, k1, k2, k3, k4⟩ := hB
          obtain ⟨u1, u2, u3⟩ := ours hb hL
          have gfree : ∀ u ∈ AV.invs (fun _ => none) (lendV st lend k) cs, Free u := by
            intro u hu
            rw [invs_map] at hu
            obtain ⟨y, hy, rfl⟩ := List.mem_map.1 hu
            obtain ⟨j, hj⟩ := List.mem_iff_getElem?.1 hy
            obtain ⟨z, _, hz⟩ := k4.get hj
            exact (free hz).2
          refine ⟨?_, .iptr _ gfree⟩
          rw [hv.ptr_live hL]
          have cell : ∀ j v, (AV.invs (fun _ => none) (lendV st lend k) cs)[j]? = some v → ∃ y, arr[oo + j]? = some y ∧ VRel (lowX X L rho lend) (lowL L rho) w v y := by
            intro j v hj
            rw [invs_map, List.getElem?_map, Option.map_eq_some_iff] at hj
            obtain ⟨u, hu, rfl⟩ := hj
            obtain ⟨y, hy, hyv⟩ := k4.get hu
            refine ⟨y, ?_, (free hyv).1⟩
            rw [List.getElem?_take] at hy
            split at hy
            · rw [List.getElem?_drop, Array.getElem?_toList] at hy; exact hy
            · cases hy
          exact .iptr (fun j => (arr[oo + j]?).getD undef) u1 u2 u3 (fun j v hj => by
            obtain ⟨y, hy, _⟩ := cell j v hj
            simp [World.cell?, k1, hy]) (fun j v hj => by
            obtain ⟨y, hy, hyv⟩ := cell j v hj
            simp only [hy, Option.getD_some]; exact hyv) gfree
        · exact ⟨.junk _, .junk⟩
      · exact ⟨.junk _, .junk⟩
    | _ => exact ⟨.junk _, .junk⟩
theorem low_ps (b i : Nat) (h : posOf rho 0 b = some i) : lowL L rho i = L b := by
  obtain ⟨_, h2⟩ := posOf_some _ _ _ _ h
  exact lowL_at h2
theorem see_rel (H : HRel X L st.hp w) (hnd : (rho ++ lend).Nodup) {v : AV} {x : Value} (hv : VRel X L w v x) : VRel (lowX X L rho lend) (lowL L rho) w (seeV st rho lend v) x :=
  inv_rel low_out low_ps (fun v x hv => (lend_rel H hnd 3 v x hv).1) hv
theorem drop_rel (H : HRel X L st.hp w) (hnd : (rho ++ lend).Nodup) {v : AV} {x : Value} (hv : VRel X L w v x) : VRel (lowX X L rho lend) (lowL L rho) w (AV.inv (posOf rho 0) dropJ v) x :=
  inv_rel low_out low_ps (fun v x _ => .junk x) hv
theorem mapv_get (f : AV → AV) : ∀ (t : T AV) (i : Nat), (T.mapv f t).get? i = (t.get? i).map f := by
  intro t
  induction t with
  | nil => intro i; rfl
  | node l v r ihl ihr =>
    intro i
    simp only [T.mapv, T.get?_node]
    split
    · rfl
    · split
      · exact ihl _
      · exact ihr _
theorem down_blk (H : HRel X L st.hp w) (hnd : (rho ++ lend).Nodup) {c o cap sz : Nat} {x y : Blk} (hB : BRel X L w c o cap sz x) (h : Blk.inv (posOf rho 0) x = some y) : BRel (lowX X L rho lend) (lowL L rho) w c o cap sz y := by
  cases x with
  | cells cs =>
    simp only [Blk.inv, Option.some.injEq] at h
    subst h
    obtain ⟨arr, e, k1, k2, k3, k4⟩ := hB
    refine ⟨arr, e, k1, k2, by rw [invs_map, List.length_map]; exact k3, ?_⟩
    rw [invs_map, List.length_map]
    refine ⟨by rw [List.length_map]; exact k4.1, fun j v y hj hy => ?_⟩
    rw [List.getElem?_map, Option.map_eq_some_iff] at hj
    obtain ⟨u, hu, rfl⟩ := hj
    exact drop_rel H hnd (k4.2 j u y hu hy)
  | map es =>
    simp only [Blk.inv, Option.some.injEq] at h
    subst h
    obtain ⟨fs, k, h1, h2⟩ := hB
    refine ⟨fs, k, h1, ?_⟩
    generalize fs.toList = l at h2
    clear h1
    induction h2 with
    | nil => exact .nil
    | cons g1 g2 g3 ih => exact .cons g1 (drop_rel H hnd g2) ih
  | loop s p f t qs a b d =>
    simp only [Blk.inv] at h
    split at h
    · rename_i d' hd
      cases h
      obtain ⟨r, h1, h2, h3, h4, h5, h6, h7, h8, h9, h10⟩ := hB
      refine ⟨r, h1, h2, h3, h4, h5, h6, h7, fun i v hi => ?_, ?_, h10⟩
      · rcases setSlots_at _ _ _ _ hi with hi | hi
        · obtain ⟨j, _, hj⟩ := List.mem_filterMap.1 hi
          obtain ⟨u, hu, hue⟩ := Option.map_eq_some_iff.1 hj
          cases hue
          obtain ⟨x, hx, hxv⟩ := h8 _ u hu
          exact ⟨x, hx, drop_rel H hnd hxv⟩
        · rw [T.get?_nil] at hi; cases hi
      · rw [low_ps d d' hd]; exact h9
    · cases h
  | defd t => simp only [Blk.inv, Option.some.injEq] at h; subst h; exact hB
  | dead => cases h
theorem invBlks_at {ps : Nat → Option Nat} : ∀ (l : List Nat) (pre : List Blk), invBlks st ps l = some pre → pre.length = l.length ∧ ∀ i b : Nat, l[i]? = some b → ∃ y, pre[i]? = some y ∧ Blk.inv ps (st.get b) = some y
  | [], pre, h => by cases h; exact ⟨rfl, fun i b h => by simp at h⟩
  | b :: l, pre, h => by
    simp only [invBlks] at h
    split at h
    · rename_i x xs h1 h2
      cases h
      obtain ⟨k1, k2⟩ := invBlks_at l xs h2
      refine ⟨by simp [k1], fun i b' hi => ?_⟩
      cases i with
      | zero => simp at hi; subst hi; exact ⟨x, rfl, h1⟩
      | succ i => obtain ⟨y, hy1, hy2⟩ := k2 i b' (by simpa using hi); exact ⟨y, by simpa using hy1, hy2⟩
    · cases h
theorem inv_alive {ps : Nat → Option Nat} {x y : Blk} (h : Blk.inv ps x = some y) : y.alive = true ∧ x.alive = true := by
  cases x <;> simp only [Blk.inv] at h
  case loop s p f t qs a b d => split at h <;> cases h; exact ⟨rfl, rfl⟩
  all_goals first | (cases h; exact ⟨rfl, rfl⟩) | cases h
theorem down (H : HRel X L st.hp w) (hnd : (rho ++ lend).Nodup) {pre : List Blk} (h : invBlks st (posOf rho 0) rho = some pre) : HRel (lowX X L rho lend) (lowL L rho) (hpL pre) w := by
  obtain ⟨hl, hat⟩ := invBlks_at _ _ h
  have get : ∀ (i : Nat) (y : Blk), pre[i]? = some y → ∃ b, rho[i]? = some b ∧ Blk.inv (posOf rho 0) (st.get b) = some y := by
    intro i y hy
    have hi : i < rho.length := by have := (List.getElem?_eq_some_iff.1 hy).1; omega
    obtain ⟨y', h1, h2⟩ := hat i rho[i] (List.getElem?_eq_getElem hi)
    rw [hy] at h1; cases h1
    exact ⟨rho[i], List.getElem?_eq_getElem hi, h2⟩
  refine ⟨fun b hb => ?_, fun b hb => ?_, fun b x hb hx => ?_, fun i j c o cap sz o' cap' sz' hi hj => ?_, fun c hc => ?_, fun c hc hx => ?_, fun c hc => ?_⟩
  · have : rho.length ≤ b := by
      have : pre[b]? = none := hb
      rw [List.getElem?_eq_none_iff] at this
      omega
    simp [lowL, List.getElem?_eq_none this]
  · obtain ⟨a, _, h2⟩ := get b .dead hb
    exact absurd (inv_alive h2).1 (by simp [Blk.alive])
  · obtain ⟨a, h1, h2⟩ := get b x hb
    have hal := (inv_alive h2).2
    obtain ⟨c, o, cap, sz, k1, k2⟩ := H.at (St.hp_some hal) hal
    exact ⟨c, o, cap, sz, by rw [lowL_at h1]; exact k1, down_blk H hnd k2 h2⟩
  · have at' : ∀ {i c o cap sz}, lowL L rho i = .live c o cap sz → ∃ b, rho[i]? = some b ∧ L b = .live c o cap sz := by
      intro i c o cap sz h
      unfold lowL at h
      split at h
      · rename_i b hb; exact ⟨b, hb, h⟩
      · cases h
    obtain ⟨b, g1, g2⟩ := at' hi
    obtain ⟨b', g3, g4⟩ := at' hj
    have := H.inj _ _ _ _ _ _ _ _ _ g2 g4
    subst this
    have e1 := posOf_at (List.nodup_append.1 hnd).1 g1
    have e2 := posOf_at (List.nodup_append.1 hnd).1 g3
    rw [e1] at e2; cases e2; rfl
  · obtain ⟨i, b, o, cap, sz, _, h⟩ := lowL_own hc
    exact H.lt c ⟨b, o, cap, sz, h⟩
  · rcases hx with hx | ⟨_, hx, _⟩
    · obtain ⟨i, b, o, cap, sz, _, h⟩ := lowL_own hc
      exact H.far c ⟨b, o, cap, sz, h⟩ hx
    · exact hx hc
  · rcases hc with hc | ⟨hc, _⟩
    · exact H.xlt c hc
    · exact H.lt c hc
end
end Go.Sy
