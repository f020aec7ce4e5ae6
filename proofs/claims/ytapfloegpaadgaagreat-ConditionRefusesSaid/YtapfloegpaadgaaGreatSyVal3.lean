/- What the abstract reckonings give, the machine's give: slices, literals, maps, lengths. -/
import Derived.Test.YtapfloegpaadgaaGreatSyVal2
set_option linter.unusedVariables false
set_option linter.unusedSimpArgs false
namespace Go.Sy

section
variable {P : Program} {tb : Tab} {X : Nat → Prop} {L : Loc} {w : World} {st : St} {ρ : Operand → AV} {ρc : Operand → Value}

theorem run_bound (hρ : OpRel X L w ρ ρc) {q : Operand} {d l y : Nat} (code : BoundsCode) (h : aBound d (some (ρ q)) = some l) (hl : l ≤ y) : (Instr.sliceBound (ρc q) y code).run P w = .ok l w := by
  have hq := hρ q
  generalize ρ q = a at *
  cases a <;> simp only [aBound, reduceCtorEq] at h
  rename_i k n
  cases n with
  | negSucc n => simp at h
  | ofNat n =>
    simp at h
    subst h
    have := hq.int_inv
    simp [Instr.sliceBound, this, asIntOf, hl]

theorem run_bounds (hρ : OpRel X L w ρ ρc) {lo hi mx : Option Operand} {n cap l h m : Nat} (hl : aBound 0 (lo.map ρ) = some l) (hh : aBound n (hi.map ρ) = some h) (hm : aBound cap (mx.map ρ) = some m)
    (h1 : l ≤ h) (h2 : h ≤ n) (h3 : n ≤ cap) (h4 : h ≤ m) (h5 : m ≤ cap) (h6 : mx.isSome = true → hi.isSome = true) :
    (Instr.sliceBounds true n cap (lo.map ρc) (hi.map ρc) (mx.map ρc)).run P w = .ok (l, h, m) w := by
  cases mx with
  | none =>
    have : m = cap := by simp [aBound] at hm; exact hm.symm
    subst this
    cases hi with
    | none =>
      have : h = n := by simp [aBound] at hh; exact hh.symm
      subst this
      cases lo with
      | none =>
        have : l = 0 := by simp [aBound] at hl; exact hl.symm
        subst this
        simp [Instr.sliceBounds]
      | some p => simp [Instr.sliceBounds, run_bound (P := P) hρ _ hl h1]
    | some q =>
      cases lo with
      | none =>
        have : l = 0 := by simp [aBound] at hl; exact hl.symm
        subst this
        simp [Instr.sliceBounds, run_bound (P := P) (y := m) hρ _ hh h4]
      | some p => simp [Instr.sliceBounds, run_bound (P := P) (y := m) hρ _ hh h4, run_bound (P := P) hρ _ hl h1]
  | some r =>
    cases hi with
    | none => simp at h6
    | some q =>
      cases lo with
      | none =>
        have : l = 0 := by simp [aBound] at hl; exact hl.symm
        subst this
        simp [Instr.sliceBounds, run_bound (P := P) (y := cap) hρ _ hm h5, run_bound (P := P) (y := m) hρ _ hh h4]
      | some p => simp [Instr.sliceBounds, run_bound (P := P) (y := cap) hρ _ hm h5, run_bound (P := P) (y := m) hρ _ hh h4, run_bound (P := P) hρ _ hl h1]

theorem run_slice (hT : TabOK P tb) {t e size : Nat} (hu : tb.under t = some (.slice e)) (hs : tb.size e = some size) {A : Option Addr} {n cap l h m : Nat} {lo hi mx : Option Value}
    (hb : (Instr.sliceBounds true n cap lo hi mx).run P w = .ok (l, h, m) w) :
    (Instr.sliceAt t (.slice A n cap) lo hi mx).run P w = .ok (.slice (if m = l then A else A.map (·.add (l * size))) (h - l) (m - l)) w := by
  simp [Instr.sliceAt, Instr.slice, hT.run_under hu, hb, hT.run_size hs]

theorem VRels.sub {es : List AV} {l h : Nat} {sz : Nat} (hsz : ∀ e ∈ es, e.cells.length = sz) {j : Nat} {u : AV} (hj : (((es.drop l).take (h - l)).flatMap AV.cells)[j]? = some u) : (es.flatMap AV.cells)[l * sz + j]? = some u := by
  induction es generalizing l h with
  | nil => simp at hj
  | cons e es ih =>
    cases l with
    | zero =>
      simp only [Nat.sub_zero, List.drop_zero, Nat.zero_mul, Nat.zero_add] at hj ⊢
      have : ∀ (k : Nat) (xs : List AV), (xs.take k).flatMap AV.cells <+: xs.flatMap AV.cells := by
        intro k xs
        refine ⟨(xs.drop k).flatMap AV.cells, ?_⟩
        rw [← List.flatMap_append, List.take_append_drop]
      obtain ⟨t, ht⟩ := this h (e :: es)
      obtain ⟨hl, -⟩ := List.getElem?_eq_some_iff.1 hj
      rw [← ht, List.getElem?_append_left hl]; exact hj
    | succ l =>
      have he := hsz e (by simp)
      simp only [List.drop_succ_cons] at hj
      have := ih (l := l) (h := h - 1) (fun e' h' => hsz e' (by simp [h'])) (by rw [show h - 1 - l = h - (l + 1) by omega]; exact hj)
      simp only [List.flatMap_cons]
      rw [List.getElem?_append_right (by rw [he, Nat.succ_mul]; omega), he, show (l + 1) * sz + j - sz = l * sz + j by rw [Nat.succ_mul]; omega]
      exact this

/-- a part of a slice that is read alone -/
theorem VRel.imm_sub {es : List AV} {clip : Bool} {A : Option Addr} {cap l h m : Nat} {size : Nat} (hx : VRel X L w (.imm size es clip) (.slice A es.length cap)) (h1 : l ≤ h) (h2 : h ≤ es.length) (h3 : h ≤ m) (h4 : m ≤ cap) (clip' : Bool) (hc : clip' = true → m = h) :
    VRel X L w (.imm size ((es.drop l).take (h - l)) clip') (.slice (if m = l then A else A.map (·.add (l * size))) (h - l) (m - l)) := by
  by_cases hlen : h = l
  · subst hlen
    have : (es.drop h).take (h - h) = [] := by simp
    rw [this, Nat.sub_self]
    exact .immE fun hh => by have := hc hh; omega
  · have hml : ¬ m = l := by omega
    rw [if_neg hml]
    generalize hy : Value.slice A es.length cap = y at hx
    cases hx with
    | immE _ => simp at h2; omega
    | @imm _ _ bl oo cap' sz xs g0 g1 g2 g3 g4 g5 g6 g7 g8 g9 =>
      cases hy
      have hl2 : ((es.drop l).take (h - l)).length = h - l := by simp; omega
      have hne : (es.drop l).take (h - l) ≠ [] := by intro e; rw [e] at hl2; simp at hl2; omega
      simp only [Option.map_some, add_none]
      have := VRel.imm (X := X) (L := L) (w := w) (es := (es.drop l).take (h - l)) (clip := clip') (bl := bl) (o := oo + l * size) (cap := m - l) (sz := size) (fun j => xs (l * size + j)) hne g1 g2 g3
        (fun j u hj => by have := g4 _ _ (VRels.sub g8 hj); rw [← Nat.add_assoc] at this; exact this) (fun j u hj => g5 _ _ (VRels.sub g8 hj)) (by rw [hl2]; omega) (fun hh => by rw [hl2]; have := hc hh; omega)
        (fun e he => g8 e (List.mem_of_mem_drop (List.mem_of_mem_take he))) (fun e he => g9 e (List.mem_of_mem_drop (List.mem_of_mem_take he)))
      rw [hl2] at this
      exact this

theorem VRel.imm_len {sz : Nat} {es : List AV} {clip : Bool} {x : Value} (h : VRel X L w (.imm sz es clip) x) : ∃ A cap, x = .slice A es.length cap ∧ es.length ≤ cap ∧ (clip = true → cap = es.length) := by
  cases h with
  | immE h => exact ⟨_, _, rfl, Nat.zero_le _, h⟩
  | imm xs h0 h1 h2 h3 h4 h5 h6 h7 h8 _ => exact ⟨_, _, rfl, h6, h7⟩

theorem ok_slice (hT : TabOK P tb) (hρ : OpRel X L w ρ ρc) {o : Oper} {t : Nat} {x : Operand} {lo hi mx : Option Operand} (ho : o.op = .slice t x lo hi mx) (hm : ∀ e ∈ headBlk (ρ x), MemAt X L w st e) {v : AV} (h : aVal tb st ρ (.slice t x lo hi mx) = some v) : Gives P X L w ρc o v := by
  have hx := hρ x
  simp only [aVal, vPick, vBuild, vLoad, vNil, vConv, vIface, vSlice, vFieldAddr, vField, vIndexAddr, vIndex, vLookup, vAssert, vExtract, vCall] at h
  split at h
  · rename_i e hu
    split at h
    · rename_i size hs
      have fin : ∀ {A : Option Addr} {n cap l h m : Nat}, ρc x = .slice A n cap → (Instr.sliceBounds true n cap (lo.map ρc) (hi.map ρc) (mx.map ρc)).run P w = .ok (l, h, m) w →
          (execOp ρc o).run P w = .ok (.value (.slice (if m = l then A else A.map (·.add (l * size))) (h - l) (m - l))) w := by
        intro A n cap l h m e1 e2
        have := run_slice (w := w) hT hu hs (A := A) e2
        simp [execOp, ho, e1, this]
      unfold aSlice at h
      split at h
      · cases h
      · rename_i n hn
        split at h
        · rename_i l hh hl1 hh1
          split at h
          · rename_i hle
            obtain ⟨hle1, hle2⟩ := hle
            split at h
            · rename_i hx0 hmx
              cases h
              rw [hx0] at hx hn
              have e1 := hx.nils_inv
              simp [lenOf] at hn
              subst hn
              have hmx' : mx = none := by cases mx <;> simp at hmx ⊢
              subst hmx'
              have := run_bounds (P := P) (m := 0) (cap := 0) hρ hl1 hh1 (mx := none) rfl hle1 hle2 (Nat.le_refl _) hle2 (Nat.le_refl _) (by simp)
              refine ⟨_, fin e1 this, ?_⟩
              have a1 : hh = 0 := by omega
              have a2 : l = 0 := by omega
              subst a1; subst a2
              exact .nils
            · rename_i b off nn sz hx0 hmx
              split at h
              · rename_i hsz
                subst hsz
                cases h
                rw [hx0] at hx hn hm
                simp [lenOf] at hn
                subst hn
                have hmx' : mx = none := by cases mx <;> simp at hmx ⊢
                subst hmx'
                obtain ⟨c, oo, cap, dz, hl⟩ := live_of hm (b := b) (n := 1) (by simp [headBlk])
                rcases hx.sl_live hl with ⟨cap', ex, k1, k2⟩ | ⟨rfl, a, ex⟩
                · have := run_bounds (P := P) (m := cap') (cap := cap') hρ hl1 hh1 (mx := none) rfl hle1 hle2 k1 (by omega) (Nat.le_refl _) (by simp)
                  refine ⟨_, fin ex this, ?_⟩
                  by_cases hcl : cap' = l
                  · rw [if_pos hcl]
                    have : hh - l = 0 := by omega
                    rw [this, show cap' - l = 0 by omega]
                    exact .slE (by rw [hl]; simp)
                  · rw [if_neg hcl]
                    simp only [Option.map_some, add_none, Nat.add_assoc]
                    refine .sl hl (by omega) ?_
                    have : l * sz + (cap' - l) * sz = cap' * sz := by rw [← Nat.add_mul]; congr 1; omega
                    omega
                · have := run_bounds (P := P) (m := 0) (cap := 0) hρ hl1 hh1 (mx := none) rfl hle1 hle2 (Nat.le_refl _) hle2 (Nat.le_refl _) (by simp)
                  refine ⟨_, fin ex this, ?_⟩
                  have a1 : hh = 0 := by omega
                  have a2 : l = 0 := by omega
                  subst a1; subst a2
                  exact .slE (by rw [hl]; simp)
              · cases h
            · rename_i sz es c hx0 hmx
              split at h
              · rename_i hsz
                subst hsz
                cases h
                rw [hx0] at hx hn
                simp [lenOf] at hn
                subst hn
                have hmx' : mx = none := by cases mx <;> simp at hmx ⊢
                subst hmx'
                obtain ⟨A, cap, ex, k1, k2⟩ := hx.imm_len
                have := run_bounds (P := P) (m := cap) (cap := cap) hρ hl1 hh1 (mx := none) rfl hle1 hle2 k1 (by omega) (Nat.le_refl _) (by simp)
                rw [ex] at hx
                refine ⟨_, fin ex this, hx.imm_sub hle1 hle2 (by omega) (Nat.le_refl _) _ fun hh2 => ?_⟩
                simp at hh2
                rw [k2 hh2.1, hh2.2]
              · cases h
            · rename_i sz es c k m hx0 hmx
              split at h
              · rename_i hcond
                obtain ⟨hsz, hmh, hhi⟩ := hcond
                subst hsz; subst hmh
                cases h
                rw [hx0] at hx hn
                simp [lenOf] at hn
                subst hn
                obtain ⟨A, cap, ex, k1, k2⟩ := hx.imm_len
                have := run_bounds (P := P) (m := m) (cap := cap) hρ hl1 hh1 (mx := mx) (by rw [hmx]; rfl) hle1 hle2 k1 (Nat.le_refl _) (by omega) (fun _ => by simpa using hhi)
                rw [ex] at hx
                exact ⟨_, fin ex this, hx.imm_sub hle1 hle2 (Nat.le_refl _) (by omega) _ fun _ => rfl⟩
              · cases h
            · rename_i k hx0 hmx
              split at h
              · rename_i hhi
                cases h
                rw [hx0] at hx hn
                have e1 := hx.nils_inv
                simp [lenOf] at hn
                subst hn
                have := run_bounds (P := P) (m := 0) (cap := 0) hρ hl1 hh1 (mx := mx) (by rw [hmx]; rfl) hle1 hle2 (Nat.le_refl _) hle2 (Nat.le_refl _) (fun _ => by simpa using hhi)
                refine ⟨_, fin e1 this, ?_⟩
                have a1 : hh = 0 := by omega
                have a2 : l = 0 := by omega
                subst a1; subst a2
                exact .nils
              · cases h
            · rename_i b off nn sz k m hx0 hmx
              split at h
              · rename_i hcond
                obtain ⟨hmh, hhl, hhi⟩ := hcond
                subst hmh; subst hhl
                cases h
                rw [hx0] at hx hn hm
                simp [lenOf] at hn
                subst hn
                obtain ⟨c, oo, cap, dz, hl⟩ := live_of hm (b := b) (n := 1) (by simp [headBlk])
                rcases hx.sl_live hl with ⟨cap', ex, k1, k2⟩ | ⟨rfl, a, ex⟩
                · have := run_bounds (P := P) (m := m) (cap := cap') hρ hl1 hh1 (mx := mx) (by rw [hmx]; rfl) (Nat.le_refl _) hle2 k1 (Nat.le_refl _) (by omega) (fun _ => by simpa using hhi)
                  refine ⟨_, fin ex this, ?_⟩
                  rw [Nat.sub_self]
                  exact .immE fun _ => rfl
                · have := run_bounds (P := P) (m := m) (cap := 0) hρ hl1 hh1 (mx := mx) (by rw [hmx]; rfl) (Nat.le_refl _) hle2 (Nat.le_refl _) (Nat.le_refl _) (by omega) (fun _ => by simpa using hhi)
                  refine ⟨_, fin ex this, ?_⟩
                  rw [Nat.sub_self]
                  exact .immE fun _ => rfl
              · cases h
            · cases h
          · cases h
        · cases h
    · cases h
  · rename_i hu
    split at h
    · rename_i s k l k' hh hx0 hlo hhi
      split at h
      · rename_i hle
        obtain ⟨hle1, hle2⟩ := hle
        cases h
        rw [hx0] at hx
        have ex := hx.str_inv
        obtain ⟨q1, rfl, hq1⟩ : ∃ q, lo = some q ∧ ρ q = .int k (.ofNat l) := by cases lo with | none => simp at hlo | some q => exact ⟨q, rfl, by simpa using hlo⟩
        obtain ⟨q2, rfl, hq2⟩ : ∃ q, hi = some q ∧ ρ q = .int k' (.ofNat hh) := by cases hi with | none => simp at hhi | some q => exact ⟨q, rfl, by simpa using hhi⟩
        have b1 : ∀ code, (Instr.sliceBound (ρc q1) hh code).run P w = .ok l w := fun code => run_bound (d := 0) hρ code (by rw [hq1]; rfl) hle1
        have b2 : ∀ code, (Instr.sliceBound (ρc q2) s.size code).run P w = .ok hh w := fun code => run_bound (d := 0) hρ code (by rw [hq2]; rfl) hle2
        refine ⟨.string (s.extract l hh), ?_, .str _⟩
        simp [execOp, ho, ex, Instr.sliceAt, Instr.slice, hT.run_under hu, Instr.sliceBounds, b1, b2]
      · cases h
    · cases h
  · cases h
end
end Go.Sy
