import Derived.Test.YtapfloegpaadgaaGreatSyEff
/- append, copy, clear. -/
set_option linter.unusedVariables false
set_option linter.unusedSimpArgs false
namespace Go.Sy

section
variable {P : Program} {tb : Tab} {X : Nat → Prop} {L : Loc} {w : World} {st : St} {ρ : Operand → AV} {ρc : Operand → Value}

/-- an owned place under a new name -/
theorem Ext.adopt {h : Hp} (H : HRel X L h w) {b n : Nat} (hn : h n = none) {c o cap sz : Nat} (hL : L b = .live c o cap sz) (o' cap' sz' : Nat) {w' : World} (hs : w'.heap.size = w.heap.size)
    (hsame : ∀ k, k ≠ c → w'.heap[k]? = w.heap[k]?) (h2 : w'.os = w.os) (h3 : w'.tape = w.tape) (h4 : w'.output = w.output) :
    Ext L w (Loc.set (Loc.set L b .dead) n (.live c o' cap' sz')) w' := by
  have hab := H.out n hn
  have hbn : b ≠ n := by intro e; rw [e, hab] at hL; cases hL
  refine ⟨by omega, fun k _ hk => hsame k (fun e => hk (e ▸ ⟨b, o, cap, sz, hL⟩)), fun i hi => ?_, fun k hk => .inl ?_, h2, h3, h4⟩
  · have e1 : i ≠ n := by intro e; rw [e] at hi; exact hi hab
    by_cases e : i = b
    · exact .inr (by simp [Loc.set, e, hbn])
    · exact .inl (by simp [Loc.set, e, e1])
  · obtain ⟨i, o1, cap1, sz1, hi⟩ := hk
    by_cases e1 : i = n
    · simp only [Loc.set, e1, if_true] at hi; cases hi; exact ⟨b, o, cap, sz, hL⟩
    · by_cases e : i = b
      · simp [Loc.set, e, e1, hbn] at hi
      · simp only [Loc.set, e, e1, if_false] at hi; exact ⟨i, _, _, _, hi⟩
theorem HRel.adopt {h : Hp} (H : HRel X L h w) {b n : Nat} (hn : h n = none) {c o cap sz : Nat} (hL : L b = .live c o cap sz) (o' cap' sz' : Nat) {w' : World} (hs : w'.heap.size = w.heap.size)
    (hsame : ∀ k, k ≠ c → w'.heap[k]? = w.heap[k]?) (h2 : w'.os = w.os) (h3 : w'.tape = w.tape) (h4 : w'.output = w.output)
    {x : Blk} (hx : x.alive = true) (hB : BRel X (Loc.set (Loc.set L b .dead) n (.live c o' cap' sz')) w' c o' cap' sz' x) :
    HRel X (Loc.set (Loc.set L b .dead) n (.live c o' cap' sz')) (Hp.set (Hp.set h b .dead) n x) w' := by
  have hE := Ext.adopt H hn hL o' cap' sz' hs hsame h2 h3 h4
  have hab := H.out n hn
  have hbn : b ≠ n := by intro e; rw [e, hab] at hL; cases hL
  have own : ∀ k, Owned (Loc.set (Loc.set L b .dead) n (.live c o' cap' sz')) k → Owned L k := by
    intro k hk
    obtain ⟨i, o1, cap1, sz1, hi⟩ := hk
    by_cases e1 : i = n
    · simp only [Loc.set, e1, if_true] at hi; cases hi; exact ⟨b, o, cap, sz, hL⟩
    · by_cases e : i = b
      · simp [Loc.set, e, e1, hbn] at hi
      · simp only [Loc.set, e, e1, if_false] at hi; exact ⟨i, _, _, _, hi⟩
  refine ⟨fun i hi => ?_, fun i hi => ?_, fun i y hi hy => ?_, fun i j k o1 cap1 sz1 o2 cap2 sz2 hi hj => ?_, fun k hk => by rw [hs]; exact H.lt k (own k hk), fun k hk => H.far k (own k hk), fun k hk => by rw [hs]; exact H.xlt k hk⟩
  · by_cases e : i = n
    · simp [Hp.set, e] at hi
    · by_cases e1 : i = b
      · simp [Hp.set, e, e1, hbn] at hi
      · simp only [Hp.set, e, e1, if_false] at hi; simp only [Loc.set, e, e1, if_false]; exact H.out i hi
  · by_cases e : i = n
    · simp only [Hp.set, e, if_true, Option.some.injEq] at hi; subst hi; simp [Blk.alive] at hx
    · by_cases e1 : i = b
      · simp [Loc.set, e, e1, hbn]
      · simp only [Hp.set, e, e1, if_false] at hi; simp only [Loc.set, e, e1, if_false]; exact H.dead i hi
  · by_cases e : i = n
    · simp only [Hp.set, e, if_true, Option.some.injEq] at hi; subst hi; exact ⟨_, _, _, _, by simp [Loc.set, e], hB⟩
    · by_cases e1 : i = b
      · simp only [Hp.set, e, e1, if_true, if_false, hbn, Option.some.injEq] at hi; subst hi; simp [Blk.alive] at hy
      · simp only [Hp.set, e, e1, if_false] at hi
        obtain ⟨k, o1, cap1, sz1, k1, k2⟩ := H.blk i y hi hy
        refine ⟨k, o1, cap1, sz1, by simp only [Loc.set, e, e1, if_false]; exact k1, k2.mono hE (hsame k fun ec => e1 ?_)⟩
        subst ec
        exact H.inj _ _ _ _ _ _ _ _ _ k1 hL
  · by_cases e : i = n <;> by_cases e' : j = n
    · rw [e, e']
    · by_cases e1 : j = b
      · simp [Loc.set, e', e1, hbn] at hj
      · simp only [Loc.set, e, e', e1, if_true, if_false] at hi hj
        cases hi
        exact absurd (H.inj _ _ _ _ _ _ _ _ _ hj hL) e1
    · by_cases e1 : i = b
      · simp [Loc.set, e, e1, hbn] at hi
      · simp only [Loc.set, e, e', e1, if_true, if_false] at hi hj
        cases hj
        exact absurd (H.inj _ _ _ _ _ _ _ _ _ hi hL) e1
    · by_cases e1 : i = b
      · simp [Loc.set, e, e1, hbn] at hi
      · by_cases e2 : j = b
        · simp [Loc.set, e', e2, hbn] at hj
        · simp only [Loc.set, e, e', e1, e2, if_false] at hi hj
          exact H.inj i j k o1 cap1 sz1 o2 cap2 sz2 hi hj

/-- what stands in a slice, read -/
theorem src_part (H : HRel X L st.hp w) {x : AV} {xv : Value} (hx : VRel X L w x xv) {size n : Nat} {new : List AV} (hn : lenOf x = some n) (hc : cellsOf st size x = some new) (hl : n * size = new.length) :
    ∃ A c ys, xv = .slice A n c ∧ VRels X L w new ys ∧ (n ≤ c) ∧ (A = none → n = 0) ∧ ∀ k, k ≤ n → ∀ w' : World, w'.heap = w.heap → (Builtin.firstCells size k xv).run P w' = .ok (ys.take (k * size)).toArray w' := by
  have none_ok : ∀ (A : Option Addr) (c : Nat) (k : Nat), k ≤ 0 → ∀ (w' : World), (Builtin.firstCells size k (.slice A 0 c)).run P w' = .ok ((List.nil : List Value).take (k * size)).toArray w' := by
    intro A c k hk w'
    have : k = 0 := by omega
    subst this
    cases A with
    | none => simp [Builtin.firstCells]
    | some a => simp [Builtin.firstCells, loadCells, loadCellsFrom]
  have some_ok : ∀ (a : Addr) (c : Nat) (ys : List Value), ys.length = n * size → (∀ j v, ys[j]? = some v → w.cell? (a.add j) = some v) → ∀ k, k ≤ n → ∀ w' : World, w'.heap = w.heap → (Builtin.firstCells size k (.slice (some a) n c)).run P w' = .ok (ys.take (k * size)).toArray w' := by
    intro a c ys hy hcell k hk w' hw
    have hmul : k * size ≤ n * size := Nat.mul_le_mul_right _ hk
    refine run_firstCells_some (P := P) w' size k a n c (ys.take (k * size)) (by simp; omega) fun j v hj => ?_
    rw [List.getElem?_take] at hj
    split at hj
    · have := hcell j v hj
      simpa [World.cell?, hw] using this
    · cases hj
  cases x <;> simp only [cellsOf, lenOf, Option.some.injEq, reduceCtorEq] at hn hc
  case nils =>
    subst hn hc
    cases hx
    exact ⟨_, _, [], rfl, .nil, Nat.le_refl _, fun _ => rfl, fun k hk w' _ => none_ok _ _ k hk w'⟩
  case sl b off len sz =>
    subst hn
    split at hc
    · rename_i cs hb
      split at hc
      · rename_i hcc
        obtain ⟨rfl, hfit⟩ := hcc
        cases hc
        have hal : (st.get b).alive = true := by rw [hb]; rfl
        obtain ⟨c, o, cap, dz, hL, hB⟩ := H.at (St.hp_some hal) hal
        rw [hb] at hB
        obtain ⟨arr, e, k1, k2, k3, k4⟩ := hB
        rcases hx.sl_live hL with ⟨cap', rfl, h1, h2⟩ | ⟨rfl, a, rfl⟩
        · have hrel := (k4.drop off).take (len * sz)
          refine ⟨_, _, _, rfl, hrel, h1, (by intro h; cases h), some_ok _ _ _ ?_ fun j v hj => ?_⟩
          · rw [← hrel.1]; exact hl.symm
          · rw [add_none]
            simp only [World.cell?, k1]
            rw [List.getElem?_take] at hj
            split at hj
            · rw [List.getElem?_drop, List.getElem?_take] at hj
              split at hj
              · rw [List.getElem?_drop, Array.getElem?_toList] at hj
                rw [Nat.add_assoc]; exact hj
              · cases hj
            · cases hj
        · refine ⟨_, _, [], rfl, ?_, Nat.le_refl _, fun _ => rfl, fun k hk w' _ => none_ok _ _ k hk w'⟩
          simp only [Nat.zero_mul, List.take_zero]
          exact .nil
      · cases hc
    · cases hc
  case imm sz es clip =>
    subst hn
    split at hc
    · rename_i hsz
      subst hsz
      cases hc
      cases hx with
      | immE h => exact ⟨_, _, [], rfl, .nil, Nat.zero_le _, fun _ => rfl, fun k hk w' _ => none_ok _ _ k hk w'⟩
      | @imm _ _ bl o cap _ xs h0 h1 h2 h3 h4 h5 h6 h7 h8 =>
        have hlen : ((List.range (es.length * sz)).map xs).length = es.length * sz := by simp
        refine ⟨_, _, (List.range (es.length * sz)).map xs, rfl, ⟨by rw [hlen]; exact hl.symm, fun j v x hj hx => ?_⟩, h6, (by intro h; cases h), some_ok _ _ _ hlen fun j v hj => ?_⟩
        · have hjl : j < es.length * sz := by have := (List.getElem?_eq_some_iff.1 hx).1; rw [hlen] at this; exact this
          simp [hjl] at hx
          rw [← hx]
          exact h5 j v hj
        · have hjl : j < es.length * sz := by have := (List.getElem?_eq_some_iff.1 hj).1; rw [hlen] at this; exact this
          simp [hjl] at hj
          rw [add_none, ← hj]
          have : j < (es.flatMap AV.cells).length := by omega
          exact h4 j _ (List.getElem?_eq_getElem this)
    · cases hc
theorem src_ok (H : HRel X L st.hp w) {x : AV} {xv : Value} (hx : VRel X L w x xv) {size n : Nat} {new : List AV} (hn : lenOf x = some n) (hc : cellsOf st size x = some new) (hl : n * size = new.length) :
    ∃ A c ys, xv = .slice A n c ∧ VRels X L w new ys ∧ (n ≤ c) ∧ (A = none → n = 0) ∧ ∀ w' : World, w'.heap = w.heap → (Builtin.firstCells size n xv).run P w' = .ok ys.toArray w' := by
  obtain ⟨A, c, ys, h1, h2, h3, h4, h5⟩ := src_part (P := P) H hx hn hc hl
  refine ⟨A, c, ys, h1, h2, h3, h4, fun w' hw => ?_⟩
  have := h5 n (Nat.le_refl _) w' hw
  rwa [List.take_of_length_le (by have := h2.1; omega)] at this

/-- append within the room -/
theorem run_append_in (t ty e : Nat) (i : TypeInfo) (ht : P.underlying t = some (.slice e)) (hi : P.info? e = some i) (w w' : World) (B A : Option Addr) (m scap n c : Nat) (ys : List Value)
    (hf : (Builtin.firstCells i.size n (.slice A n c)).run P w = .ok ys.toArray w) (hroom : m + n ≤ scap)
    (hst : match B with | none => w' = w | some a => (storeCells (a.add (m * i.size)) ys).run P w = .ok () w') :
    (Builtin.append_ #[t, t] ty #[.slice B m scap, .slice A n c]).run P w = .ok (.slice B (m + n) scap) w' := by
  cases B with
  | none => simp only at hst; subst hst; simp [Builtin.append_, run_underlying ht, sizeOf, typeInfo, hi, Builtin.lenOf, hroom, hf]
  | some a => simp only at hst; simp [Builtin.append_, run_underlying ht, sizeOf, typeInfo, hi, Builtin.lenOf, hroom, hf, hst]
/-- append beyond it -/
theorem run_append_out (t ty e : Nat) (i : TypeInfo) (z : Value) (ht : P.underlying t = some (.slice e)) (hi : P.info? e = some i) (hz : i.zero = some z) (w : World) (B A : Option Addr) (m scap n c : Nat) (xs ys : List Value)
    (hfo : (Builtin.firstCells i.size m (.slice B m scap)).run P w.drew = .ok xs.toArray w.drew) (hf : (Builtin.firstCells i.size n (.slice A n c)).run P w.drew = .ok ys.toArray w.drew) (hroom : scap < m + n)
    (h63 : m + n ≤ 9223372036854775807) (hfit : (m + n) * i.bytes ≤ 140737488355328) :
    (Builtin.append_ #[t, t] ty #[.slice B m scap, .slice A n c]).run P w =
      .ok (.slice (some ⟨w.heap.size, 0, none⟩) (m + n) (grownCap w (m + n) scap e))
        (w.drew.alloc (.cells (xs.toArray ++ ys.toArray ++ Builtin.zeroCells z.cells (grownCap w (m + n) scap e - (m + n))) e)) := by
  have hn : ¬ (m + n ≤ scap) := by omega
  have h63' : ¬ (9223372036854775807 < ((m : Int) + (n : Int))) := by omega
  have h48 := growslice_fits hroom hfit
  have h48' : ¬ (281474976710656 < Builtin.nextslicecap (m + n) scap * i.bytes) := by omega
  simp [Builtin.append_, run_underlying ht, sizeOf, typeInfo, zeroValue, hi, hz, Builtin.lenOf, hn, h63', h48', Question.forced, hf, hfo, newRow, grownCap]
  congr 2
  apply Array.ext'
  simp [List.append_assoc]

def SliceOK (P : Program) (X : Nat → Prop) (L : Loc) (w : World) (s : Sem Value) (v : AV) (st' : St) : Prop :=
  ∃ x w' L', s.run P w = .ok x w' ∧ Ext L w L' w' ∧ HRel X L' st'.hp w' ∧ VRel X L' w' v x

theorem next_none (st : St) : st.hp st.next = none := by simp [St.hp]

/-- append into a new row -/
theorem append_out (hT : TabOK P tb) (H : HRel X L st.hp w) {t ty e : Nat} {i : TypeInfo} {z : AV} (hu : tb.under t = some (.slice e)) (hi : tb.info e = some i) (hz : tb.zero e = some z) (hzl : z.cells.length = i.size)
    {B A : Option Addr} {m scap n c : Nat} {xs ys : List Value} {olds news : List AV} (hxs : VRels X L w olds xs) (hys : VRels X L w news ys) (hol : olds.length = m * i.size) (hnl : news.length = n * i.size)
    (hfo : ∀ w' : World, w'.heap = w.heap → (Builtin.firstCells i.size m (.slice B m scap)).run P w' = .ok xs.toArray w')
    (hf : ∀ w' : World, w'.heap = w.heap → (Builtin.firstCells i.size n (.slice A n c)).run P w' = .ok ys.toArray w')
    (hroom : scap < m + n) (h63 : m + n ≤ 9223372036854775807) (hfit : (m + n) * i.bytes ≤ 140737488355328) (kill : Option Nat) (hk : ∀ b, kill = some b → st.hp b ≠ none) :
    SliceOK P X L w (Builtin.append_ #[t, t] ty #[.slice B m scap, .slice A n c]) (.sl st.next 0 (m + n) i.size) ((match kill with | none => st | some b => st.put b .dead 0 whole).new (.cells (olds ++ news))) := by
  obtain ⟨z', hz1, hz2⟩ := hT.run_zero hz w
  have hiz : i.zero = some z' := by
    have h1 := hz1
    simp only [zeroValue, Sem.run_bind, hT.run_info hi, Result.andThen_ok] at h1
    cases hzz : i.zero with
    | none => rw [hzz] at h1; simp at h1
    | some q => rw [hzz] at h1; simp at h1; rw [h1]
  have hzs : z'.cells.size = i.size := by have := (zero_cells (X := X) (L := L) (w := w) hz2).1; simp at this; omega
  have hrun := run_append_out (P := P) t ty e i z' (hT.under hu) (hT.info _ _ hi) hiz w B A m scap n c xs ys (hfo _ rfl) (hf _ rfl) hroom h63 hfit
  have hge := grownCap_ge w (m + n) scap e
  generalize hg : grownCap w (m + n) scap e = g at hrun hge
  generalize hcells : xs.toArray ++ ys.toArray ++ Builtin.zeroCells z'.cells (g - (m + n)) = cells at hrun
  have hsize : cells.size = g * i.size := by
    rw [← hcells]
    have h1 := hxs.1
    have h2 := hys.1
    simp only [Array.size_append, List.size_toArray, size_zeroCells, hzs, ← h1, ← h2, hol, hnl, ← Nat.add_mul]
    congr 1; omega
  -- the old block given up
  have step0 : ∃ L0, Ext L w L0 w ∧ HRel X L0 (match kill with | none => st | some b => st.put b .dead 0 whole).hp w ∧ (match kill with | none => st | some b => st.put b .dead 0 whole).next = st.next := by
    cases kill with
    | none => exact ⟨L, Ext.refl _ _, H, rfl⟩
    | some b =>
      have hb := hk b rfl
      have hlt : b < st.next := by
        rcases Nat.lt_or_ge b st.next with h | h
        · exact h
        · exact absurd (by simp [St.hp, Nat.not_lt.2 h]) hb
      exact ⟨_, Ext.kill hb, by rw [St.put_hp _ _ _ _ _ hlt]; exact H.kill hb, rfl⟩
  obtain ⟨L0, hE0, H0, hnx⟩ := step0
  generalize (match kill with | none => st | some b => st.put b .dead 0 whole) = st0 at H0 hnx ⊢
  have H1 := H0.same (w' := w.drew) rfl rfl rfl rfl
  have hE1 : Ext L w L0 w.drew := hE0.trans (Ext.ofEq rfl rfl rfl rfl)
  have hab : st0.hp st.next = none := by rw [← hnx]; exact next_none st0
  have hE2 := Ext.new H1 hab (.cells cells e) (cap := cells.size) (sz := i.size)
  have hE := hE1.trans hE2
  have hB : BRel X (Loc.set L0 st.next (.live w.drew.heap.size 0 cells.size i.size)) (w.drew.alloc (.cells cells e)) w.drew.heap.size 0 cells.size i.size (.cells (olds ++ news)) := by
    refine ⟨cells, e, alloc_get _ _, by omega, ?_, ?_⟩
    · simp only [List.length_append, hol, hnl, ← Nat.add_mul, hsize]
      exact Nat.mul_le_mul_right _ hge
    · have hh : (cells.toList.drop 0).take (olds ++ news).length = xs ++ ys := by
        rw [← hcells]
        have h1 := hxs.1
        have h2 := hys.1
        have : (olds ++ news).length = (xs ++ ys).length := by simp [h1, h2]
        rw [this]
        simp only [Array.toList_append, List.drop_zero]
        exact List.take_left
      rw [hh]
      exact (hxs.append hys).mono hE
  have H2 := H1.new hab rfl hB
  refine ⟨_, _, _, hrun, hE, ?_, ?_⟩
  · rw [St.new_hp, hnx]; exact H2
  · have := VRel.sl (X := X) (L := Loc.set L0 st.next (.live w.drew.heap.size 0 cells.size i.size)) (w := w.drew.alloc (.cells cells e)) (b := st.next) (off := 0) (len := m + n) (sz := i.size) (c := w.drew.heap.size) (o := 0) (cap := cells.size) (dz := i.size) (cap' := g) (by simp [Loc.set]) hge (by rw [hsize]; omega)
    simpa using this

theorem append_ok (hT : TabOK P tb) (H : HRel X L st.hp w) {t ty e : Nat} {i : TypeInfo} {z : AV} (hu : tb.under t = some (.slice e)) (hi : tb.info e = some i) (hz : tb.zero e = some z) (hzl : z.cells.length = i.size)
    {s x : AV} {sv xv : Value} (hs : VRel X L w s sv) (hx : VRel X L w x xv) {v : AV} {st' : St} (h : aAppend st i.size i.bytes s x = some (v, st')) :
    SliceOK P X L w (Builtin.append_ #[t, t] ty #[sv, xv]) v st' := by
  unfold aAppend at h
  split at h
  · rename_i m n new hm hn hnew
    split at h
    · rename_i hc
      obtain ⟨hc1, hc2, hc3, hc4, hc5⟩ := hc
      obtain ⟨A, c, ys, rfl, hys, hnc, hA, hf⟩ := src_ok (P := P) H hx hn hnew hc1
      have hnl : new.length = n * i.size := hc1.symm
      have hyone : ∀ y ∈ ys, y.oneCell' = true := by
        intro y hy
        obtain ⟨j, hj⟩ := List.getElem?_of_mem hy
        obtain ⟨hjl, -⟩ := List.getElem?_eq_some_iff.1 hj
        have hjv : j < new.length := by have := hys.1; omega
        exact (hys.2 j new[j] y (List.getElem?_eq_getElem hjv) hj).one (List.all_eq_true.1 hc2 _ (List.getElem_mem hjv))
      split at h
      · -- nil
        simp only [lenOf, Option.some.injEq] at hm
        subst hm
        cases hs
        split at h
        · rename_i hn0
          subst hn0
          cases h
          have e1 : ys = [] := by have := hys.1; simp at hnl; rw [hnl] at this; simpa using this.symm
          subst e1
          exact ⟨_, _, _, run_append_in t ty e i (hT.under hu) (hT.info _ _ hi) w w none A 0 0 0 c [] (hf w rfl) (Nat.le_refl _) rfl, Ext.refl _ _, H, .nils⟩
        · rename_i hn0
          cases h
          have := append_out (ty := ty) (B := none) (m := 0) (scap := 0) hT H hu hi hz hzl (xs := []) .nil hys (by simp) hnl (fun w' _ => by simp [Builtin.firstCells]) hf (by omega) hc4 hc3 none (by simp)
          simpa using this
      · -- shared rows
        rename_i sz es
        split at h
        · rename_i hsz
          subst hsz
          have hm' : m = es.length := by simpa [lenOf] using hm.symm
          subst hm'
          obtain ⟨B, scap, rfl, hle, hclip⟩ := hs.imm_len
          have hcap := hclip rfl
          subst hcap
          split at h
          · rename_i hn0
            subst hn0
            cases h
            have e1 : ys = [] := by have := hys.1; simp at hnl; rw [hnl] at this; simpa using this.symm
            subst e1
            refine ⟨_, w, L, run_append_in t ty e i (hT.under hu) (hT.info _ _ hi) w w B A es.length es.length 0 c [] (hf w rfl) (by omega) ?_, Ext.refl _ _, H, hs⟩
            cases B <;> simp [storeCells]
          · rename_i hn0
            cases h
            have hcl : es.length * i.size = (es.flatMap AV.cells).length := by
              cases hs with
              | immE _ => simp
              | imm xs h0 h1 h2 h3 h4 h5 h6 h7 h8 h9 =>
                clear h9 h4 h5 h6 h7 hle hclip hm h0 hc3 hc4
                induction es with
                | nil => simp
                | cons a es ih =>
                  have := ih (fun e he => h8 e (List.mem_cons_of_mem _ he))
                  rw [List.flatMap_cons, List.length_append, ← this, h8 a (List.mem_cons_self ..), List.length_cons, Nat.add_mul]; omega
            have hcells : cellsOf st i.size (.imm i.size es true) = some (es.flatMap AV.cells) := by simp [cellsOf]
            obtain ⟨B', c', xs, e2, hxs, _, _, hfo⟩ := src_ok (P := P) H hs rfl hcells hcl
            cases e2
            exact append_out (ty := ty) hT H hu hi hz hzl hxs hys hcl.symm hnl hfo hf (by omega) hc4 hc3 none (by simp)
        · cases h
      · -- an owned row
        rename_i b off len sz
        split at h
        · rename_i cs hb
          split at h
          · rename_i hfit
            obtain ⟨rfl, hfit⟩ := hfit
            have hm' : len = m := by simpa [lenOf] using hm
            subst hm'
            cases h
            have hal : (st.get b).alive = true := by rw [hb]; rfl
            have hbn := St.alive_lt hal
            have hsome := St.hp_some hal
            obtain ⟨cc, o, cap, dz, hL, hB⟩ := H.at hsome hal
            have hBB := hB
            rw [hb] at hB
            obtain ⟨arr, ee, k1, k2, k3, k4⟩ := hB
            have hcells : cellsOf st i.size (.sl b off len i.size) = some ((cs.drop off).take (len * i.size)) := by simp [cellsOf, hb, hfit]
            have hol : ((cs.drop off).take (len * i.size)).length = len * i.size := by simp; omega
            obtain ⟨B, scap, xs, rfl, hxs, hmc, hB0, hfo⟩ := src_ok (P := P) H hs rfl hcells hol.symm
            by_cases hroom : len + n ≤ scap
            · -- in place
              have hnone : (st.put b .dead 0 whole).hp st.next = none := by
                rw [St.put_hp _ _ _ _ _ hbn]
                have : st.next ≠ b := by omega
                simp [Hp.set, this, St.hp]
              rcases hs.sl_live hL with ⟨cap', e1, h1, h2⟩ | ⟨e0, a, e1⟩
              · cases e1
                have hmul : len * i.size + n * i.size ≤ scap * i.size := by rw [← Nat.add_mul]; exact Nat.mul_le_mul_right _ hroom
                have hy := hys.1
                have hst := run_storeCells_at P cc (o + off + len * i.size) ee ys 0 arr w k1 (by omega) hyone
                simp only [Nat.add_zero] at hst
                have hrun := run_append_in t ty e i (hT.under hu) (hT.info _ _ hi) w _ (some ⟨cc, o + off, none⟩) A len scap n c ys (hf w rfl) hroom (by simp only [add_none]; exact hst)
                have hs1 : (w.setRow cc (arr.toList.take (o + off + len * i.size) ++ ys ++ arr.toList.drop (o + off + len * i.size + ys.length)).toArray).heap.size = w.heap.size := by simp
                have hs2 := fun k hk => setRow_other w cc k (arr.toList.take (o + off + len * i.size) ++ ys ++ arr.toList.drop (o + off + len * i.size + ys.length)).toArray hk
                have hE := Ext.adopt H (next_none st) hL (o + off) (cap - off) i.size hs1 hs2 rfl rfl rfl
                refine ⟨_, _, _, hrun, hE, ?_, ?_⟩
                · rw [St.new_hp, St.put_hp _ _ _ _ _ hbn]
                  refine HRel.adopt H (next_none st) hL (o + off) (cap - off) i.size hs1 hs2 rfl rfl rfl rfl ?_
                  refine ⟨_, ee, setRow_heap w cc arr _ ee _ k1, by simp; omega, by simp; omega, ?_⟩
                  have hh : ((arr.toList.take (o + off + len * i.size) ++ ys ++ arr.toList.drop (o + off + len * i.size + ys.length)).toArray.toList.drop (o + off)).take ((cs.drop off).take (len * i.size) ++ new).length = ((arr.toList.drop o).take cs.length |>.drop off).take (len * i.size) ++ ys := by
                    apply List.ext_getElem?
                    intro j
                    have hlen1 : ((cs.drop off).take (len * i.size) ++ new).length = len * i.size + n * i.size := by rw [List.length_append, hol, hnl]
                    rw [hlen1, List.getElem?_take]
                    by_cases hj : j < len * i.size
                    · rw [if_pos (by omega), List.getElem?_drop, List.getElem?_append_left (by simp; omega), List.getElem?_append_left (by simp; omega), List.getElem?_append_left (by simp; omega)]
                      rw [List.getElem?_take, if_pos (by omega), List.getElem?_take, if_pos hj, List.getElem?_drop, List.getElem?_take, if_pos (by omega), List.getElem?_drop]
                      congr 1; omega
                    · by_cases hj2 : j < len * i.size + n * i.size
                      · rw [if_pos hj2, List.getElem?_drop, List.getElem?_append_left (by simp; omega), List.getElem?_append_right (by simp; omega), List.getElem?_append_right (by simp; omega)]
                        congr 1; simp; omega
                      · rw [if_neg hj2]
                        symm; apply List.getElem?_eq_none; simp; omega
                  rw [hh]
                  exact (((k4.drop off).take (len * i.size)).append hys).mono hE
                · have := VRel.sl (X := X) (L := Loc.set (Loc.set L b .dead) st.next (.live cc (o + off) (cap - off) i.size)) (w := w.setRow cc (arr.toList.take (o + off + len * i.size) ++ ys ++ arr.toList.drop (o + off + len * i.size + ys.length)).toArray) (b := st.next) (off := 0) (len := len + n) (sz := i.size) (by simp [Loc.set]; exact ⟨rfl, rfl, rfl, rfl⟩) hroom (by omega)
                  simpa using this
              · cases e1
                have hn0 : n = 0 := by omega
                subst hn0
                have e1 : ys = [] := by have := hys.1; simp at hnl; rw [hnl] at this; simpa using this.symm
                subst e1
                have hrun := run_append_in t ty e i (hT.under hu) (hT.info _ _ hi) w w (some a) A 0 0 0 c [] (hf w rfl) hroom (by simp [storeCells])
                have hE := Ext.adopt H (next_none st) hL (o + off) (cap - off) i.size (w' := w) rfl (fun _ _ => rfl) rfl rfl rfl
                refine ⟨_, w, _, hrun, hE, ?_, ?_⟩
                · rw [St.new_hp, St.put_hp _ _ _ _ _ hbn]
                  refine HRel.adopt H (next_none st) hL (o + off) (cap - off) i.size rfl (fun _ _ => rfl) rfl rfl rfl rfl ?_
                  have hnn : new = [] := List.eq_nil_of_length_eq_zero (by simpa using hnl)
                  subst hnn
                  exact ⟨arr, ee, k1, by omega, by simp, by simp; exact .nil⟩
                · exact .slE (by simp [Loc.set])
            · exact append_out (ty := ty) hT H hu hi hz hzl hxs hys hol hnl hfo hf (by omega) hc4 hc3 (some b) (fun b' hb' => by cases hb'; rw [hsome]; simp)
          · cases h
        · cases h
      · cases h
    · cases h
  · cases h

theorem list1 {α : Type} {a : Array α} {x : α} (h : a.toList = [x]) : a = #[x] := by apply Array.ext'; rw [h]
theorem list2 {α : Type} {a : Array α} {x y : α} (h : a.toList = [x, y]) : a = #[x, y] := by apply Array.ext'; rw [h]

theorem head_under {c : Call} {d : TypeDesc} (h : (c.argTypes.toList.head?).bind tb.under = some d) : ∃ t, c.argTypes[0]? = some t ∧ tb.under t = some d := by
  cases hh : c.argTypes.toList.head? with
  | none => rw [hh] at h; simp at h
  | some t => rw [hh] at h; refine ⟨t, ?_, by simpa using h⟩; rw [List.head?_eq_getElem?] at hh; rw [← Array.getElem?_toList]; exact hh

theorem eff_builtin (hT : TabOK P tb) (H : HRel X L st.hp w) (hρ : OpRel X L w ρ ρc) {o : Oper} {c : Call} (ho : o.op = .call c) {b : Builtin} (hc : c.callee = .builtin b) {v : AV} {st' : St} (h : aBuiltin tb st b c.argTypes.toList (c.args.toList.map ρ) = .val v st') (hobl : AllObl st'.obl) : EffOK P X L w ρc o v st' := by
  have hargs := VRels.map hρ c.args
  generalize hal : c.args.toList.map ρ = al at h hargs
  unfold aBuiltin bAppend bCopy bClear at h
  split at h
  · -- append
    rename_i s x
    obtain ⟨sv, r1, e1, hs, hr1⟩ := hargs.cons_inv
    obtain ⟨xv, r2, e2, hx, hr2⟩ := hr1.cons_inv
    have e3 : r2 = [] := by have := hr2.1; simp at this; exact List.eq_nil_of_length_eq_zero this.symm
    subst e3
    subst e2
    have ea := list2 e1
    split at h
    · rename_i t u hat
      have et := list2 hat
      split at h
      · rename_i e hu
        split at h
        · rename_i i z hi hz
          split at h
          · rename_i hcc
            obtain ⟨rfl, hzl⟩ := hcc
            split at h
            · rename_i v' st1 happ
              cases h
              obtain ⟨y, w', L', hrun, hE, hH, hv⟩ := append_ok (ty := o.type) hT H hu hi hz hzl hs hx happ
              refine ⟨.value y, y, w', L', ?_, .inl rfl, hE, hH, hv⟩
              simp only [execOp, ho, resolve, hc, Sem.run_bind, Sem.run_pure, Result.andThen_ok, invoke, builtin, ea, et, hrun]
            · cases h
          · cases h
        · cases h
      · cases h
    · cases h
  · -- copy
    rename_i d x
    obtain ⟨dv, r1, e1, hd, hr1⟩ := hargs.cons_inv
    obtain ⟨xv, r2, e2, hx, hr2⟩ := hr1.cons_inv
    have e3 : r2 = [] := by have := hr2.1; simp at this; exact List.eq_nil_of_length_eq_zero this.symm
    subst e3
    subst e2
    have ea := list2 e1
    split at h
    · rename_i e m hu hm
      obtain ⟨t, ht, hut⟩ := head_under hu
      split at h
      · rename_i size hsz
        split at h
        · rename_i new hnew
          split at h
          · rename_i hlen
            obtain ⟨A, cp, ys, rfl, hys, hmc, hA, hf⟩ := src_part (P := P) H hx hm hnew hlen
            have hargt : c.argTypes[0]? = some t := ht
            have base : ∀ (B : Option Addr) (dl dcap : Nat) (w' : World), dv = .slice B dl dcap → (match B with | none => w' = w | some a => (storeCells a (ys.take (min m dl * size))).run P w = .ok () w') →
                (execOp ρc o).run P w = .ok (.value (.int .i64 ((min m dl : Nat) : Int))) w' := by
              intro B dl dcap w' hdv hst
              have hf' := hf (min m dl) (Nat.min_le_left _ _) w rfl
              have hmin : Nat.min m dl = min m dl := rfl
              cases B with
              | none =>
                simp only at hst
                subst hst
                simp only [execOp, ho, resolve, hc, Sem.run_bind, Sem.run_pure, Result.andThen_ok, invoke, builtin, ea, hdv]
                simp only [Builtin.copy_, hargt, List.getElem?_toArray, List.getElem?_cons_zero, List.getElem?_cons_succ, Sem.run_bind, hT.run_under hut, Result.andThen_ok, Builtin.lenOf, Sem.run_pure, hT.run_size hsz, hmin, hf']
                rfl
              | some a =>
                simp only at hst
                simp only [execOp, ho, resolve, hc, Sem.run_bind, Sem.run_pure, Result.andThen_ok, invoke, builtin, ea, hdv]
                simp only [Builtin.copy_, hargt, List.getElem?_toArray, List.getElem?_cons_zero, List.getElem?_cons_succ, Sem.run_bind, hT.run_under hut, Result.andThen_ok, Builtin.lenOf, Sem.run_pure, hT.run_size hsz, hmin, hf', hst]
                rfl
            split at h
            · cases h
              cases hd
              refine ⟨.value _, _, w, L, base none 0 0 w rfl rfl, .inl rfl, Ext.refl _ _, H, ?_⟩
              simp only [Nat.min_zero]
              exact .int _ _
            · rename_i b off n sz'
              split at h
              · rename_i cs hb
                split at h
                · rename_i cs' st1 hask
                  cases h
                  obtain ⟨q1, q2, q3, q4, q5, q6⟩ := askC_ok hask
                  have hal : (st.get b).alive = true := by rw [hb]; rfl
                  have hbn := St.alive_lt hal
                  have hhp : st.hp b = some (.cells cs) := by rw [St.hp_some hal, hb]
                  have hsub := hys.take (min m n * size)
                  obtain ⟨cc, oo, cap, dz, hL, w', hrun, hE, hH⟩ := store_block (P := P) H hhp hsub (q1 hobl)
                  rcases hd.sl_live hL with ⟨cap', rfl, h1, h2⟩ | ⟨rfl, a, rfl⟩
                  · refine ⟨.value _, _, w', L, base _ n cap' w' rfl hrun, .inl rfl, hE, ?_, .int _ _⟩
                    rw [St.put_hp _ _ _ _ _ (by rw [q4]; exact hbn), hp_of_eq q3 q4]
                    exact hH
                  · refine ⟨.value _, _, w, L, base _ 0 0 w rfl (by simp [storeCells]), .inl rfl, Ext.refl _ _, ?_, .int _ _⟩
                    rw [St.put_hp _ _ _ _ _ (by rw [q4]; exact hbn), hp_of_eq q3 q4]
                    have hst := q1 hobl
                    unfold storeC at hst
                    split at hst
                    · cases hst
                      simp only [Nat.min_zero, Nat.zero_mul, List.take_zero, setL_nil]
                      have : Hp.set st.hp b (.cells cs) = st.hp := by
                        funext i
                        by_cases e : i = b
                        · subst e; simp [Hp.set, hhp]
                        · simp [Hp.set, e]
                      rw [this]; exact H
                    · cases hst
                · cases h
              · cases h
            · cases h
          · cases h
        · cases h
      · cases h
    · cases h
  · -- clear
    rename_i d
    obtain ⟨dv, r1, e1, hd, hr1⟩ := hargs.cons_inv
    have e3 : r1 = [] := by have := hr1.1; simp at this; exact List.eq_nil_of_length_eq_zero this.symm
    subst e3
    have ea := list1 e1
    split at h
    · rename_i e hu
      obtain ⟨t, ht, hut⟩ := head_under hu
      cases h
      cases hd
      refine ⟨.value undef, undef, w, L, ?_, .inl rfl, Ext.refl _ _, H, undef_rel⟩
      simp only [execOp, ho, resolve, hc, Sem.run_bind, Sem.run_pure, Result.andThen_ok, invoke, builtin, ea]
      simp only [Builtin.clear_, ht, List.getElem?_toArray, List.getElem?_cons_zero, Sem.run_bind, hT.run_under hut, Result.andThen_ok, Sem.run_pure]
      rfl
    · rename_i e b off n sz hu
      obtain ⟨t, ht, hut⟩ := head_under hu
      split at h
      · rename_i z size cs hz hsz hb
        have hal : (st.get b).alive = true := by rw [hb]; rfl
        have hbn := St.alive_lt hal
        have hhp : st.hp b = some (.cells cs) := by rw [St.hp_some hal, hb]
        split at h
        · rename_i hn
          subst hn
          cases h
          obtain ⟨cc, oo, cap, dz, hL, _⟩ := H.at hhp rfl
          refine ⟨.value undef, undef, w, L, ?_, .inl rfl, Ext.refl _ _, H, undef_rel⟩
          rcases hd.sl_live hL with ⟨cap', rfl, h1, h2⟩ | ⟨_, a, rfl⟩
          · simp only [execOp, ho, resolve, hc, Sem.run_bind, Sem.run_pure, Result.andThen_ok, invoke, builtin, ea]
            simp only [Builtin.clear_, ht, List.getElem?_toArray, List.getElem?_cons_zero, Sem.run_bind, hT.run_under hut, Result.andThen_ok, Sem.run_pure]
            rfl
          · simp only [execOp, ho, resolve, hc, Sem.run_bind, Sem.run_pure, Result.andThen_ok, invoke, builtin, ea]
            simp only [Builtin.clear_, ht, List.getElem?_toArray, List.getElem?_cons_zero, Sem.run_bind, hT.run_under hut, Result.andThen_ok, Sem.run_pure]
            rfl
        · rename_i hn
          split at h
          · rename_i hzl
            obtain ⟨hzl, hz0⟩ := hzl
            split at h
            · rename_i cs' st1 hask
              cases h
              obtain ⟨q1, q2, q3, q4, q5, q6⟩ := askC_ok hask
              obtain ⟨z', hz1, hz2⟩ := hT.run_zero hz w
              have hzr := zero_cells (X := X) (L := L) (w := w) hz2
              have hzeros := zeros_ok hzr (by omega) n
              obtain ⟨cc, oo, cap, dz, hL, w', hrun, hE, hH⟩ := store_block (P := P) H hhp hzeros (q1 hobl)
              rcases hd.sl_live hL with ⟨cap', rfl, h1, h2⟩ | ⟨rfl, a, rfl⟩
              · refine ⟨.value undef, undef, w', L, ?_, .inl rfl, hE, ?_, undef_rel⟩
                · obtain ⟨n', rfl⟩ : ∃ n', n = n' + 1 := ⟨n - 1, by omega⟩
                  simp only [execOp, ho, resolve, hc, Sem.run_bind, Sem.run_pure, Result.andThen_ok, invoke, builtin, ea]
                  simp only [Builtin.clear_, ht, List.getElem?_toArray, List.getElem?_cons_zero, Sem.run_bind, hT.run_under hut, Result.andThen_ok, Sem.run_pure, hz1, Builtin.zeroCells, hrun]
                  rfl
                · rw [St.put_hp _ _ _ _ _ (by rw [q4]; exact hbn), hp_of_eq q3 q4]
                  exact hH
              · exact absurd rfl hn
            · cases h
          · cases h
      · cases h
    · cases h
  · cases h
  · cases h

/-- whatever an effect of its own gives, the machine's operation gives -/
theorem eff_val (hT : TabOK P tb) (H : HRel X L st.hp w) (hρ : OpRel X L w ρ ρc) {o : Oper} {v : AV} {st' : St} (h : aEff tb st ρ o.op = .val v st') (hobl : AllObl st'.obl) : EffOK P X L w ρc o v st' := by
  cases hop : o.op with
  | store t a x => rw [hop] at h; exact eff_store hT H hρ hop h hobl
  | mapUpdate t m k x => rw [hop] at h; exact eff_map hT H hρ (.inl hop) h
  | insert t m k x => rw [hop] at h; exact eff_map hT H hρ (.inr hop) h
  | call c =>
    rw [hop] at h
    simp only [aEff, eStore, eMap, eCall, eDefer, ePanic] at h
    cases hc : c.callee with
    | value f =>
      rw [hc] at h
      simp only [aCallV] at h
      split at h <;> cases h
    | builtin b => rw [hc] at h; exact eff_builtin hT H hρ hop hc h hobl
    | invoke r m => rw [hc] at h; cases h
  | defer c =>
    rw [hop] at h
    simp only [aEff, eStore, eMap, eCall, eDefer, ePanic] at h
    split at h
    · split at h <;> cases h
    · cases h
  | panic x =>
    rw [hop] at h
    simp only [aEff, eStore, eMap, eCall, eDefer, ePanic] at h
    split at h <;> cases h
  | _ => rw [hop] at h; simp [aEff, eStore, eMap, eCall, eDefer, ePanic] at h
end
end Go.Sy

/- The evaluator alone: what it writes, its log names; what has died stays dead; what it was told stays to be shown. -/
set_option linter.unusedVariables false
set_option linter.unusedSimpArgs false
namespace Go.Sy

def covered (l : Log) (b q : Nat) : Prop := ∃ e ∈ l, e.1 = b ∧ e.2.1 ≤ q ∧ q < e.2.1 + e.2.2
structure Keep (st st' : St) (l : Log) : Prop where
  next : st.next ≤ st'.next
  dead : ∀ b, b < st.next → st.get b = .dead → st'.get b = .dead
  same : ∀ b, b < st.next → ¬ covered l b live0 → match st.get b with
    | .cells cs => ∃ cs', st'.get b = .cells cs' ∧ ∀ q, ¬ covered l b q → cs'[q]? = cs[q]?
    | x => st'.get b = x
structure Adv (st st' : St) : Prop where
  obl : ∀ p ∈ st.obl, p ∈ st'.obl
  next : st.next ≤ st'.next
  go : AllObl st'.obl → Keep st st' st'.log
  log : ∀ e ∈ st.log, e.1 < st.next → e ∈ st'.log
theorem Adv.all {st st' : St} (h : Adv st st') (k : AllObl st'.obl) : AllObl st.obl := fun p hp => k p (h.obl p hp)

theorem Keep.same' {st : St} {st' : St} {l : Log} (h1 : st'.next = st.next) (h2 : ∀ b, b < st.next → st'.get b = st.get b) : Keep st st' l := by
  refine ⟨by omega, fun b hb h => by rw [h2 b hb, h], fun b hb _ => ?_⟩
  split
  · rename_i cs h; exact ⟨cs, by rw [h2 b hb, h], fun _ _ => rfl⟩
  · exact h2 b hb
theorem Keep.trans {a b c : St} {l m n : Log} (h : Keep a b l) (k : Keep b c m) (h1 : ∀ e ∈ l, e.1 < a.next → e ∈ n) (h2 : ∀ e ∈ m, e.1 < a.next → e ∈ n) : Keep a c n := by
  have cov1 : ∀ i q, i < a.next → ¬ covered n i q → ¬ covered l i q := by
    rintro i q hi hn ⟨e, he, h3, h4⟩
    exact hn ⟨e, h1 e he (by omega), h3, h4⟩
  have cov2 : ∀ i q, i < a.next → ¬ covered n i q → ¬ covered m i q := by
    rintro i q hi hn ⟨e, he, h3, h4⟩
    exact hn ⟨e, h2 e he (by omega), h3, h4⟩
  refine ⟨Nat.le_trans h.next k.next, fun i hi hd => k.dead i (Nat.lt_of_lt_of_le hi h.next) (h.dead i hi hd), fun i hi hn => ?_⟩
  have q1 := h.same i hi (cov1 i _ hi hn)
  have q2 := k.same i (Nat.lt_of_lt_of_le hi h.next) (cov2 i _ hi hn)
  split
  · rename_i cs hcs
    rw [hcs] at q1
    obtain ⟨cs', q3, q4⟩ := q1
    rw [q3] at q2
    obtain ⟨cs'', q5, q6⟩ := q2
    exact ⟨cs'', q5, fun q hq => (q6 q (cov2 i q hi hq)).trans (q4 q (cov1 i q hi hq))⟩
  · rename_i x hx
    split at q1
    · rename_i cs h'; exact absurd h' (hx cs)
    · rw [q1] at q2
      split at q2
      · rename_i cs h'; exact absurd h' (hx cs)
      · exact q2

theorem Adv.refl (st : St) : Adv st st := ⟨fun _ h => h, Nat.le_refl _, fun _ => .same' rfl fun _ _ => rfl, fun _ h _ => h⟩
theorem Adv.trans {a b c : St} (h : Adv a b) (k : Adv b c) : Adv a c :=
  ⟨fun p hp => k.obl p (h.obl p hp), Nat.le_trans h.next k.next,
    fun ho => (h.go (k.all ho)).trans (k.go ho) (fun e he hl => k.log e he (Nat.lt_of_lt_of_le hl h.next)) (fun e he _ => he),
    fun e he hl => k.log e (h.log e he hl) (Nat.lt_of_lt_of_le hl h.next)⟩

theorem blt_dec (a b : Nat) : Nat.blt a b = decide (a < b) := by rw [Bool.eq_iff_iff]; simp [Nat.blt_eq]
theorem St.tick_eq (s : St) : s.tick = { s with cost := s.cost + 1 } := by
  unfold St.tick forceL forceN forceT
  cases h1 : s.tape <;> cases h2 : s.next <;> cases h3 : s.heap <;> simp only [] <;> rw [← h1, ← h2, ← h3]
theorem St.get_put (st : St) (b : Nat) (x : Blk) (o n i : Nat) : (st.put b x o n).get i = if i < st.next then (if i = b then x else st.get i) else .dead := by
  simp only [St.put, St.get, T.get?_set, blt_dec, Bool.cond_eq_ite, decide_eq_true_eq]
  by_cases h : i < st.next
  · by_cases e : i = b <;> simp [h, e]
  · simp [h]
theorem St.get_new (st : St) (x : Blk) (i : Nat) (h : i < st.next) : (st.new x).get i = st.get i := by
  have h1 : i < st.next + 1 := by omega
  have h2 : i ≠ st.next := by omega
  simp [St.new, St.get, T.get?_set, blt_dec, h, h1, h2]
theorem get_tick (st : St) (b : Nat) : st.tick.get b = st.get b := by rw [St.tick_eq]; rfl

theorem Adv.tick (st : St) : Adv st st.tick := by
  rw [St.tick_eq]
  exact ⟨fun _ h => h, Nat.le_refl _, fun _ => .same' rfl fun _ _ => rfl, fun _ h _ => h⟩
theorem Adv.new (st : St) (x : Blk) : Adv st (st.new x) :=
  ⟨fun _ h => h, by simp [St.new], fun _ => by
    refine ⟨by simp [St.new], fun b hb h => by rw [St.get_new st x b hb, h], fun b hb _ => ?_⟩
    rw [St.get_new st x b hb]
    split
    · rename_i cs h; exact ⟨cs, h, fun _ _ => rfl⟩
    · rfl, fun _ h _ => h⟩
theorem Adv.putW (st : St) (b : Nat) (x : Blk) (hb : st.get b ≠ .dead) : Adv st (st.put b x 0 whole) :=
  ⟨fun _ h => h, Nat.le_refl _, fun _ => by
    refine ⟨Nat.le_refl _, fun i hi h => ?_, fun i hi hn => ?_⟩
    · rw [St.get_put, if_pos hi, if_neg (by rintro rfl; exact hb h), h]
    · have hne : i ≠ b := by
        rintro rfl
        exact hn ⟨(i, 0, whole), List.mem_cons_self .., rfl, Nat.zero_le _, by simp [live0, whole]⟩
      rw [St.get_put, if_pos hi, if_neg hne]
      split
      · rename_i cs h; exact ⟨cs, h, fun _ _ => rfl⟩
      · rfl, fun e he _ => List.mem_cons_of_mem _ he⟩
theorem Adv.putC (st : St) (b off n : Nat) (cs cs' : List AV) (hb : st.get b = .cells cs) (h : AllObl st.obl → ∀ q, ¬ (off ≤ q ∧ q < off + n) → cs'[q]? = cs[q]?) : Adv st (st.put b (.cells cs') off n) :=
  ⟨fun _ h => h, Nat.le_refl _, fun ho => by
    refine ⟨Nat.le_refl _, fun i hi hd => ?_, fun i hi hn => ?_⟩
    · rw [St.get_put, if_pos hi, if_neg (by rintro rfl; rw [hb] at hd; cases hd), hd]
    · rw [St.get_put, if_pos hi]
      by_cases e : i = b
      · subst e
        rw [hb]
        simp only [if_true]
        exact ⟨cs', rfl, fun q hq => h ho q fun hh => hq ⟨(i, off, n), List.mem_cons_self .., rfl, hh⟩⟩
      · rw [if_neg e]
        split
        · rename_i cs h; exact ⟨cs, h, fun _ _ => rfl⟩
        · rfl, fun e he _ => List.mem_cons_of_mem _ he⟩

theorem askC_adv {st st' : St} {r : Option (List AV)} {cs : List AV} (h : st.askC r = some (cs, st')) : Adv st st' := by
  unfold St.askC at h
  split at h
  · rw [Bool.cond_eq_ite] at h
    split at h
    · cases h
      exact ⟨fun p hp => List.mem_cons_of_mem _ hp, Nat.le_refl _, fun _ => .same' rfl fun _ _ => rfl, fun _ h _ => h⟩
    · cases r with
      | none => simp at h
      | some v => simp at h; obtain ⟨rfl, rfl⟩ := h; exact .refl _
  · cases r with
    | none => simp at h
    | some v => simp at h; obtain ⟨rfl, rfl⟩ := h; exact .refl _
theorem askV_adv {st st' : St} {r : Option AV} {v : AV} (h : st.askV r = some (v, st')) : Adv st st' := by
  unfold St.askV at h
  split at h
  · rw [Bool.cond_eq_ite] at h
    split at h
    · cases h
      exact ⟨fun p hp => List.mem_cons_of_mem _ hp, Nat.le_refl _, fun _ => .same' rfl fun _ _ => rfl, fun _ h _ => h⟩
    · cases r with
      | none => simp at h
      | some v => simp at h; obtain ⟨rfl, rfl⟩ := h; exact .refl _
  · cases r with
    | none => simp at h
    | some v => simp at h; obtain ⟨rfl, rfl⟩ := h; exact .refl _

theorem storeC_other {cs vs cs' : List AV} {off n : Nat} (h : storeC cs off vs = some cs') (hn : vs.length ≤ n) (q : Nat) (hq : ¬ (off ≤ q ∧ q < off + n)) : cs'[q]? = cs[q]? := by
  unfold storeC at h
  split at h
  · rename_i hc
    cases h
    rw [setL_get _ _ _ _ hc.2, if_neg (by omega)]
  · cases h
theorem store_adv {st st1 : St} {b off n : Nat} {cs cs' vs : List AV} (hb : st.get b = .cells cs) (h : st.askC (storeC cs off vs) = some (cs', st1)) (hn : vs.length ≤ n) : Adv st (st1.put b (.cells cs') off n) := by
  obtain ⟨q1, q2, q3, q4, q5, q6⟩ := askC_ok h
  refine (askC_adv h).trans (Adv.putC st1 b off n cs cs' (by rw [get_of_eq q3 q4]; exact hb) fun ho q hq => ?_)
  exact storeC_other (q1 ho) hn q hq

theorem append_adv {st st' : St} {size bytes : Nat} {s x v : AV} (h : aAppend st size bytes s x = some (v, st')) : Adv st st' := by
  unfold aAppend at h
  split at h
  · split at h
    · split at h
      · split at h <;> cases h
        · exact .refl _
        · exact .new _ _
      · split at h
        · split at h <;> cases h
          · exact .refl _
          · exact .new _ _
        · cases h
      · split at h
        · rename_i cs hb
          split at h
          · cases h
            exact (Adv.putW _ _ _ (by rw [hb]; simp)).trans (.new _ _)
          · cases h
        · cases h
      · cases h
    · cases h
  · cases h

/-- the state that an effect comes to -/
def R.st? : R → Option St
  | .val _ st | .enter _ _ st | .yield _ _ st | .defer _ st | .recov st | .pan _ st => some st
  | .stuck => none
theorem callV_st {st st' : St} {f : AV} {args : List AV} (h : (aCallV st f args).st? = some st') : st' = st := by
  unfold aCallV at h
  split at h <;> simp [R.st?] at h
  · exact h.symm
  · exact h.symm
theorem builtin_adv {tb : Tab} {st st' : St} {b : Builtin} {argTypes : List Nat} {args : List AV} (h : (aBuiltin tb st b argTypes args).st? = some st') : Adv st st' := by
  unfold aBuiltin at h
  split at h
  · unfold bAppend at h
    split at h
    · split at h
      · split at h
        · split at h
          · split at h
            · rename_i v st1 ha
              simp only [R.st?, Option.some.injEq] at h
              subst h
              exact append_adv ha
            · cases h
          · cases h
        · cases h
      · cases h
    · cases h
  · unfold bCopy at h
    split at h
    · split at h
      · split at h
        · split at h
          · split at h
            · simp only [R.st?, Option.some.injEq] at h
              subst h
              exact .refl _
            · split at h
              · rename_i hb
                split at h
                · rename_i cs' st1 hask
                  simp only [R.st?, Option.some.injEq] at h
                  subst h
                  exact store_adv hb hask (by simp; omega)
                · cases h
              · cases h
            · cases h
          · cases h
        · cases h
      · cases h
    · cases h
  · unfold bClear at h
    split at h
    · simp only [R.st?, Option.some.injEq] at h
      subst h
      exact .refl _
    · split at h
      · rename_i z size cs hz hs hb
        split at h
        · simp only [R.st?, Option.some.injEq] at h
          subst h
          exact .refl _
        · split at h
          · rename_i hzl
            split at h
            · rename_i cs' st1 hask
              simp only [R.st?, Option.some.injEq] at h
              subst h
              exact store_adv hb hask (by rw [repeatL_length, hzl.1]; exact Nat.le_refl _)
            · cases h
          · cases h
      · cases h
    · cases h
  · simp only [R.st?, Option.some.injEq] at h
    subst h
    exact .refl _
  · cases h
theorem aEff_adv {tb : Tab} {st st' : St} {ρ : Operand → AV} {op : Op} (h : (aEff tb st ρ op).st? = some st') : Adv st st' := by
  unfold aEff at h
  split at h
  · unfold eStore at h
    split at h
    · split at h
      · rename_i hb
        split at h
        · rename_i hc
          split at h
          · rename_i cs' st1 hask
            simp only [R.st?, Option.some.injEq] at h
            subst h
            exact store_adv hb hask (by omega)
          · cases h
        · cases h
      · cases h
    · cases h
  · unfold eMap at h
    split at h
    · split at h
      · split at h
        · rename_i hb
          simp only [R.st?, Option.some.injEq] at h
          subst h
          exact Adv.putW _ _ _ (by rw [hb]; simp)
        · cases h
      · cases h
    · cases h
  · unfold eMap at h
    split at h
    · split at h
      · split at h
        · rename_i hb
          simp only [R.st?, Option.some.injEq] at h
          subst h
          exact Adv.putW _ _ _ (by rw [hb]; simp)
        · cases h
      · cases h
    · cases h
  · unfold eCall at h
    split at h
    · rw [callV_st h]; exact .refl _
    · exact builtin_adv h
    · cases h
  · unfold eDefer at h
    split at h
    · split at h
      · simp only [R.st?, Option.some.injEq] at h
        subst h
        exact .refl _
      · cases h
    · cases h
  · unfold ePanic at h
    split at h
    · simp only [R.st?, Option.some.injEq] at h
      subst h
      exact .refl _
    · cases h
  · cases h
/-- effects that are not of themselves leave the state -/
theorem aEff_st {tb : Tab} {st st' : St} {ρ : Operand → AV} {op : Op} (h : (aEff tb st ρ op).st? = some st') (hv : ∀ v s, aEff tb st ρ op ≠ .val v s) : st' = st := by
  cases op <;> simp only [aEff] at h hv
  case call c =>
    unfold eCall at h hv
    split at h
    · exact callV_st h
    · rename_i b hc
      simp only [hc] at hv
      unfold aBuiltin at h hv
      split at h
      · unfold bAppend at h hv
        repeat' split at h
        all_goals first
          | cases h
          | skip
        simp_all
      · unfold bCopy at h hv
        repeat' split at h
        all_goals first
          | (cases h; done)
          | simp_all
      · unfold bClear at h hv
        repeat' split at h
        all_goals first
          | (cases h; done)
          | simp_all
      · simp only [R.st?, Option.some.injEq] at h
        exact h.symm
      · cases h
    · cases h
  case store t a x =>
    unfold eStore at h hv
    repeat' split at h
    all_goals first
      | (cases h; done)
      | simp_all
  case mapUpdate t m k x =>
    unfold eMap at h hv
    repeat' split at h
    all_goals first
      | (cases h; done)
      | simp_all
  case insert t m k x =>
    unfold eMap at h hv
    repeat' split at h
    all_goals first
      | (cases h; done)
      | simp_all
  case defer c =>
    unfold eDefer at h
    repeat' split at h
    all_goals first
      | (cases h; done)
      | (simp only [R.st?, Option.some.injEq] at h; exact h.symm)
  case panic x =>
    unfold ePanic at h
    split at h
    · simp only [R.st?, Option.some.injEq] at h
      exact h.symm
    · cases h
  all_goals cases h
end Go.Sy

/- The evaluator alone: from state to state. -/
set_option linter.unusedVariables false
set_option linter.unusedSimpArgs false
namespace Go.Sy

theorem mem_below {l : Log} {n : Nat} {e : Nat × Nat × Nat} : e ∈ Log.below l n ↔ e ∈ l ∧ e.1 < n := by
  simp [Log.below, List.mem_filter, blt_dec]
theorem Adv.below {st st' : St} (h : Adv st st') : Adv st { st' with log := Log.below st'.log st.next } := by
  refine ⟨h.obl, h.next, fun ho => ?_, fun e he hl => mem_below.2 ⟨h.log e he hl, hl⟩⟩
  have k := h.go ho
  refine ⟨k.next, k.dead, fun b hb hn => ?_⟩
  have cov : ∀ q, ¬ covered (Log.below st'.log st.next) b q → ¬ covered st'.log b q := by
    rintro q hq ⟨e, he, h1, h2⟩
    exact hq ⟨e, mem_below.2 ⟨he, by omega⟩, h1, h2⟩
  have := k.same b hb (cov _ hn)
  split
  · rename_i cs hcs
    rw [hcs] at this
    obtain ⟨cs', h1, h2⟩ := this
    exact ⟨cs', h1, fun q hq => h2 q (cov q hq)⟩
  · rename_i x hx
    split at this
    · rename_i cs h'; exact absurd h' (hx cs)
    · exact this
theorem Keep.weaken {st st' : St} {l m : Log} (h : Keep st st' l) (hlm : ∀ e ∈ l, e.1 < st.next → e ∈ m) : Keep st st' m := by
  have := (Keep.same' (st := st) (st' := st) (l := []) rfl (fun _ _ => rfl)).trans h (n := m) (by simp) hlm
  exact this
theorem Adv.join {st st' : St} (h : Adv { st with log := [] } st') : Adv st { st' with log := st'.log ++ st.log } := by
  refine ⟨h.obl, h.next, fun ho => ?_, fun e he _ => List.mem_append.2 (.inr he)⟩
  have k := h.go ho
  have k2 : Keep st { st' with log := st'.log ++ st.log } st'.log := ⟨k.next, k.dead, k.same⟩
  exact k2.weaken fun e he _ => List.mem_append.2 (.inl he)

theorem meetHeap_get (a b : T Blk) (i : Nat) : ∀ (l : List Nat), i ∉ l → (meetHeap a b l).get? i = a.get? i
  | [], _ => rfl
  | j :: l, h => by
    have h1 : i ∉ l := fun hh => h (List.mem_cons_of_mem _ hh)
    have h2 : i ≠ j := fun hh => h (hh ▸ List.mem_cons_self ..)
    unfold meetHeap
    cases Blk.eqb ((a.get? j).getD .dead) ((b.get? j).getD .dead)
    · simp only [cond_false]
      rw [T.get?_set, if_neg h2, meetHeap_get a b i l h1]
    · exact meetHeap_get a b i l h1

/-! Told runs. -/
theorem get_over {st : St} {b : Nat} (h : st.next ≤ b) : st.get b = .dead := by
  simp [St.get, blt_dec, Nat.not_lt.2 h]
theorem get_put_ne (st : St) (b : Nat) (x : Blk) (o n i : Nat) (h : i ≠ b) : (st.put b x o n).get i = st.get i := by
  rw [St.get_put]
  split
  · first | rfl | rw [if_neg h]
  · rename_i hh; rw [get_over (Nat.not_lt.1 hh)]
structure Puts (st s : St) (S : Nat → Prop) : Prop where
  obl : s.obl = st.obl
  tape : s.tape = st.tape
  log : ∀ e ∈ st.log, e ∈ s.log
  next : st.next ≤ s.next
  get : ∀ b, b < st.next → ¬ S b → s.get b = st.get b
  named : ∀ b, S b → (b, 0, whole) ∈ s.log
theorem Puts.refl (st : St) (S : Nat → Prop) (h : ∀ b, ¬ S b) : Puts st st S := ⟨rfl, rfl, fun _ h => h, Nat.le_refl _, fun _ _ _ => rfl, fun b hb => absurd hb (h b)⟩
theorem Puts.trans {a b c : St} {S S' : Nat → Prop} (h : Puts a b S) (k : Puts b c S') : Puts a c (fun x => S x ∨ S' x) :=
  ⟨k.obl.trans h.obl, k.tape.trans h.tape, fun e he => k.log e (h.log e he), Nat.le_trans h.next k.next, fun x hx hn => (k.get x (Nat.lt_of_lt_of_le hx h.next) fun hh => hn (.inr hh)).trans (h.get x hx fun hh => hn (.inl hh)),
    fun x hx => by
      rcases hx with hx | hx
      · exact k.log _ (h.named x hx)
      · exact k.named x hx⟩
theorem Puts.cast {a b : St} {S S' : Nat → Prop} (h : Puts a b S) (hS : ∀ x, S x ↔ S' x) : Puts a b S' :=
  ⟨h.obl, h.tape, h.log, h.next, fun x hx hn => h.get x hx fun hh => hn ((hS x).1 hh), fun x hx => h.named x ((hS x).2 hx)⟩
theorem Puts.put (st : St) (b : Nat) (x : Blk) : Puts st (st.put b x 0 whole) (fun i => i = b) :=
  ⟨rfl, rfl, fun e he => List.mem_cons_of_mem _ he, Nat.le_refl _, fun i _ hn => get_put_ne _ _ _ _ _ _ hn, fun i hi => by subst hi; exact List.mem_cons_self ..⟩
theorem Puts.new (st : St) (x : Blk) : Puts st (st.new x) (fun _ => False) :=
  ⟨rfl, rfl, fun e he => he, by simp [St.new], fun i hi _ => St.get_new st x i hi, fun _ h => h.elim⟩
theorem putAll_puts (rho : List Nat) (post : List Blk) : ∀ (wr : List Nat) (st : St), Puts st (putAll st rho post wr) (fun b => ∃ i ∈ wr, rho[i]? = some b ∧ post[i]?.isSome = true)
  | [], st => .refl _ _ (by rintro b ⟨i, hi, _⟩; cases hi)
  | i :: wr, st => by
    unfold putAll
    split
    · rename_i b x hb hx
      refine ((Puts.put st b x).trans (putAll_puts rho post wr _)).cast fun c => ?_
      constructor
      · rintro (rfl | ⟨j, hj, h⟩)
        · exact ⟨i, List.mem_cons_self .., hb, by rw [hx]; rfl⟩
        · exact ⟨j, List.mem_cons_of_mem _ hj, h⟩
      · rintro ⟨j, hj, h1, h2⟩
        rcases List.mem_cons.1 hj with rfl | hj
        · rw [hb] at h1; cases h1; exact .inl rfl
        · exact .inr ⟨j, hj, h1, h2⟩
    · rename_i hne
      refine (putAll_puts rho post wr st).cast fun c => ?_
      constructor
      · rintro ⟨j, hj, h⟩; exact ⟨j, List.mem_cons_of_mem _ hj, h⟩
      · rintro ⟨j, hj, h1, h2⟩
        rcases List.mem_cons.1 hj with rfl | hj
        · obtain ⟨x, hx⟩ := Option.isSome_iff_exists.1 h2
          exact absurd hx (hne _ _ h1)
        · exact ⟨j, hj, h1, h2⟩
theorem newAll_puts : ∀ (l : List Blk) (st : St), Puts st (newAll st l) (fun _ => False)
  | [], st => .refl _ _ (fun _ h => h)
  | x :: l, st => ((Puts.new st x).trans (newAll_puts l _)).cast fun _ => by simp
theorem killAll_puts : ∀ (l : List Nat) (st : St), Puts st (killAll st l) (fun b => b ∈ l)
  | [], st => .refl _ _ (by simp)
  | b :: l, st => ((Puts.put st b .dead).trans (killAll_puts l _)).cast fun c => by simp
def upSet (rho lend wr : List Nat) (keep : Bool) (post : List Blk) : Nat → Prop := fun b => (∃ i ∈ wr, rho[i]? = some b ∧ post[i]?.isSome = true) ∨ (keep = false ∧ b ∈ lend)
theorem upSt_puts (st : St) (rho lend wr : List Nat) (keep : Bool) (post : List Blk) : Puts st (upSt st rho lend wr keep post) (upSet rho lend wr keep post) := by
  unfold upSt
  have h := (putAll_puts rho post wr st).trans (newAll_puts (post.drop rho.length) _)
  cases keep with
  | true => simp only [cond_true]; exact h.cast fun b => by simp [upSet]
  | false =>
    simp only [cond_false]
    refine (h.trans (killAll_puts lend _)).cast fun b => ?_
    simp [upSet]
theorem Puts.adv {st s : St} {S : Nat → Prop} (h : Puts st s S) (hS : ∀ b, S b → st.get b ≠ .dead) : Adv st s := by
  refine ⟨fun p hp => by rw [h.obl]; exact hp, h.next, fun _ => ⟨h.next, fun b hb hd => ?_, fun b hb hn => ?_⟩, fun e he _ => h.log e he⟩
  · rw [h.get b hb fun hs => hS b hs hd]; exact hd
  · rw [h.get b hb fun hs => hn ⟨_, h.named b hs, rfl, by simp [live0], by simp [live0, whole]⟩]
    split
    · rename_i cs hcs; exact ⟨cs, hcs, fun _ _ => rfl⟩
    · rfl
theorem rhoOK_inv {st : St} {rho lend wr : List Nat} (h : rhoOK st rho lend wr = true) : (rho ++ lend).Nodup ∧ (∀ b ∈ rho, (st.get b).alive = true) ∧ (∀ b ∈ lend, (st.get b).alive = true) ∧ ∀ i ∈ wr, i < rho.length := by
  simp only [rhoOK, Bool.and_eq_true] at h
  obtain ⟨⟨⟨h1, h2⟩, h3⟩, h4⟩ := h
  refine ⟨?_, fun b hb => List.all_eq_true.1 h2 b hb, fun b hb => List.all_eq_true.1 h3 b hb, fun i hi => ?_⟩
  · generalize rho ++ lend = l at h1
    clear h2 h3 h4
    induction l with
    | nil => exact .nil
    | cons x l ih =>
      simp only [nodupB, Bool.and_eq_true, Bool.not_eq_true'] at h1
      refine List.nodup_cons.2 ⟨fun hx => ?_, ih h1.2⟩
      have : l.any (Nat.beq x) = true := List.any_eq_true.2 ⟨x, hx, by simp [beq_dec]⟩
      rw [h1.1] at this; cases this
  · have := List.all_eq_true.1 h4 i hi
    simpa [blt_dec] using this
theorem told_inv {st st' : St} {rho lend wr rho' : List Nat} {post pre : List Blk} {vs : List AV} (h : told st rho lend wr post vs = some (pre, rho', st')) :
    ∃ post', invBlks st (posOf rho 0) rho = some pre ∧ renBlks (rhoNew st rho post) post = some post' ∧ rhoOK st rho lend wr = true ∧ cleanOK st (posOf rho 0) wr rho 0 = true ∧ rho.length ≤ post.length ∧ rho' = rhoNew st rho post ∧ st' = upSt st rho lend wr (keepOK lend post vs) post' := by
  unfold told at h
  split at h
  · rename_i pre0 post' h1 h2
    rw [Bool.cond_eq_ite] at h
    split at h
    · rename_i hc
      simp only [Bool.and_eq_true, Nat.ble_eq] at hc
      simp only [Option.some.injEq, Prod.mk.injEq] at h
      obtain ⟨rfl, rfl, rfl⟩ := h
      exact ⟨post', h1, h2, hc.1.1, hc.1.2, hc.2, rfl, rfl⟩
    · cases h
  · cases h
theorem alive_ne {x : Blk} (h : x.alive = true) : x ≠ .dead := by rintro rfl; cases h
theorem told_adv {st st' : St} {rho lend wr rho' : List Nat} {post pre : List Blk} {vs : List AV} (h : told st rho lend wr post vs = some (pre, rho', st')) : Adv st st' := by
  obtain ⟨post', h1, h2, h3, h4, h5, h6, rfl⟩ := told_inv h
  obtain ⟨q1, q2, q3, q4⟩ := rhoOK_inv h3
  refine (upSt_puts st rho lend wr _ post').adv ?_
  rintro b (⟨i, _, hb, _⟩ | ⟨_, hb⟩)
  · exact alive_ne (q2 b (List.mem_of_getElem? hb))
  · exact alive_ne (q3 b hb)
theorem Adv.more {st st' : St} (h : Adv st st') (ps : List Prop) : Adv st { st' with obl := ps ++ st'.obl } :=
  ⟨fun p hp => List.mem_append.2 (.inr (h.obl p hp)), h.next, fun ho => by
    have k := h.go fun p hp => ho p (List.mem_append.2 (.inr hp))
    exact ⟨k.next, k.dead, k.same⟩, h.log⟩
theorem Adv.tapeTo (st : St) (tp : List (Nat × Ask)) : Adv st { st with tape := tp } := ⟨fun _ h => h, Nat.le_refl _, fun _ => .same' rfl fun _ _ => rfl, fun _ h _ => h⟩

section
variable (tb : Tab) (rec : Cmd → St → Ex)
def RecAdv : Prop := ∀ cmd st r, rec cmd st = .ok r → Adv st r.st
variable {tb rec}
def Eff.st? : Eff → Option St
  | .val _ _ _ st | .pan _ _ st => some st
  | .err _ => none
theorem evYield_adv (ih : RecAdv rec) {l : Nat} {args : List AV} {fr : Fr} {bel : Below} {st st' : St} (h : (evYield tb rec l args fr bel st).st? = some st') : Adv st st' := by
  unfold evYield at h
  split at h
  · split at h
    · split at h
      · rename_i hr1
        have a1 := ih _ _ _ hr1
        split at h
        · rename_i hl
          split at h
          · rename_i hr2
            have a2 := ih _ _ _ hr2
            split at h
            · rename_i hl2
              have a3 := a1.trans ((Adv.putW _ _ _ (by rw [hl]; simp)).trans a2)
              split at h
              · simp only [Eff.st?, Option.some.injEq] at h
                subst h
                exact a3.trans (Adv.putW _ _ _ (by rw [hl2]; simp))
              · simp only [Eff.st?, Option.some.injEq] at h
                subst h
                exact a3.trans (Adv.putW _ _ _ (by rw [hl2]; simp))
              · simp only [Eff.st?, Option.some.injEq] at h
                subst h
                exact a3.trans (Adv.putW _ _ _ (by rw [hl2]; simp))
              · split at h
                · simp only [Eff.st?, Option.some.injEq] at h
                  subst h
                  exact a3
                · cases h
              · cases h
            · cases h
          · cases h
        · cases h
      · cases h
      · cases h
    · cases h
  · cases h
theorem evCall_adv (ih : RecAdv rec) {f : Nat} {args : List AV} {fr : Fr} {bel : Below} {st st' : St} (h : (evCall rec f args fr bel st).st? = some st') : Adv st st' := by
  unfold evCall at h
  split at h
  · rename_i hr
    simp only [Eff.st?, Option.some.injEq] at h
    subst h
    exact (ih _ _ _ hr).below
  · rename_i hr
    simp only [Eff.st?, Option.some.injEq] at h
    subst h
    exact (ih _ _ _ hr).below
  · cases h
  · cases h
theorem evEff_adv (ih : RecAdv rec) {o : Oper} {fr : Fr} {bel : Below} {st st' : St} (h : (evEff tb rec o fr bel st).st? = some st') : Adv st st' := by
  unfold evEff at h
  split at h
  · rename_i ha
    simp only [Eff.st?, Option.some.injEq] at h
    subst h
    exact aEff_adv (by rw [ha]; rfl)
  · rename_i ha
    have e := aEff_st (st' := _) (by rw [ha]; rfl) (by rw [ha]; simp)
    subst e
    split at h
    · rw [Bool.cond_eq_ite] at h
      split at h
      · unfold toldCall at h
        split at h
        · rename_i pre rho' st2 ht
          split at h <;> (simp only [Eff.st?, Option.some.injEq] at h; subst h; exact (Adv.tapeTo _ _).trans ((told_adv ht).more [_, _]))
        · cases h
      · exact evCall_adv ih h
    · exact evCall_adv ih h
  · rename_i ha
    have e := aEff_st (st' := _) (by rw [ha]; rfl) (by rw [ha]; simp)
    subst e
    exact evYield_adv ih h
  · rename_i ha
    have e := aEff_st (st' := _) (by rw [ha]; rfl) (by rw [ha]; simp)
    subst e
    split at h
    · simp only [Eff.st?, Option.some.injEq] at h
      subst h
      exact .refl _
    · cases h
  · rename_i ha
    have e := aEff_st (st' := _) (by rw [ha]; rfl) (by rw [ha]; simp)
    subst e
    split at h
    · split at h <;> simp only [Eff.st?, Option.some.injEq] at h <;> subst h <;> exact .refl _
    · cases h
  · rename_i ha
    have e := aEff_st (st' := _) (by rw [ha]; rfl) (by rw [ha]; simp)
    subst e
    simp only [Eff.st?, Option.some.injEq] at h
    subst h
    exact .refl _
  · cases h

theorem evOps_adv (ih : RecAdv rec) (ops : List Oper) : ∀ (l : List Nat) (fr : Fr) (bel : Below) (st : St) (r : Res), evOps tb rec ops l fr bel st = .ok r → Adv st r.st := by
  intro l
  induction l with
  | nil => intro fr bel st r h; cases h; exact .refl _
  | cons i rest ihl =>
    intro fr bel st r h
    simp only [evOps, opOne] at h
    split at h
    · cases h
    · split at h
      · cases h
      · exact (Adv.tick st).trans (ihl _ _ _ _ h)
      · split at h
        · unfold opV at h
          split at h
          · rename_i ha
            exact (askV_adv ha).trans ((Adv.tick _).trans (ihl _ _ _ _ h))
          · cases h
        · unfold opN at h
          split at h
          · exact (Adv.new st _).trans ((Adv.tick _).trans (ihl _ _ _ _ h))
          · cases h
        · unfold opE at h
          split at h
          · rename_i ha
            exact (evEff_adv (tb := tb) ih (st' := _) (by rw [ha]; rfl)).trans ((Adv.tick _).trans (ihl _ _ _ _ h))
          · rename_i ha
            cases h
            exact evEff_adv (tb := tb) ih (st' := _) (by rw [ha]; rfl)
          · cases h
theorem evDrawn_adv (ih : RecAdv rec) (ops : List Oper) (an : List Nat) : ∀ (l : List Nat) (acc : List (Nat × Log)) (fr : Fr) (bel : Below) (st : St) (r : Res), evDrawn tb rec ops an l acc fr bel st = .ok r → Adv st r.st := by
  intro l
  induction l with
  | nil => intro acc fr bel st r h; cases h; exact .refl _
  | cons i rest ihl =>
    intro acc fr bel st r h
    simp only [evDrawn, dOne] at h
    split at h
    · cases h
    · split at h
      · cases h
      · exact (Adv.tick st).trans (ihl _ _ _ _ _ h)
      · split at h
        · unfold dOpV at h
          rw [Bool.cond_eq_ite] at h
          split at h
          · split at h
            · rename_i ha
              exact (askV_adv ha).trans ((Adv.tick _).trans (ihl _ _ _ _ _ h))
            · cases h
          · cases h
        · unfold dOpN at h
          split at h
          · exact (Adv.new st _).trans ((Adv.tick _).trans (ihl _ _ _ _ _ h))
          · cases h
        · unfold dOpE at h
          split at h
          · rename_i ha
            exact (evEff_adv (tb := tb) ih (st' := _) (by rw [ha]; rfl)).join.trans ((Adv.tick _).trans (ihl _ _ _ _ _ h))
          · rename_i ha
            rw [Bool.cond_eq_ite] at h
            split at h
            · cases h
              exact (evEff_adv (tb := tb) ih (st' := _) (by rw [ha]; rfl)).join
            · cases h
          · cases h

theorem at_ok {n : Nat} {e : Ex} {r : Res} (h : e.at n = .ok r) : e = .ok r := by
  cases e with
  | ok r' => simpa [Ex.at] using h
  | err l => simp [Ex.at] at h

theorem choiceMeet_adv {st stA stB : St} {fr frA frB : Fr} {r : Res} (aA : Adv { st.new (.cells [.junk]) with log := [] } stA) (h : choiceMeet st.next (st.new (.cells [.junk])).next fr st.log frA frB stA stB = .ok r) : Adv st r.st := by
  unfold choiceMeet at h
  split at h
  · rw [Bool.cond_eq_ite] at h
    split at h
    · cases h
      have a0 : Adv st (st.new (.cells [.junk])) := .new _ _
      have aJ := a0.trans aA.join
      refine ⟨fun p hp => List.mem_append.2 (.inl (aJ.obl p hp)), aJ.next, fun ho => ?_, fun e he hl => List.mem_append.2 (.inr he)⟩
      have hoA : AllObl stA.obl := fun p hp => ho p (List.mem_append.2 (.inl hp))
      have k := aJ.go hoA
      have hlt : ∀ i, i < st.next → i ∉ (List.range (Nat.sub stA.next (st.new (.cells [.junk])).next)).map (· + (st.new (.cells [.junk])).next) := by
        intro i hi hm
        simp only [List.mem_map, List.mem_range] at hm
        obtain ⟨j, _, rfl⟩ := hm
        simp [St.new] at hi
        omega
      have hget : ∀ i, i < st.next → ({ stA with heap := meetHeap stA.heap stB.heap ((List.range (Nat.sub stA.next (st.new (.cells [.junk])).next)).map (· + (st.new (.cells [.junk])).next)), log := stA.log ++ stB.log ++ st.log, obl := stA.obl ++ stB.obl } : St).get i = stA.get i := by
        intro i hi
        simp only [St.get]
        rw [meetHeap_get _ _ _ _ (hlt i hi)]
      have k' : Keep st stA (stA.log ++ stB.log ++ st.log) := by
        have k0 : Keep st stA (stA.log ++ st.log) := ⟨k.next, k.dead, k.same⟩
        refine k0.weaken fun e he _ => ?_
        rcases List.mem_append.1 he with h1 | h1
        · exact List.mem_append.2 (.inl (List.mem_append.2 (.inl h1)))
        · exact List.mem_append.2 (.inr h1)
      refine ⟨k'.next, fun i hi hd => by rw [hget i hi]; exact k'.dead i hi hd, fun i hi hn => ?_⟩
      rw [hget i hi]
      exact k'.same i hi hn
    · cases h
  · cases h
theorem evChoice_adv (ih : RecAdv rec) {x d : Nat} {a b : Code} {fr : Fr} {bel : Below} {st : St} {r : Res} (h : evChoice rec x d a b fr bel st = .ok r) : Adv st r.st := by
  unfold evChoice at h
  simp only [] at h
  split at h
  · split at h
    · rename_i hA
      split at h
      · exact choiceMeet_adv (ih _ _ _ hA) h
      · cases h
      · cases h
    · cases h
    · cases h
  · cases h
theorem evCode_adv (ih : RecAdv rec) {c : Code} {fr : Fr} {bel : Below} {st : St} {r : Res} (h : evCode tb rec c fr bel st = .ok r) : Adv st r.st := by
  unfold evCode at h
  split at h
  · cases h; exact .refl _
  · cases h; exact .refl _
  · unfold evSeq at h
    split at h
    · rw [Bool.cond_eq_ite] at h
      split at h
      · exact evChoice_adv ih h
      · cases h
    · split at h
      · rename_i h1
        exact (ih _ _ _ h1).trans (ih _ _ _ h)
      · exact ih _ _ _ h
  · unfold evCond at h
    split at h
    · exact ih _ _ _ h
    · cases h
  · unfold evBlock at h
    split at h
    · rename_i h1
      have a := ih _ _ _ h1
      cases h
      exact a
    · exact ih _ _ _ h
  · rename_i b
    have loop : ∀ {fr : Fr} {bel : Below} {st : St} {r : Res}, evLoop' rec b fr bel st = .ok r → Adv st r.st := by
      intro fr bel st r h
      unfold evLoop' at h
      split at h
      · rename_i h1
        exact (ih _ _ _ h1).trans (ih _ _ _ h)
      · exact ih _ _ _ h
    unfold evLoop at h
    split at h
    · rw [Bool.cond_eq_ite] at h
      split at h
      · unfold toldFrag at h
        split at h
        · rename_i pre rho' st2 slots hr0 hd0 ht hsl
          split at h
          · cases h
            exact (Adv.tapeTo _ _).trans ((told_adv ht).more [_, _])
          · cases h
        · cases h
      · exact loop h
    · exact loop h
  · cases h; exact .refl _
  · cases h
  · cases h; exact .refl _
  · cases h
  · cases h
  · rename_i rid rops draw
    unfold evRegion at h
    have h := at_ok h
    cases draw
    · simp only [cond_false] at h
      exact evOps_adv (tb := tb) ih _ _ _ _ _ _ h
    · simp only [cond_true] at h
      exact evDrawn_adv (tb := tb) ih _ _ _ _ _ _ _ _ h
  · unfold evRange at h
    split at h
    · cases h
    · split at h
      · simp only [] at h
        split at h
        · rename_i hr
          have a1 := ((Adv.new st _).trans (Adv.new _ _)).trans (ih _ _ _ hr)
          split at h
          · rename_i hl
            split at h
            · cases h
            · have a2 := fun x => a1.trans (Adv.putW _ _ x (by rw [hl]; simp))
              split at h
              · cases h
                exact a2 _
              · cases h
                exact a2 _
              · cases h
                exact a2 _
              · cases h
          · cases h
        · rename_i hr
          have a := ((Adv.new st _).trans (Adv.new _ _)).trans (ih _ _ _ hr)
          cases h
          exact a
        · cases h
        · cases h
      · cases h
theorem evStep_adv (ih : RecAdv rec) {cmd : Cmd} {st : St} {r : Res} (h : evStep tb rec cmd st = .ok r) : Adv st r.st := by
  unfold evStep at h
  split at h
  · exact evCode_adv ih h
  · unfold evFn at h
    split at h
    · cases h
    · split at h
      · cases h
      · split at h
        · rename_i h1
          split at h
          · rename_i h2
            have a := (ih _ _ _ h1).trans (ih _ _ _ h2)
            cases h
            exact a
          · have := at_ok h
            exact (ih _ _ _ h1).trans (ih _ _ _ this)
        · rename_i h1
          split at h
          · rename_i h2
            have a := (ih _ _ _ h1).trans (ih _ _ _ h2)
            cases h
            exact a
          · have := at_ok h
            exact (ih _ _ _ h1).trans (ih _ _ _ this)
        · rename_i h1
          split at h
          · rename_i h2
            have a := (ih _ _ _ h1).trans (ih _ _ _ h2)
            cases h
            exact a
          · have := at_ok h
            exact (ih _ _ _ h1).trans (ih _ _ _ this)
        · cases h
        · cases h
  · unfold evUnwind at h
    split at h
    · split at h
      · split at h
        · split at h
          · cases h; exact .refl _
          · cases h
        · cases h
      · split at h
        · cases h; exact .refl _
        · cases h
      · cases h
      · cases h
    · split at h
      · split at h
        · rename_i hb
          exact (Adv.putW _ _ _ (by rw [hb]; simp)).trans (ih _ _ _ h)
        · cases h
      · split at h
        · rename_i hc
          have e := callV_st (st' := _) (by rw [hc]; rfl)
          subst e
          split at h
          · rename_i h1
            exact (ih _ _ _ h1).trans (ih _ _ _ h)
          · rename_i h1
            exact (ih _ _ _ h1).trans (ih _ _ _ h)
          · cases h
          · cases h
        · cases h
end
theorem ev_adv (tb : Tab) : ∀ n, RecAdv (ev tb n)
  | 0 => fun cmd st r h => by simp [ev] at h
  | n + 1 => fun cmd st r h => evStep_adv (ev_adv tb n) h
end Go.Sy

/- What is looked at ahead in code: where results go, and the plans of regions that draw their order. -/
set_option linter.unusedVariables false
set_option linter.unusedSimpArgs false
namespace Go.Sy

end Go.Sy

/- What a run of the evaluator says of the machine's steps. -/
set_option linter.unusedVariables false
set_option linter.unusedSimpArgs false
namespace Go.Sy

/-- the head of a chain of panics -/
def ChainR (X : Nat → Prop) (L : Loc) (w : World) (v : AV) (r : Bool) (ch : List PanicEntry) : Prop :=
  ∃ x older, ch = { v := x, recovered := r, goexit := false } :: older ∧ (∀ e ∈ older, e.goexit = false) ∧ VRel X L w v x
/-- the frame below -/
def BelR (X : Nat → Prop) (L : Loc) (w : World) : Below → CallKind → List Frame → Prop
  | .none, k, _ => k = .normal
  | .returning, k, cs => k = .deferred ∧ ∃ c rest, cs = c :: rest ∧ c.mode = .returning
  | .panicking v r, k, cs => k = .deferred ∧ ∃ c rest ch, cs = c :: rest ∧ c.mode = .panicking ch ∧ ChainR X L w v r ch
def Unders (k : CallKind) (cs cs' : List Frame) : Prop := cs' = cs ∨ (k = .deferred ∧ ∃ c rest m, cs = c :: rest ∧ cs' = { c with mode := m } :: rest)
theorem Unders.refl (k : CallKind) (cs : List Frame) : Unders k cs cs := .inl rfl
theorem Unders.trans {k : CallKind} {a b c : List Frame} (h : Unders k a b) (h' : Unders k b c) : Unders k a c := by
  rcases h with rfl | ⟨hk, f, rest, m, rfl, rfl⟩
  · exact h'
  · rcases h' with rfl | ⟨_, f', rest', m', e, rfl⟩
    · exact .inr ⟨hk, f, rest, m, rfl, rfl⟩
    · cases e
      exact .inr ⟨hk, f, rest, m', rfl, rfl⟩
theorem Unders.normal {cs cs' : List Frame} (h : Unders .normal cs cs') : cs' = cs := by
  rcases h with h | ⟨h, _⟩
  · exact h
  · cases h
theorem ChainR.mono {X : Nat → Prop} {L L' : Loc} {w w' : World} (h : Ext L w L' w') {v : AV} {r : Bool} {ch : List PanicEntry} (k : ChainR X L w v r ch) : ChainR X L' w' v r ch := by
  obtain ⟨x, older, h1, h2, h3⟩ := k
  exact ⟨x, older, h1, h2, h3.mono h⟩
theorem BelR.mono {X : Nat → Prop} {L L' : Loc} {w w' : World} (h : Ext L w L' w') {b : Below} {k : CallKind} {cs : List Frame} (hb : BelR X L w b k cs) : BelR X L' w' b k cs := by
  cases b with
  | none => exact hb
  | returning => exact hb
  | panicking v r =>
    obtain ⟨h1, c, rest, ch, h2, h3, h4⟩ := hb
    exact ⟨h1, c, rest, ch, h2, h3, h4.mono h⟩
theorem FRel.mono {X : Nat → Prop} {L L' : Loc} {w w' : World} (h : Ext L w L' w') {fr : Fr} {F : Frame} (hf : FRel X L w fr F) : FRel X L' w' fr F := by
  refine ⟨hf.fn, hf.tmps.mono h, hf.defs.mono h, ?_⟩
  have := hf.round
  split
  · rename_i e; rw [e] at this; exact this
  · rename_i l e
    rw [e] at this
    obtain ⟨c, h1, h2⟩ := this
    refine ⟨c, h1, ?_⟩
    rcases h2 with ⟨o, cap, sz, h2⟩ | h2
    · rcases h.loc l (by rw [h2]; simp) with h3 | h3
      · exact .inl ⟨o, cap, sz, h3.trans h2⟩
      · exact .inr h3
    · rcases h.loc l (by rw [h2]; simp) with h3 | h3
      · exact .inr (h3.trans h2)
      · exact .inr h3
/-- a frame with other things to do -/
theorem FRel.todo {X : Nat → Prop} {L : Loc} {w : World} {fr : Fr} {F : Frame} (hf : FRel X L w fr F) (k : List Item) (m : FrameMode) : FRel X L w fr { F with todo := k, mode := m } :=
  ⟨hf.fn, hf.tmps, hf.defs, hf.round⟩

structure Lands (P : Program) (X : Nat → Prop) (L : Loc) (w : World) (F : Frame) (cs : List Frame) (st' : St) (L' : Loc) (w' : World) (F' : Frame) (cs' : List Frame) : Prop where
  steps : Steps P (lone F cs w) (lone F' cs' w')
  ext : Ext L w L' w'
  heap : HRel X L' st'.hp w'
  fn : F'.fn = F.fn
  kind : F'.kind = F.kind
  round : F'.roundOf = F.roundOf
  size : F'.tmps.size = F.tmps.size
  und : Unders F.kind cs cs'

def OutR (X : Nat → Prop) (L : Loc) (w : World) (F : Frame) (k : List Item) : Out → Prop
  | .norm => F.mode = .run ∧ F.todo = k
  | .exit i => F.mode = .run ∧ ∃ j, F.todo = .code (.exit i) :: (j ++ k) ∧ ∀ k, exitTo i (j ++ k) = exitTo i k
  | .ret => F.mode = .run ∧ ∃ j, F.todo = .code .ret :: j
  | .pan v => ∃ ch, F.mode = .panicking ch ∧ ChainR X L w v false ch
  | .done _ => False

def LeaveR (P : Program) (X : Nat → Prop) (L : Loc) (w : World) (F : Frame) : Out → Prop
  | .done v => F.mode = .returning ∧ F.defers = [] ∧ F.roundOf = none ∧ ∃ fn, P.funcs[F.fn]? = some fn ∧ ∃ x, (results fn F.tmps).run P w = .ok x w ∧ VRel X L w v x
  | .pan v => ∃ ch, F.mode = .panicking ch ∧ F.defers = [] ∧ F.roundOf = none ∧ (∃ fn, P.funcs[F.fn]? = some fn) ∧ ChainR X L w v false ch
  | _ => False

def HowR (X : Nat → Prop) (L : Loc) (w : World) (F : Frame) : Below → Prop
  | .none => False
  | .returning => F.mode = .returning
  | .panicking v r => ∃ ch, F.mode = .panicking ch ∧ ChainR X L w v r ch

section
variable (P : Program) (rec : Cmd → St → Ex)
def CodeOK : Prop := ∀ (c : Code) (fr : Fr) (bel : Below) (st : St) (r : Res), rec (.code c fr bel) st = .ok r → ∀ (X : Nat → Prop) (L : Loc) (w : World) (F : Frame) (k : List Item) (cs : List Frame),
  HRel X L st.hp w → AllObl r.st.obl → FRel X L w fr F → F.mode = .run → F.todo = .code c :: k → codeOK F.tmps.size c = true → BelR X L w bel F.kind cs →
  ∃ L' w' F' cs', Lands P X L w F cs r.st L' w' F' cs' ∧ FRel X L' w' r.fr F' ∧ BelR X L' w' r.bel F.kind cs' ∧ OutR X L' w' F' k r.out
def CallOK : Prop := ∀ (f : Nat) (args : List AV) (bel : Below) (st : St) (r : Res), rec (.call f args bel) st = .ok r → ∀ (X : Nat → Prop) (L : Loc) (w : World) (xs : Array Value) (kd : CallKind) (cs : List Frame),
  HRel X L st.hp w → AllObl r.st.obl → VRels X L w args xs.toList → BelR X L w bel kd cs →
  ∃ L' w' F' cs', Steps P (lone (Frame.enter P f xs kd) cs w) (lone F' cs' w') ∧ Ext L w L' w' ∧ HRel X L' r.st.hp w' ∧ F'.fn = f ∧ F'.kind = kd ∧ Unders kd cs cs' ∧ BelR X L' w' r.bel kd cs' ∧ LeaveR P X L' w' F' r.out
def UnwindOK : Prop := ∀ (fr : Fr) (how : Below) (st : St) (r : Res), rec (.unwind fr how) st = .ok r → ∀ (X : Nat → Prop) (L : Loc) (w : World) (F : Frame) (cs : List Frame),
  HRel X L st.hp w → AllObl r.st.obl → FRel X L w fr F → F.roundOf = none → HowR X L w F how →
  ∃ L' w' F', Steps P (lone F cs w) (lone F' cs w') ∧ Ext L w L' w' ∧ HRel X L' r.st.hp w' ∧ F'.fn = F.fn ∧ F'.kind = F.kind ∧ LeaveR P X L' w' F' r.out
structure RecOK : Prop where
  code : CodeOK P rec
  call : CallOK P rec
  unwind : UnwindOK P rec
  adv : RecAdv rec
end

section
variable {P : Program} {X : Nat → Prop} {L L' L'' : Loc} {w w' w'' : World} {F F' F'' : Frame} {cs cs' cs'' : List Frame} {st' st'' : St}
theorem Lands.trans (h : Lands P X L w F cs st' L' w' F' cs') (h' : Lands P X L' w' F' cs' st'' L'' w'' F'' cs'') : Lands P X L w F cs st'' L'' w'' F'' cs'' :=
  ⟨h.steps.trans h'.steps, h.ext.trans h'.ext, h'.heap, h'.fn.trans h.fn, h'.kind.trans h.kind, h'.round.trans h.round, h'.size.trans h.size, h.und.trans (h.kind ▸ h'.und)⟩
theorem Lands.head {k : List Item} (h : Go.step P (lone F cs w) = .next (lone { F with todo := k } cs w)) (h' : Lands P X L w { F with todo := k } cs st'' L'' w'' F'' cs'') : Lands P X L w F cs st'' L'' w'' F'' cs'' :=
  ⟨.head h h'.steps, h'.ext, h'.heap, h'.fn, h'.kind, h'.round, h'.size, h'.und⟩
/-- one step behind -/
theorem Lands.last (h : Lands P X L w F cs st' L' w' F' cs') {k : List Item} (hs : Go.step P (lone F' cs' w') = .next (lone { F' with todo := k } cs' w')) : Lands P X L w F cs st' L' w' { F' with todo := k } cs' :=
  ⟨h.steps.trans (.one hs), h.ext, h.heap, h.fn, h.kind, h.round, h.size, h.und⟩

theorem st_seq {a b : Code} {k : List Item} (hm : F.mode = .run) (ht : F.todo = .code (.seq a b) :: k) : step P (lone F cs w) = .next (lone { F with todo := .code a :: .code b :: k } cs w) :=
  step_lone_go (by simp [stepG, stepG.exec, hm, ht])
theorem st_skip {k : List Item} (hm : F.mode = .run) (ht : F.todo = .code .skip :: k) : step P (lone F cs w) = .next (lone { F with todo := k } cs w) :=
  step_lone_go (by simp [stepG, stepG.exec, hm, ht])
theorem st_label {l : Nat} {k : List Item} (hm : F.mode = .run) (ht : F.todo = .code (.label l) :: k) : step P (lone F cs w) = .next (lone { F with todo := k } cs w) :=
  step_lone_go (by simp [stepG, stepG.exec, hm, ht])
theorem st_inBlock {l : Nat} {k : List Item} (hm : F.mode = .run) (ht : F.todo = .inBlock l :: k) : step P (lone F cs w) = .next (lone { F with todo := k } cs w) :=
  step_lone_go (by simp [stepG, stepG.exec, hm, ht])
theorem st_block {l : Nat} {b : Code} {k : List Item} (hm : F.mode = .run) (ht : F.todo = .code (.block l b) :: k) : step P (lone F cs w) = .next (lone { F with todo := .code b :: .inBlock l :: k } cs w) :=
  step_lone_go (by simp [stepG, stepG.exec, hm, ht])
theorem st_loop {b : Code} {k : List Item} (hm : F.mode = .run) (ht : F.todo = .code (.loop b) :: k) : step P (lone F cs w) = .next (lone { F with todo := .code b :: .inLoop b :: k } cs w) :=
  step_lone_go (by simp [stepG, stepG.exec, hm, ht])
theorem st_inLoop {b : Code} {k : List Item} (hm : F.mode = .run) (ht : F.todo = .inLoop b :: k) : step P (lone F cs w) = .next (lone { F with todo := .code b :: .inLoop b :: k } cs w) :=
  step_lone_go (by simp [stepG, stepG.exec, hm, ht])
theorem st_cond {c : Operand} {t : Bool} {a b : Code} {k : List Item} (hm : F.mode = .run) (ht : F.todo = .code (.cond c a b) :: k) (hc : F.eval c = .bool t) : step P (lone F cs w) = .next (lone { F with todo := .code (if t then a else b) :: k } cs w) :=
  step_lone_go (by simp [stepG, stepG.exec, hm, ht, hc])
theorem st_exit {i : Nat} {k k' : List Item} (hm : F.mode = .run) (ht : F.todo = .code (.exit i) :: k) (h : exitTo i k = some k') : step P (lone F cs w) = .next (lone { F with todo := k' } cs w) :=
  step_lone_go (by simp [stepG, stepG.exec, hm, ht, h])

/-- operands -/
theorem FRel.evals {fr : Fr} (hf : FRel X L w fr F) : OpRel X L w fr.eval F.eval := by
  intro x
  cases x with
  | tmp t =>
    simp only [Fr.eval, Fr.slot, Frame.eval]
    cases ht : fr.tmps.get? t with
    | none => exact .junk _
    | some v =>
      obtain ⟨y, hy, hv⟩ := hf.tmps t v ht
      simp only [Option.getD_some, Array.getD_eq_getD_getElem?, hy]
      exact hv
  | const v => exact .const ..
  | global g => exact .junk _
  | func f => exact .fn rfl rfl (fun j v x h => by simp at h) (fun j v x h => by simp at h)
end

section
variable {P : Program} {tb : Tab} {rec : Cmd → St → Ex}
/-- the codes that hold others -/
theorem seq_ok (ih : RecOK P rec) {a b : Code} {fr : Fr} {bel : Below} {st : St} {r : Res}
    (h : (match rec (.code a fr bel) st with | .ok ⟨.norm, fr, bel, st⟩ => rec (.code b fr bel) st | r => r) = .ok r) {X : Nat → Prop} {L : Loc} {w : World} {F : Frame} {k : List Item} {cs : List Frame}
    (H : HRel X L st.hp w) (ho : AllObl r.st.obl) (hf : FRel X L w fr F) (hm : F.mode = .run) (ht : F.todo = .code (.seq a b) :: k) (hc : codeOK F.tmps.size a = true ∧ codeOK F.tmps.size b = true) (hb : BelR X L w bel F.kind cs) :
    ∃ L' w' F' cs', Lands P X L w F cs r.st L' w' F' cs' ∧ FRel X L' w' r.fr F' ∧ BelR X L' w' r.bel F.kind cs' ∧ OutR X L' w' F' k r.out := by
  have s0 := st_seq (P := P) (cs := cs) (w := w) hm ht
  split at h
  · rename_i fr1 bel1 st1 h1
    have ho1 := (ih.adv _ _ _ h).all ho
    obtain ⟨L1, w1, F1, cs1, l1, hf1, hb1, o1⟩ := ih.code _ _ _ _ _ h1 X L w { F with todo := .code a :: .code b :: k } (.code b :: k) cs H ho1 (hf.todo _ _) hm rfl hc.1 hb
    obtain ⟨om, ot⟩ := o1
    obtain ⟨L2, w2, F2, cs2, l2, hf2, hb2, o2⟩ := ih.code _ _ _ _ _ h X L1 w1 F1 k cs1 l1.heap ho hf1 om ot (by rw [l1.size]; exact hc.2) (by rw [l1.kind]; exact hb1)
    have l3 := (Lands.head s0 l1).trans l2
    have hk : F1.kind = F.kind := l1.kind
    rw [hk] at hb2
    exact ⟨L2, w2, F2, cs2, l3, hf2, hb2, o2⟩
  · rename_i hne
    obtain ⟨L1, w1, F1, cs1, l1, hf1, hb1, o1⟩ := ih.code _ _ _ _ _ h X L w { F with todo := .code a :: .code b :: k } (.code b :: k) cs H ho (hf.todo _ _) hm rfl hc.1 hb
    refine ⟨L1, w1, F1, cs1, Lands.head s0 l1, hf1, hb1, ?_⟩
    obtain ⟨out, fr', bel', st'⟩ := r
    cases out with
    | norm => exact absurd h (by intro hh; exact hne _ _ _ hh)
    | exit i =>
      obtain ⟨q1, j, q2, q3⟩ := o1
      exact ⟨q1, j ++ [.code b], by rw [q2]; simp, fun k => by rw [List.append_assoc, q3]; simp [exitTo]⟩
    | ret => exact o1
    | pan v => exact o1
    | done v => exact o1
theorem cond_ok (ih : RecOK P rec) {c : Operand} {a b : Code} {fr : Fr} {bel : Below} {st : St} {r : Res}
    (h : evCond rec c a b fr bel st = .ok r) {X : Nat → Prop} {L : Loc} {w : World} {F : Frame} {k : List Item} {cs : List Frame}
    (H : HRel X L st.hp w) (ho : AllObl r.st.obl) (hf : FRel X L w fr F) (hm : F.mode = .run) (ht : F.todo = .code (.cond c a b) :: k) (hc : codeOK F.tmps.size (.cond c a b) = true) (hb : BelR X L w bel F.kind cs) :
    ∃ L' w' F' cs', Lands P X L w F cs r.st L' w' F' cs' ∧ FRel X L' w' r.fr F' ∧ BelR X L' w' r.bel F.kind cs' ∧ OutR X L' w' F' k r.out := by
  unfold evCond at h
  split at h
  · rename_i t hv
    have hcv := hf.evals c
    rw [hv] at hcv
    have s0 := st_cond (P := P) (cs := cs) (w := w) hm ht hcv.bool_inv
    simp only [codeOK, Bool.and_eq_true] at hc
    have e : (bif t then a else b) = (if t = true then a else b) := by cases t <;> rfl
    rw [e] at h
    obtain ⟨L1, w1, F1, cs1, l1, hf1, hb1, o1⟩ := ih.code _ _ _ _ _ h X L w { F with todo := .code (if t = true then a else b) :: k } k cs H ho (hf.todo _ _) hm rfl (by cases t <;> simp [hc.1, hc.2]) hb
    exact ⟨L1, w1, F1, cs1, Lands.head s0 l1, hf1, hb1, o1⟩
  · cases h
theorem block_ok (ih : RecOK P rec) {id : Nat} {b : Code} {fr : Fr} {bel : Below} {st : St} {r : Res}
    (h : evBlock rec id b fr bel st = .ok r) {X : Nat → Prop} {L : Loc} {w : World} {F : Frame} {k : List Item} {cs : List Frame}
    (H : HRel X L st.hp w) (ho : AllObl r.st.obl) (hf : FRel X L w fr F) (hm : F.mode = .run) (ht : F.todo = .code (.block id b) :: k) (hc : codeOK F.tmps.size (.block id b) = true) (hb : BelR X L w bel F.kind cs) :
    ∃ L' w' F' cs', Lands P X L w F cs r.st L' w' F' cs' ∧ FRel X L' w' r.fr F' ∧ BelR X L' w' r.bel F.kind cs' ∧ OutR X L' w' F' k r.out := by
  have s0 := st_block (P := P) (cs := cs) (w := w) hm ht
  simp only [codeOK] at hc
  unfold evBlock at h
  split at h
  · rename_i i fr1 bel1 st1 h1
    cases h
    obtain ⟨L1, w1, F1, cs1, l1, hf1, hb1, o1⟩ := ih.code _ _ _ _ _ h1 X L w { F with todo := .code b :: .inBlock id :: k } (.inBlock id :: k) cs H ho (hf.todo _ _) hm rfl hc hb
    obtain ⟨q1, j, q2, q3⟩ := o1
    by_cases hi : i = id
    · subst hi
      have hx : exitTo i (j ++ .inBlock i :: k) = some k := by rw [q3]; simp [exitTo]
      have s1 := st_exit (P := P) (cs := cs1) (w := w1) q1 q2 hx
      refine ⟨L1, w1, _, cs1, Lands.head s0 (l1.last s1), hf1.todo _ F1.mode, hb1, ?_⟩
      simp only [beq_dec, decide_true, cond_true]
      exact ⟨q1, rfl⟩
    · refine ⟨L1, w1, F1, cs1, Lands.head s0 l1, hf1, hb1, ?_⟩
      have hd : Nat.beq i id = false := by simp [beq_dec, hi]
      simp only [hd, cond_false]
      exact ⟨q1, j ++ [.inBlock id], by rw [q2]; simp, fun k => by rw [List.append_assoc, q3]; simp [exitTo, Ne.symm hi]⟩
  · rename_i hne
    obtain ⟨L1, w1, F1, cs1, l1, hf1, hb1, o1⟩ := ih.code _ _ _ _ _ h X L w { F with todo := .code b :: .inBlock id :: k } (.inBlock id :: k) cs H ho (hf.todo _ _) hm rfl hc hb
    obtain ⟨out, fr', bel', st'⟩ := r
    cases out with
    | norm =>
      obtain ⟨q1, q2⟩ := o1
      have s1 := st_inBlock (P := P) (cs := cs1) (w := w1) q1 q2
      exact ⟨L1, w1, _, cs1, Lands.head s0 (l1.last s1), hf1.todo _ F1.mode, hb1, q1, rfl⟩
    | exit i => exact absurd h (by intro hh; exact hne _ _ _ _ hh)
    | ret => exact ⟨L1, w1, F1, cs1, Lands.head s0 l1, hf1, hb1, o1⟩
    | pan v => exact ⟨L1, w1, F1, cs1, Lands.head s0 l1, hf1, hb1, o1⟩
    | done v => exact ⟨L1, w1, F1, cs1, Lands.head s0 l1, hf1, hb1, o1⟩
end
end Go.Sy

/- From one relation of values to another: what is not owned may be narrowed, what is absent may be laid. -/
set_option linter.unusedVariables false
set_option linter.unusedSimpArgs false
namespace Go.Sy

structure Lift (X : Nat → Prop) (L : Loc) (w : World) (X' : Nat → Prop) (L' : Loc) (w' : World) : Prop where
  loc : ∀ b, L b ≠ .absent → L' b = L b ∨ L' b = .dead
  out : ∀ c, c < w.heap.size → ¬ Owned L c → ¬ X c → ¬ Owned L' c ∧ ¬ X' c ∧ c < w'.heap.size ∧ w'.heap[c]? = w.heap[c]?

section
variable {X X' X'' : Nat → Prop} {L L' L'' : Loc} {w w' w'' : World}
theorem Lift.refl : Lift X L w X L w := ⟨fun _ _ => .inl rfl, fun c h1 h2 h3 => ⟨h2, h3, h1, rfl⟩⟩
theorem Lift.trans (h : Lift X L w X' L' w') (k : Lift X' L' w' X'' L'' w'') : Lift X L w X'' L'' w'' := by
  refine ⟨fun b hb => ?_, fun c h1 h2 h3 => ?_⟩
  · rcases h.loc b hb with e | e
    · rcases k.loc b (by rw [e]; exact hb) with e' | e'
      · exact .inl (e'.trans e)
      · exact .inr e'
    · rcases k.loc b (by rw [e]; simp) with e' | e'
      · exact .inr (e'.trans e)
      · exact .inr e'
  · obtain ⟨a1, a2, a3, a4⟩ := h.out c h1 h2 h3
    obtain ⟨b1, b2, b3, b4⟩ := k.out c a3 a1 a2
    exact ⟨b1, b2, b3, b4.trans a4⟩
theorem Ext.lift (h : Ext L w L' w') : Lift X L w X L' w' := by
  refine ⟨h.loc, fun c h1 h2 h3 => ⟨fun h4 => ?_, h3, Nat.lt_of_lt_of_le h1 h.size, h.same c h1 h2⟩⟩
  rcases h.own c h4 with h5 | h5
  · exact h2 h5
  · omega
theorem Lift.shrink (h : ∀ c, X' c → X c) : Lift X L w X' L w := ⟨fun _ _ => .inl rfl, fun c h1 h2 h3 => ⟨h2, fun hh => h3 (h c hh), h1, rfl⟩⟩

theorem Lift.absent (h : Lift X L w X' L' w') : ∀ b, L b ≠ .absent → L' b ≠ .absent := by
  intro b hb
  rcases h.loc b hb with h1 | h1 <;> rw [h1]
  · exact hb
  · simp
theorem Lift.dead (h : Lift X L w X' L' w') : ∀ b, L b = .dead → L' b = .dead := by
  intro b hb
  rcases h.loc b (by rw [hb]; simp) with h1 | h1
  · exact h1.trans hb
  · exact h1
theorem Lift.live (h : Lift X L w X' L' w') {b c o cap sz : Nat} (hb : L b = .live c o cap sz) : L' b = .live c o cap sz ∨ L' b = .dead := by
  rcases h.loc b (by rw [hb]; simp) with h1 | h1
  · exact .inl (h1.trans hb)
  · exact .inr h1

theorem VRel.lift (h : Lift X L w X' L' w') {v : AV} {x : Value} (hv : VRel X L w v x) : VRel X' L' w' v x := by
  have cell : ∀ bl o, bl < w.heap.size → ¬ Owned L bl → ¬ X bl → w'.cell? ⟨bl, o, none⟩ = w.cell? ⟨bl, o, none⟩ := by
    intro bl o h1 h2 h3
    unfold World.cell?
    rw [(h.out bl h1 h2 h3).2.2.2]
  induction hv with
  | bool b => exact .bool b
  | int k n => exact .int k n
  | str s => exact .str s
  | nilp => exact .nilp
  | ptr h1 =>
    rcases h.live h1 with h2 | h2
    · exact .ptr h2
    · exact .ptrD h2 rfl
  | ptrD h1 h2 => exact .ptrD (h.dead _ h1) h2
  | iptr xs h1 h2 h3 h4 h5 h6 ih =>
    obtain ⟨a1, a2, a3, a4⟩ := h.out _ h3 h1 h2
    exact .iptr xs a1 a2 a3 (fun j v hj => (cell _ _ h3 h1 h2).trans (h4 j v hj)) ih h6
  | nils => exact .nils
  | sl h1 h2 h3 =>
    rcases h.live h1 with h4 | h4
    · exact .sl h4 h2 h3
    · exact .slD h4 rfl
  | slE h1 => exact .slE (h.absent _ h1)
  | slD h1 h2 => exact .slD (h.dead _ h1) h2
  | immE h1 => exact .immE h1
  | imm xs h0 h1 h2 h3 h4 h5 h6 h7 h8 h9 ih =>
    obtain ⟨a1, a2, a3, a4⟩ := h.out _ h3 h1 h2
    exact .imm xs h0 a1 a2 a3 (fun j v hj => (cell _ _ h3 h1 h2).trans (h4 j v hj)) ih h6 h7 h8 h9
  | nilm => exact .nilm
  | map h1 =>
    rcases h.live h1 with h2 | h2
    · exact .map h2
    · exact .mapD h2 rfl
  | mapD h1 h2 => exact .mapD (h.dead _ h1) h2
  | nilf => exact .nilf
  | fn h1 h2 h3 h4 ih1 ih2 => exact .fn h1 h2 ih1 ih2
  | fnY h1 =>
    rcases h.live h1 with h2 | h2
    · exact .fnY h2
    · exact .fnD h2 rfl
  | fnD h1 h2 => exact .fnD (h.dead _ h1) h2
  | nili => exact .nili
  | iface h1 ih => exact .iface ih
  | agg h1 h2 ih => exact .agg h1 ih
  | tup h1 h2 ih => exact .tup h1 ih
  | junk x => exact .junk x
theorem VRels.lift (h : Lift X L w X' L' w') {vs : List AV} {xs : List Value} (hv : VRels X L w vs xs) : VRels X' L' w' vs xs :=
  ⟨hv.1, fun j v x h1 h2 => (hv.2 j v x h1 h2).lift h⟩
theorem ERels.lift (h : Lift X L w X' L' w') {es : List (Int × AV)} {fs : List MapEntry} (hv : ERels X L w es fs) : ERels X' L' w' es fs := by
  induction hv with
  | nil => exact .nil
  | cons h1 h2 h3 ih => exact .cons h1 (h2.lift h) ih
theorem TRel.lift (h : Lift X L w X' L' w') {t : T AV} {ts : Array Value} (hv : TRel X L w t ts) : TRel X' L' w' t ts :=
  fun i v hi => let ⟨x, h1, h2⟩ := hv i v hi; ⟨x, h1, h2.lift h⟩
theorem DRel.lift (h : Lift X L w X' L' w') {d : ADef} {d' : Deferred} (hv : DRel X L w d d') : DRel X' L' w' d d' := by
  cases hv with
  | call h1 h2 => exact .call (h1.lift h) (h2.lift h)
  | coll h1 =>
    rcases h.live h1 with h2 | h2
    · exact .coll h2
    · exact .collD h2
  | collD h1 => exact .collD (h.dead _ h1)
theorem DRels.lift (h : Lift X L w X' L' w') {d : List ADef} {d' : List Deferred} (hv : DRels X L w d d') : DRels X' L' w' d d' := by
  induction hv with
  | nil => exact .nil
  | cons h1 h2 ih => exact .cons (h1.lift h) ih
theorem ChainR.lift (h : Lift X L w X' L' w') {v : AV} {r : Bool} {ch : List PanicEntry} (k : ChainR X L w v r ch) : ChainR X' L' w' v r ch := by
  obtain ⟨x, older, h1, h2, h3⟩ := k
  exact ⟨x, older, h1, h2, h3.lift h⟩
theorem BelR.lift (h : Lift X L w X' L' w') {b : Below} {k : CallKind} {cs : List Frame} (hb : BelR X L w b k cs) : BelR X' L' w' b k cs := by
  cases b with
  | none => exact hb
  | returning => exact hb
  | panicking v r =>
    obtain ⟨h1, c, rest, ch, h2, h3, h4⟩ := hb
    exact ⟨h1, c, rest, ch, h2, h3, h4.lift h⟩
def RoundR (L : Loc) (r : Option Nat) (F : Frame) : Prop :=
  match r with
  | none => F.roundOf = none
  | some l => ∃ c, F.roundOf = some c ∧ ((∃ o cap sz, L l = .live c o cap sz) ∨ L l = .dead)
theorem RoundR.lift (h : Lift X L w X' L' w') {r : Option Nat} {F : Frame} (hr : RoundR L r F) : RoundR L' r F := by
  cases r with
  | none => exact hr
  | some l =>
    obtain ⟨c, h1, h2⟩ := hr
    refine ⟨c, h1, ?_⟩
    rcases h2 with ⟨o, cap, sz, h2⟩ | h2
    · rcases h.live h2 with h3 | h3
      · exact .inl ⟨o, cap, sz, h3⟩
      · exact .inr h3
    · exact .inr (h.dead _ h2)
theorem FRel.lift (h : Lift X L w X' L' w') {fr : Fr} {F : Frame} (hf : FRel X L w fr F) : FRel X' L' w' fr F :=
  ⟨hf.fn, hf.tmps.lift h, hf.defs.lift h, RoundR.lift h (r := fr.round) hf.round⟩
theorem BRel.lift (h : Lift X L w X' L' w') {c o cap sz : Nat} {x : Blk} (hc : w'.heap[c]? = w.heap[c]?) (hv : BRel X L w c o cap sz x) : BRel X' L' w' c o cap sz x := by
  cases x with
  | cells cs =>
    obtain ⟨arr, e, h1, h2, h3, h4⟩ := hv
    exact ⟨arr, e, hc.trans h1, h2, h3, h4.lift h⟩
  | map es =>
    obtain ⟨fs, k, h1, h2⟩ := hv
    exact ⟨fs, k, hc.trans h1, h2.lift h⟩
  | loop s p f t ps a b d =>
    obtain ⟨r, h1, h2, h3, h4, h5, h6, h7, h8, ⟨o', cap', sz', h9⟩, h10⟩ := hv
    refine ⟨r, hc.trans h1, h2, h3, h4, h5, h6, h7, h8.lift h, ⟨o', cap', sz', ?_⟩, h10⟩
    rcases h9 with h9 | h9
    · exact h.live h9
    · exact .inr (h.dead _ h9)
  | defd t => exact hc.trans hv
  | dead => exact hv
theorem HRel.shrink {h : Hp} (H : HRel X L h w) (hX : ∀ c, X' c → X c) : HRel X' L h w :=
  ⟨H.out, H.dead, fun b x h1 h2 => let ⟨c, o, cap, sz, h3, h4⟩ := H.blk b x h1 h2; ⟨c, o, cap, sz, h3, h4.lift (.shrink hX) rfl⟩, H.inj, H.lt, fun c hc hx => H.far c hc (hX c hx), fun c hc => H.xlt c (hX c hc)⟩
end
end Go.Sy
