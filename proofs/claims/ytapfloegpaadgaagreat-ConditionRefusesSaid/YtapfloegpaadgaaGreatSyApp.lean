/- append, copy, clear. -/
import Derived.Test.YtapfloegpaadgaaGreatSyEff
set_option linter.unusedVariables false
set_option linter.unusedSimpArgs false
namespace Go.Sy

section
variable {P : Program} {tb : Tab} {X : Nat → Prop} {L : Loc} {w : World} {st : St} {ρ : Operand → AV} {ρc : Operand → Value}

/-- an owned place under a new name -/
theorem Ext.adopt {h : Hp} (H : HRel X L h w) {b n : Nat} (hn : h n = none) {c o cap sz : Nat} (hL : L b = .live c o cap sz) (o' cap' sz' : Nat) {w' : World} (hs : w'.heap.size = w.heap.size)
    (hsame : ∀ k, k ≠ c → w'.heap[k]? = w.heap[k]?) (h2 : w'.os = w.os) (h3 : w'.tape = w.tape) (h4 : w'.output = w.output) :
    Ext L w (Loc.set (Loc.set L b .dead) n (.live c o' cap' sz')) w' := by
  have hab := H.out n hn
  have hbn : b ≠ n := by intro e; rw [e, hab] at hL; cases hL
  refine ⟨by omega, fun k _ hk => hsame k (fun e => hk (e ▸ ⟨b, o, cap, sz, hL⟩)), fun i hi => ?_, fun k hk => .inl ?_, h2, h3, h4⟩
  · have e1 : i ≠ n := by intro e; rw [e] at hi; exact hi hab
    by_cases e : i = b
    · exact .inr (by simp [Loc.set, e, hbn])
    · exact .inl (by simp [Loc.set, e, e1])
  · obtain ⟨i, o1, cap1, sz1, hi⟩ := hk
    by_cases e1 : i = n
    · simp only [Loc.set, e1, if_true] at hi; cases hi; exact ⟨b, o, cap, sz, hL⟩
    · by_cases e : i = b
      · simp [Loc.set, e, e1, hbn] at hi
      · simp only [Loc.set, e, e1, if_false] at hi; exact ⟨i, _, _, _, hi⟩
theorem HRel.adopt {h : Hp} (H : HRel X L h w) {b n : Nat} (hn : h n = none) {c o cap sz : Nat} (hL : L b = .live c o cap sz) (o' cap' sz' : Nat) {w' : World} (hs : w'.heap.size = w.heap.size)
    (hsame : ∀ k, k ≠ c → w'.heap[k]? = w.heap[k]?) (h2 : w'.os = w.os) (h3 : w'.tape = w.tape) (h4 : w'.output = w.output)
    {x : Blk} (hx : x.alive = true) (hB : BRel X (Loc.set (Loc.set L b .dead) n (.live c o' cap' sz')) w' c o' cap' sz' x) :
    HRel X (Loc.set (Loc.set L b .dead) n (.live c o' cap' sz')) (Hp.set (Hp.set h b .dead) n x) w' := by
  have hE := Ext.adopt H hn hL o' cap' sz' hs hsame h2 h3 h4
  have hab := H.out n hn
  have hbn : b ≠ n := by intro e; rw [e, hab] at hL; cases hL
  have own : ∀ k, Owned (Loc.set (Loc.set L b .dead) n (.live c o' cap' sz')) k → Owned L k := by
    intro k hk
    obtain ⟨i, o1, cap1, sz1, hi⟩ := hk
    by_cases e1 : i = n
    · simp only [Loc.set, e1, if_true] at hi; cases hi; exact ⟨b, o, cap, sz, hL⟩
    · by_cases e : i = b
      · simp [Loc.set, e, e1, hbn] at hi
      · simp only [Loc.set, e, e1, if_false] at hi; exact ⟨i, _, _, _, hi⟩
  refine ⟨fun i hi => ?_, fun i hi => ?_, fun i y hi hy => ?_, fun i j k o1 cap1 sz1 o2 cap2 sz2 hi hj => ?_, fun k hk => by rw [hs]; exact H.lt k (own k hk), fun k hk => H.far k (own k hk), fun k hk => by rw [hs]; exact H.xlt k hk⟩
  · by_cases e : i = n
    · simp [Hp.set, e] at hi
    · by_cases e1 : i = b
      · simp [Hp.set, e, e1, hbn] at hi
      · simp only [Hp.set, e, e1, if_false] at hi; simp only [Loc.set, e, e1, if_false]; exact H.out i hi
  · by_cases e : i = n
    · simp only [Hp.set, e, if_true, Option.some.injEq] at hi; subst hi; simp [Blk.alive] at hx
    · by_cases e1 : i = b
      · simp [Loc.set, e, e1, hbn]
      · simp only [Hp.set, e, e1, if_false] at hi; simp only [Loc.set, e, e1, if_false]; exact H.dead i hi
  · by_cases e : i = n
    · simp only [Hp.set, e, if_true, Option.some.injEq] at hi; subst hi; exact ⟨_, _, _, _, by simp [Loc.set, e], hB⟩
    · by_cases e1 : i = b
      · simp only [Hp.set, e, e1, if_true, if_false, hbn, Option.some.injEq] at hi; subst hi; simp [Blk.alive] at hy
      · simp only [Hp.set, e, e1, if_false] at hi
        obtain ⟨k, o1, cap1, sz1, k1, k2⟩ := H.blk i y hi hy
        refine ⟨k, o1, cap1, sz1, by simp only [Loc.set, e, e1, if_false]; exact k1, k2.mono hE (hsame k fun ec => e1 ?_)⟩
        subst ec
        exact H.inj _ _ _ _ _ _ _ _ _ k1 hL
  · by_cases e : i = n <;> by_cases e' : j = n
    · rw [e, e']
    · by_cases e1 : j = b
      · simp [Loc.set, e', e1, hbn] at hj
      · simp only [Loc.set, e, e', e1, if_true, if_false] at hi hj
        cases hi
        exact absurd (H.inj _ _ _ _ _ _ _ _ _ hj hL) e1
    · by_cases e1 : i = b
      · simp [Loc.set, e, e1, hbn] at hi
      · simp only [Loc.set, e, e', e1, if_true, if_false] at hi hj
        cases hj
        exact absurd (H.inj _ _ _ _ _ _ _ _ _ hi hL) e1
    · by_cases e1 : i = b
      · simp [Loc.set, e, e1, hbn] at hi
      · by_cases e2 : j = b
        · simp [Loc.set, e', e2, hbn] at hj
        · simp only [Loc.set, e, e', e1, e2, if_false] at hi hj
          exact H.inj i j k o1 cap1 sz1 o2 cap2 sz2 hi hj

/-- what stands in a slice, read -/
theorem src_part (H : HRel X L st.hp w) {x : AV} {xv : Value} (hx : VRel X L w x xv) {size n : Nat} {new : List AV} (hn : lenOf x = some n) (hc : cellsOf st size x = some new) (hl : n * size = new.length) :
    ∃ A c ys, xv = .slice A n c ∧ VRels X L w new ys ∧ (n ≤ c) ∧ (A = none → n = 0) ∧ ∀ k, k ≤ n → ∀ w' : World, w'.heap = w.heap → (Builtin.firstCells size k xv).run P w' = .ok (ys.take (k * size)).toArray w' := by
  have none_ok : ∀ (A : Option Addr) (c : Nat) (k : Nat), k ≤ 0 → ∀ (w' : World), (Builtin.firstCells size k (.slice A 0 c)).run P w' = .ok ((List.nil : List Value).take (k * size)).toArray w' := by
    intro A c k hk w'
    have : k = 0 := by omega
    subst this
    cases A with
    | none => simp [Builtin.firstCells]
    | some a => simp [Builtin.firstCells, loadCells, loadCellsFrom]
  have some_ok : ∀ (a : Addr) (c : Nat) (ys : List Value), ys.length = n * size → (∀ j v, ys[j]? = some v → w.cell? (a.add j) = some v) → ∀ k, k ≤ n → ∀ w' : World, w'.heap = w.heap → (Builtin.firstCells size k (.slice (some a) n c)).run P w' = .ok (ys.take (k * size)).toArray w' := by
    intro a c ys hy hcell k hk w' hw
    have hmul : k * size ≤ n * size := Nat.mul_le_mul_right _ hk
    refine run_firstCells_some (P := P) w' size k a n c (ys.take (k * size)) (by simp; omega) fun j v hj => ?_
    rw [List.getElem?_take] at hj
    split at hj
    · have := hcell j v hj
      simpa [World.cell?, hw] using this
    · cases hj
  cases x <;> simp only [cellsOf, lenOf, Option.some.injEq, reduceCtorEq] at hn hc
  case nils =>
    subst hn hc
    cases hx
    exact ⟨_, _, [], rfl, .nil, Nat.le_refl _, fun _ => rfl, fun k hk w' _ => none_ok _ _ k hk w'⟩
  case sl b off len sz =>
    subst hn
    split at hc
    · rename_i cs hb
      split at hc
      · rename_i hcc
        obtain ⟨rfl, hfit⟩ := hcc
        cases hc
        have hal : (st.get b).alive = true := by rw [hb]; rfl
        obtain ⟨c, o, cap, dz, hL, hB⟩ := H.at (St.hp_some hal) hal
        rw [hb] at hB
        obtain ⟨arr, e, k1, k2, k3, k4⟩ := hB
        rcases hx.sl_live hL with ⟨cap', rfl, h1, h2⟩ | ⟨rfl, a, rfl⟩
        · have hrel := (k4.drop off).take (len * sz)
          refine ⟨_, _, _, rfl, hrel, h1, (by intro h; cases h), some_ok _ _ _ ?_ fun j v hj => ?_⟩
          · rw [← hrel.1]; exact hl.symm
          · rw [add_none]
            simp only [World.cell?, k1]
            rw [List.getElem?_take] at hj
            split at hj
            · rw [List.getElem?_drop, List.getElem?_take] at hj
              split at hj
              · rw [List.getElem?_drop, Array.getElem?_toList] at hj
                rw [Nat.add_assoc]; exact hj
              · cases hj
            · cases hj
        · refine ⟨_, _, [], rfl, ?_, Nat.le_refl _, fun _ => rfl, fun k hk w' _ => none_ok _ _ k hk w'⟩
          simp only [Nat.zero_mul, List.take_zero]
          exact .nil
      · cases hc
    · cases hc
  case imm sz es clip =>
    subst hn
    split at hc
    · rename_i hsz
      subst hsz
      cases hc
      cases hx with
      | immE h => exact ⟨_, _, [], rfl, .nil, Nat.zero_le _, fun _ => rfl, fun k hk w' _ => none_ok _ _ k hk w'⟩
      | @imm _ _ bl o cap _ xs h0 h1 h2 h3 h4 h5 h6 h7 h8 =>
        have hlen : ((List.range (es.length * sz)).map xs).length = es.length * sz := by simp
        refine ⟨_, _, (List.range (es.length * sz)).map xs, rfl, ⟨by rw [hlen]; exact hl.symm, fun j v x hj hx => ?_⟩, h6, (by intro h; cases h), some_ok _ _ _ hlen fun j v hj => ?_⟩
        · have hjl : j < es.length * sz := by have := (List.getElem?_eq_some_iff.1 hx).1; rw [hlen] at this; exact this
          simp [hjl] at hx
          rw [← hx]
          exact h5 j v hj
        · have hjl : j < es.length * sz := by have := (List.getElem?_eq_some_iff.1 hj).1; rw [hlen] at this; exact this
          simp [hjl] at hj
          rw [add_none, ← hj]
          have : j < (es.flatMap AV.cells).length := by omega
          exact h4 j _ (List.getElem?_eq_getElem this)
    · cases hc
theorem src_ok (H : HRel X L st.hp w) {x : AV} {xv : Value} (hx : VRel X L w x xv) {size n : Nat} {new : List AV} (hn : lenOf x = some n) (hc : cellsOf st size x = some new) (hl : n * size = new.length) :
    ∃ A c ys, xv = .slice A n c ∧ VRels X L w new ys ∧ (n ≤ c) ∧ (A = none → n = 0) ∧ ∀ w' : World, w'.heap = w.heap → (Builtin.firstCells size n xv).run P w' = .ok ys.toArray w' := by
  obtain ⟨A, c, ys, h1, h2, h3, h4, h5⟩ := src_part (P := P) H hx hn hc hl
  refine ⟨A, c, ys, h1, h2, h3, h4, fun w' hw => ?_⟩
  have := h5 n (Nat.le_refl _) w' hw
  rwa [List.take_of_length_le (by have := h2.1; omega)] at this

/-- append within the room -/
theorem run_append_in (t ty e : Nat) (i : TypeInfo) (ht : P.underlying t = some (.slice e)) (hi : P.info? e = some i) (w w' : World) (B A : Option Addr) (m scap n c : Nat) (ys : List Value)
    (hf : (Builtin.firstCells i.size n (.slice A n c)).run P w = .ok ys.toArray w) (hroom : m + n ≤ scap)
    (hst : match B with | none => w' = w | some a => (storeCells (a.add (m * i.size)) ys).run P w = .ok () w') :
    (Builtin.append_ #[t, t] ty #[.slice B m scap, .slice A n c]).run P w = .ok (.slice B (m + n) scap) w' := by
  cases B with
  | none => simp only at hst; subst hst; simp [Builtin.append_, run_underlying ht, sizeOf, typeInfo, hi, Builtin.lenOf, hroom, hf]
  | some a => simp only at hst; simp [Builtin.append_, run_underlying ht, sizeOf, typeInfo, hi, Builtin.lenOf, hroom, hf, hst]
/-- append beyond it -/
theorem run_append_out (t ty e : Nat) (i : TypeInfo) (z : Value) (ht : P.underlying t = some (.slice e)) (hi : P.info? e = some i) (hz : i.zero = some z) (w : World) (B A : Option Addr) (m scap n c : Nat) (xs ys : List Value)
    (hfo : (Builtin.firstCells i.size m (.slice B m scap)).run P w.drew = .ok xs.toArray w.drew) (hf : (Builtin.firstCells i.size n (.slice A n c)).run P w.drew = .ok ys.toArray w.drew) (hroom : scap < m + n)
    (h63 : m + n ≤ 9223372036854775807) (hfit : (m + n) * i.bytes ≤ 140737488355328) :
    (Builtin.append_ #[t, t] ty #[.slice B m scap, .slice A n c]).run P w =
      .ok (.slice (some ⟨w.heap.size, 0, none⟩) (m + n) (grownCap w (m + n) scap e))
        (w.drew.alloc (.cells (xs.toArray ++ ys.toArray ++ Builtin.zeroCells z.cells (grownCap w (m + n) scap e - (m + n))) e)) := by
  have hn : ¬ (m + n ≤ scap) := by omega
  have h63' : ¬ (9223372036854775807 < ((m : Int) + (n : Int))) := by omega
  have h48 := growslice_fits hroom hfit
  have h48' : ¬ (281474976710656 < Builtin.nextslicecap (m + n) scap * i.bytes) := by omega
  simp [Builtin.append_, run_underlying ht, sizeOf, typeInfo, zeroValue, hi, hz, Builtin.lenOf, hn, h63', h48', Question.forced, hf, hfo, newRow, grownCap]
  congr 2
  apply Array.ext'
  simp [List.append_assoc]

def SliceOK (P : Program) (X : Nat → Prop) (L : Loc) (w : World) (s : Sem Value) (v : AV) (st' : St) : Prop :=
  ∃ x w' L', s.run P w = .ok x w' ∧ Ext L w L' w' ∧ HRel X L' st'.hp w' ∧ VRel X L' w' v x

theorem next_none (st : St) : st.hp st.next = none := by simp [St.hp]

/-- append into a new row -/
theorem append_out (hT : TabOK P tb) (H : HRel X L st.hp w) {t ty e : Nat} {i : TypeInfo} {z : AV} (hu : tb.under t = some (.slice e)) (hi : tb.info e = some i) (hz : tb.zero e = some z) (hzl : z.cells.length = i.size)
    {B A : Option Addr} {m scap n c : Nat} {xs ys : List Value} {olds news : List AV} (hxs : VRels X L w olds xs) (hys : VRels X L w news ys) (hol : olds.length = m * i.size) (hnl : news.length = n * i.size)
    (hfo : ∀ w' : World, w'.heap = w.heap → (Builtin.firstCells i.size m (.slice B m scap)).run P w' = .ok xs.toArray w')
    (hf : ∀ w' : World, w'.heap = w.heap → (Builtin.firstCells i.size n (.slice A n c)).run P w' = .ok ys.toArray w')
    (hroom : scap < m + n) (h63 : m + n ≤ 9223372036854775807) (hfit : (m + n) * i.bytes ≤ 140737488355328) (kill : Option Nat) (hk : ∀ b, kill = some b → st.hp b ≠ none) :
    SliceOK P X L w (Builtin.append_ #[t, t] ty #[.slice B m scap, .slice A n c]) (.sl st.next 0 (m + n) i.size) ((match kill with | none => st | some b => st.put b .dead 0 whole).new (.cells (olds ++ news))) := by
  obtain ⟨z', hz1, hz2⟩ := hT.run_zero hz w
  have hiz : i.zero = some z' := by
    have h1 := hz1
    simp only [zeroValue, Sem.run_bind, hT.run_info hi, Result.andThen_ok] at h1
    cases hzz : i.zero with
    | none => rw [hzz] at h1; simp at h1
    | some q => rw [hzz] at h1; simp at h1; rw [h1]
  have hzs : z'.cells.size = i.size := by have := (zero_cells (X := X) (L := L) (w := w) hz2).1; simp at this; omega
  have hrun := run_append_out (P := P) t ty e i z' (hT.under hu) (hT.info _ _ hi) hiz w B A m scap n c xs ys (hfo _ rfl) (hf _ rfl) hroom h63 hfit
  have hge := grownCap_ge w (m + n) scap e
  generalize hg : grownCap w (m + n) scap e = g at hrun hge
  generalize hcells : xs.toArray ++ ys.toArray ++ Builtin.zeroCells z'.cells (g - (m + n)) = cells at hrun
  have hsize : cells.size = g * i.size := by
    rw [← hcells]
    have h1 := hxs.1
    have h2 := hys.1
    simp only [Array.size_append, List.size_toArray, size_zeroCells, hzs, ← h1, ← h2, hol, hnl, ← Nat.add_mul]
    congr 1; omega
  -- the old block given up
  have step0 : ∃ L0, Ext L w L0 w ∧ HRel X L0 (match kill with | none => st | some b => st.put b .dead 0 whole).hp w ∧ (match kill with | none => st | some b => st.put b .dead 0 whole).next = st.next := by
    cases kill with
    | none => exact ⟨L, Ext.refl _ _, H, rfl⟩
    | some b =>
      have hb := hk b rfl
      have hlt : b < st.next := by
        rcases Nat.lt_or_ge b st.next with h | h
        · exact h
        · exact absurd (by simp [St.hp, Nat.not_lt.2 h]) hb
      exact ⟨_, Ext.kill hb, by rw [St.put_hp _ _ _ _ _ hlt]; exact H.kill hb, rfl⟩
  obtain ⟨L0, hE0, H0, hnx⟩ := step0
  generalize (match kill with | none => st | some b => st.put b .dead 0 whole) = st0 at H0 hnx ⊢
  have H1 := H0.same (w' := w.drew) rfl rfl rfl rfl
  have hE1 : Ext L w L0 w.drew := hE0.trans (Ext.ofEq rfl rfl rfl rfl)
  have hab : st0.hp st.next = none := by rw [← hnx]; exact next_none st0
  have hE2 := Ext.new H1 hab (.cells cells e) (cap := cells.size) (sz := i.size)
  have hE := hE1.trans hE2
  have hB : BRel X (Loc.set L0 st.next (.live w.drew.heap.size 0 cells.size i.size)) (w.drew.alloc (.cells cells e)) w.drew.heap.size 0 cells.size i.size (.cells (olds ++ news)) := by
    refine ⟨cells, e, alloc_get _ _, by omega, ?_, ?_⟩
    · simp only [List.length_append, hol, hnl, ← Nat.add_mul, hsize]
      exact Nat.mul_le_mul_right _ hge
    · have hh : (cells.toList.drop 0).take (olds ++ news).length = xs ++ ys := by
        rw [← hcells]
        have h1 := hxs.1
        have h2 := hys.1
        have : (olds ++ news).length = (xs ++ ys).length := by simp [h1, h2]
        rw [this]
        simp only [Array.toList_append, List.drop_zero]
        exact List.take_left
      rw [hh]
      exact (hxs.append hys).mono hE
  have H2 := H1.new hab rfl hB
  refine ⟨_, _, _, hrun, hE, ?_, ?_⟩
  · rw [St.new_hp, hnx]; exact H2
  · have := VRel.sl (X := X) (L := Loc.set L0 st.next (.live w.drew.heap.size 0 cells.size i.size)) (w := w.drew.alloc (.cells cells e)) (b := st.next) (off := 0) (len := m + n) (sz := i.size) (c := w.drew.heap.size) (o := 0) (cap := cells.size) (dz := i.size) (cap' := g) (by simp [Loc.set]) hge (by rw [hsize]; omega)
    simpa using this

theorem append_ok (hT : TabOK P tb) (H : HRel X L st.hp w) {t ty e : Nat} {i : TypeInfo} {z : AV} (hu : tb.under t = some (.slice e)) (hi : tb.info e = some i) (hz : tb.zero e = some z) (hzl : z.cells.length = i.size)
    {s x : AV} {sv xv : Value} (hs : VRel X L w s sv) (hx : VRel X L w x xv) {v : AV} {st' : St} (h : aAppend st i.size i.bytes s x = some (v, st')) :
    SliceOK P X L w (Builtin.append_ #[t, t] ty #[sv, xv]) v st' := by
  unfold aAppend at h
  split at h
  · rename_i m n new hm hn hnew
    split at h
    · rename_i hc
      obtain ⟨hc1, hc2, hc3, hc4, hc5⟩ := hc
      obtain ⟨A, c, ys, rfl, hys, hnc, hA, hf⟩ := src_ok (P := P) H hx hn hnew hc1
      have hnl : new.length = n * i.size := hc1.symm
      have hyone : ∀ y ∈ ys, y.oneCell' = true := by
        intro y hy
        obtain ⟨j, hj⟩ := List.getElem?_of_mem hy
        obtain ⟨hjl, -⟩ := List.getElem?_eq_some_iff.1 hj
        have hjv : j < new.length := by have := hys.1; omega
        exact (hys.2 j new[j] y (List.getElem?_eq_getElem hjv) hj).one (List.all_eq_true.1 hc2 _ (List.getElem_mem hjv))
      split at h
      · -- nil
        simp only [lenOf, Option.some.injEq] at hm
        subst hm
        cases hs
        split at h
        · rename_i hn0
          subst hn0
          cases h
          have e1 : ys = [] := by have := hys.1; simp at hnl; rw [hnl] at this; simpa using this.symm
          subst e1
          exact ⟨_, _, _, run_append_in t ty e i (hT.under hu) (hT.info _ _ hi) w w none A 0 0 0 c [] (hf w rfl) (Nat.le_refl _) rfl, Ext.refl _ _, H, .nils⟩
        · rename_i hn0
          cases h
          have := append_out (ty := ty) (B := none) (m := 0) (scap := 0) hT H hu hi hz hzl (xs := []) .nil hys (by simp) hnl (fun w' _ => by simp [Builtin.firstCells]) hf (by omega) hc4 hc3 none (by simp)
          simpa using this
      · -- shared rows
        rename_i sz es
        split at h
        · rename_i hsz
          subst hsz
          have hm' : m = es.length := by simpa [lenOf] using hm.symm
          subst hm'
          obtain ⟨B, scap, rfl, hle, hclip⟩ := hs.imm_len
          have hcap := hclip rfl
          subst hcap
          split at h
          · rename_i hn0
            subst hn0
            cases h
            have e1 : ys = [] := by have := hys.1; simp at hnl; rw [hnl] at this; simpa using this.symm
            subst e1
            refine ⟨_, w, L, run_append_in t ty e i (hT.under hu) (hT.info _ _ hi) w w B A es.length es.length 0 c [] (hf w rfl) (by omega) ?_, Ext.refl _ _, H, hs⟩
            cases B <;> simp [storeCells]
          · rename_i hn0
            cases h
            have hcl : es.length * i.size = (es.flatMap AV.cells).length := by
              cases hs with
              | immE _ => simp
              | imm xs h0 h1 h2 h3 h4 h5 h6 h7 h8 h9 =>
                clear h9 h4 h5 h6 h7 hle hclip hm h0 hc3 hc4
                induction es with
                | nil => simp
                | cons a es ih =>
                  have := ih (fun e he => h8 e (List.mem_cons_of_mem _ he))
                  rw [List.flatMap_cons, List.length_append, ← this, h8 a (List.mem_cons_self ..), List.length_cons, Nat.add_mul]; omega
            have hcells : cellsOf st i.size (.imm i.size es true) = some (es.flatMap AV.cells) := by simp [cellsOf]
            obtain ⟨B', c', xs, e2, hxs, _, _, hfo⟩ := src_ok (P := P) H hs rfl hcells hcl
            cases e2
            exact append_out (ty := ty) hT H hu hi hz hzl hxs hys hcl.symm hnl hfo hf (by omega) hc4 hc3 none (by simp)
        · cases h
      · -- an owned row
        rename_i b off len sz
        split at h
        · rename_i cs hb
          split at h
          · rename_i hfit
            obtain ⟨rfl, hfit⟩ := hfit
            have hm' : len = m := by simpa [lenOf] using hm
            subst hm'
            cases h
            have hal : (st.get b).alive = true := by rw [hb]; rfl
            have hbn := St.alive_lt hal
            have hsome := St.hp_some hal
            obtain ⟨cc, o, cap, dz, hL, hB⟩ := H.at hsome hal
            have hBB := hB
            rw [hb] at hB
            obtain ⟨arr, ee, k1, k2, k3, k4⟩ := hB
            have hcells : cellsOf st i.size (.sl b off len i.size) = some ((cs.drop off).take (len * i.size)) := by simp [cellsOf, hb, hfit]
            have hol : ((cs.drop off).take (len * i.size)).length = len * i.size := by simp; omega
            obtain ⟨B, scap, xs, rfl, hxs, hmc, hB0, hfo⟩ := src_ok (P := P) H hs rfl hcells hol.symm
            by_cases hroom : len + n ≤ scap
            · -- in place
              have hnone : (st.put b .dead 0 whole).hp st.next = none := by
                rw [St.put_hp _ _ _ _ _ hbn]
                have : st.next ≠ b := by omega
                simp [Hp.set, this, St.hp]
              rcases hs.sl_live hL with ⟨cap', e1, h1, h2⟩ | ⟨e0, a, e1⟩
              · cases e1
                have hmul : len * i.size + n * i.size ≤ scap * i.size := by rw [← Nat.add_mul]; exact Nat.mul_le_mul_right _ hroom
                have hy := hys.1
                have hst := run_storeCells_at P cc (o + off + len * i.size) ee ys 0 arr w k1 (by omega) hyone
                simp only [Nat.add_zero] at hst
                have hrun := run_append_in t ty e i (hT.under hu) (hT.info _ _ hi) w _ (some ⟨cc, o + off, none⟩) A len scap n c ys (hf w rfl) hroom (by simp only [add_none]; exact hst)
                have hs1 : (w.setRow cc (arr.toList.take (o + off + len * i.size) ++ ys ++ arr.toList.drop (o + off + len * i.size + ys.length)).toArray).heap.size = w.heap.size := by simp
                have hs2 := fun k hk => setRow_other w cc k (arr.toList.take (o + off + len * i.size) ++ ys ++ arr.toList.drop (o + off + len * i.size + ys.length)).toArray hk
                have hE := Ext.adopt H (next_none st) hL (o + off) (cap - off) i.size hs1 hs2 rfl rfl rfl
                refine ⟨_, _, _, hrun, hE, ?_, ?_⟩
                · rw [St.new_hp, St.put_hp _ _ _ _ _ hbn]
                  refine HRel.adopt H (next_none st) hL (o + off) (cap - off) i.size hs1 hs2 rfl rfl rfl rfl ?_
                  refine ⟨_, ee, setRow_heap w cc arr _ ee _ k1, by simp; omega, by simp; omega, ?_⟩
                  have hh : ((arr.toList.take (o + off + len * i.size) ++ ys ++ arr.toList.drop (o + off + len * i.size + ys.length)).toArray.toList.drop (o + off)).take ((cs.drop off).take (len * i.size) ++ new).length = ((arr.toList.drop o).take cs.length |>.drop off).take (len * i.size) ++ ys := by
                    apply List.ext_getElem?
                    intro j
                    have hlen1 : ((cs.drop off).take (len * i.size) ++ new).length = len * i.size + n * i.size := by rw [List.length_append, hol, hnl]
                    rw [hlen1, List.getElem?_take]
                    by_cases hj : j < len * i.size
                    · rw [if_pos (by omega), List.getElem?_drop, List.getElem?_append_left (by simp; omega), List.getElem?_append_left (by simp; omega), List.getElem?_append_left (by simp; omega)]
                      rw [List.getElem?_take, if_pos (by omega), List.getElem?_take, if_pos hj, List.getElem?_drop, List.getElem?_take, if_pos (by omega), List.getElem?_drop]
                      congr 1; omega
                    · by_cases hj2 : j < len * i.size + n * i.size
                      · rw [if_pos hj2, List.getElem?_drop, List.getElem?_append_left (by simp; omega), List.getElem?_append_right (by simp; omega), List.getElem?_append_right (by simp; omega)]
                        congr 1; simp; omega
                      · rw [if_neg hj2]
                        symm; apply List.getElem?_eq_none; simp; omega
                  rw [hh]
                  exact (((k4.drop off).take (len * i.size)).append hys).mono hE
                · have := VRel.sl (X := X) (L := Loc.set (Loc.set L b .dead) st.next (.live cc (o + off) (cap - off) i.size)) (w := w.setRow cc (arr.toList.take (o + off + len * i.size) ++ ys ++ arr.toList.drop (o + off + len * i.size + ys.length)).toArray) (b := st.next) (off := 0) (len := len + n) (sz := i.size) (by simp [Loc.set]; exact ⟨rfl, rfl, rfl, rfl⟩) hroom (by omega)
                  simpa using this
              · cases e1
                have hn0 : n = 0 := by omega
                subst hn0
                have e1 : ys = [] := by have := hys.1; simp at hnl; rw [hnl] at this; simpa using this.symm
                subst e1
                have hrun := run_append_in t ty e i (hT.under hu) (hT.info _ _ hi) w w (some a) A 0 0 0 c [] (hf w rfl) hroom (by simp [storeCells])
                have hE := Ext.adopt H (next_none st) hL (o + off) (cap - off) i.size (w' := w) rfl (fun _ _ => rfl) rfl rfl rfl
                refine ⟨_, w, _, hrun, hE, ?_, ?_⟩
                · rw [St.new_hp, St.put_hp _ _ _ _ _ hbn]
                  refine HRel.adopt H (next_none st) hL (o + off) (cap - off) i.size rfl (fun _ _ => rfl) rfl rfl rfl rfl ?_
                  have hnn : new = [] := List.eq_nil_of_length_eq_zero (by simpa using hnl)
                  subst hnn
                  exact ⟨arr, ee, k1, by omega, by simp, by simp; exact .nil⟩
                · exact .slE (by simp [Loc.set])
            · exact append_out (ty := ty) hT H hu hi hz hzl hxs hys hol hnl hfo hf (by omega) hc4 hc3 (some b) (fun b' hb' => by cases hb'; rw [hsome]; simp)
          · cases h
        · cases h
      · cases h
    · cases h
  · cases h

theorem list1 {α : Type} {a : Array α} {x : α} (h : a.toList = [x]) : a = #[x] := by apply Array.ext'; rw [h]
theorem list2 {α : Type} {a : Array α} {x y : α} (h : a.toList = [x, y]) : a = #[x, y] := by apply Array.ext'; rw [h]

theorem head_under {c : Call} {d : TypeDesc} (h : (c.argTypes.toList.head?).bind tb.under = some d) : ∃ t, c.argTypes[0]? = some t ∧ tb.under t = some d := by
  cases hh : c.argTypes.toList.head? with
  | none => rw [hh] at h; simp at h
  | some t => rw [hh] at h; refine ⟨t, ?_, by simpa using h⟩; rw [List.head?_eq_getElem?] at hh; rw [← Array.getElem?_toList]; exact hh

theorem eff_builtin (hT : TabOK P tb) (H : HRel X L st.hp w) (hρ : OpRel X L w ρ ρc) {o : Oper} {c : Call} (ho : o.op = .call c) {b : Builtin} (hc : c.callee = .builtin b) {v : AV} {st' : St} (h : aBuiltin tb st b c.argTypes.toList (c.args.toList.map ρ) = .val v st') (hobl : AllObl st'.obl) : EffOK P X L w ρc o v st' := by
  have hargs := VRels.map hρ c.args
  generalize hal : c.args.toList.map ρ = al at h hargs
  unfold aBuiltin bAppend bCopy bClear at h
  split at h
  · -- append
    rename_i s x
    obtain ⟨sv, r1, e1, hs, hr1⟩ := hargs.cons_inv
    obtain ⟨xv, r2, e2, hx, hr2⟩ := hr1.cons_inv
    have e3 : r2 = [] := by have := hr2.1; simp at this; exact List.eq_nil_of_length_eq_zero this.symm
    subst e3
    subst e2
    have ea := list2 e1
    split at h
    · rename_i t u hat
      have et := list2 hat
      split at h
      · rename_i e hu
        split at h
        · rename_i i z hi hz
          split at h
          · rename_i hcc
            obtain ⟨rfl, hzl⟩ := hcc
            split at h
            · rename_i v' st1 happ
              cases h
              obtain ⟨y, w', L', hrun, hE, hH, hv⟩ := append_ok (ty := o.type) hT H hu hi hz hzl hs hx happ
              refine ⟨.value y, y, w', L', ?_, .inl rfl, hE, hH, hv⟩
              simp only [execOp, ho, resolve, hc, Sem.run_bind, Sem.run_pure, Result.andThen_ok, invoke, builtin, ea, et, hrun]
            · cases h
          · cases h
        · cases h
      · cases h
    · cases h
  · -- copy
    rename_i d x
    obtain ⟨dv, r1, e1, hd, hr1⟩ := hargs.cons_inv
    obtain ⟨xv, r2, e2, hx, hr2⟩ := hr1.cons_inv
    have e3 : r2 = [] := by have := hr2.1; simp at this; exact List.eq_nil_of_length_eq_zero this.symm
    subst e3
    subst e2
    have ea := list2 e1
    split at h
    · rename_i e m hu hm
      obtain ⟨t, ht, hut⟩ := head_under hu
      split at h
      · rename_i size hsz
        split at h
        · rename_i new hnew
          split at h
          · rename_i hlen
            obtain ⟨A, cp, ys, rfl, hys, hmc, hA, hf⟩ := src_part (P := P) H hx hm hnew hlen
            have hargt : c.argTypes[0]? = some t := ht
            have base : ∀ (B : Option Addr) (dl dcap : Nat) (w' : World), dv = .slice B dl dcap → (match B with | none => w' = w | some a => (storeCells a (ys.take (min m dl * size))).run P w = .ok () w') →
                (execOp ρc o).run P w = .ok (.value (.int .i64 ((min m dl : Nat) : Int))) w' := by
              intro B dl dcap w' hdv hst
              have hf' := hf (min m dl) (Nat.min_le_left _ _) w rfl
              have hmin : Nat.min m dl = min m dl := rfl
              cases B with
              | none =>
                simp only at hst
                subst hst
                simp only [execOp, ho, resolve, hc, Sem.run_bind, Sem.run_pure, Result.andThen_ok, invoke, builtin, ea, hdv]
                simp only [Builtin.copy_, hargt, List.getElem?_toArray, List.getElem?_cons_zero, List.getElem?_cons_succ, Sem.run_bind, hT.run_under hut, Result.andThen_ok, Builtin.lenOf, Sem.run_pure, hT.run_size hsz, hmin, hf']
                rfl
              | some a =>
                simp only at hst
                simp only [execOp, ho, resolve, hc, Sem.run_bind, Sem.run_pure, Result.andThen_ok, invoke, builtin, ea, hdv]
                simp only [Builtin.copy_, hargt, List.getElem?_toArray, List.getElem?_cons_zero, List.getElem?_cons_succ, Sem.run_bind, hT.run_under hut, Result.andThen_ok, Builtin.lenOf, Sem.run_pure, hT.run_size hsz, hmin, hf', hst]
                rfl
            split at h
            · cases h
              cases hd
              refine ⟨.value _, _, w, L, base none 0 0 w rfl rfl, .inl rfl, Ext.refl _ _, H, ?_⟩
              simp only [Nat.min_zero]
              exact .int _ _
            · rename_i b off n sz'
              split at h
              · rename_i cs hb
                split at h
                · rename_i cs' st1 hask
                  cases h
                  obtain ⟨q1, q2, q3, q4, q5, q6⟩ := askC_ok hask
                  have hal : (st.get b).alive = true := by rw [hb]; rfl
                  have hbn := St.alive_lt hal
                  have hhp : st.hp b = some (.cells cs) := by rw [St.hp_some hal, hb]
                  have hsub := hys.take (min m n * size)
                  obtain ⟨cc, oo, cap, dz, hL, w', hrun, hE, hH⟩ := store_block (P := P) H hhp hsub (q1 hobl)
                  rcases hd.sl_live hL with ⟨cap', rfl, h1, h2⟩ | ⟨rfl, a, rfl⟩
                  · refine ⟨.value _, _, w', L, base _ n cap' w' rfl hrun, .inl rfl, hE, ?_, .int _ _⟩
                    rw [St.put_hp _ _ _ _ _ (by rw [q4]; exact hbn), hp_of_eq q3 q4]
                    exact hH
                  · refine ⟨.value _, _, w, L, base _ 0 0 w rfl (by simp [storeCells]), .inl rfl, Ext.refl _ _, ?_, .int _ _⟩
                    rw [St.put_hp _ _ _ _ _ (by rw [q4]; exact hbn), hp_of_eq q3 q4]
                    have hst := q1 hobl
                    unfold storeC at hst
                    split at hst
                    · cases hst
                      simp only [Nat.min_zero, Nat.zero_mul, List.take_zero, setL_nil]
                      have : Hp.set st.hp b (.cells cs) = st.hp := by
                        funext i
                        by_cases e : i = b
                        · subst e; simp [Hp.set, hhp]
                        · simp [Hp.set, e]
                      rw [this]; exact H
                    · cases hst
                · cases h
              · cases h
            · cases h
          · cases h
        · cases h
      · cases h
    · cases h
  · -- clear
    rename_i d
    obtain ⟨dv, r1, e1, hd, hr1⟩ := hargs.cons_inv
    have e3 : r1 = [] := by have := hr1.1; simp at this; exact List.eq_nil_of_length_eq_zero this.symm
    subst e3
    have ea := list1 e1
    split at h
    · rename_i e hu
      obtain ⟨t, ht, hut⟩ := head_under hu
      cases h
      cases hd
      refine ⟨.value undef, undef, w, L, ?_, .inl rfl, Ext.refl _ _, H, undef_rel⟩
      simp only [execOp, ho, resolve, hc, Sem.run_bind, Sem.run_pure, Result.andThen_ok, invoke, builtin, ea]
      simp only [Builtin.clear_, ht, List.getElem?_toArray, List.getElem?_cons_zero, Sem.run_bind, hT.run_under hut, Result.andThen_ok, Sem.run_pure]
      rfl
    · rename_i e b off n sz hu
      obtain ⟨t, ht, hut⟩ := head_under hu
      split at h
      · rename_i z size cs hz hsz hb
        have hal : (st.get b).alive = true := by rw [hb]; rfl
        have hbn := St.alive_lt hal
        have hhp : st.hp b = some (.cells cs) := by rw [St.hp_some hal, hb]
        split at h
        · rename_i hn
          subst hn
          cases h
          obtain ⟨cc, oo, cap, dz, hL, _⟩ := H.at hhp rfl
          refine ⟨.value undef, undef, w, L, ?_, .inl rfl, Ext.refl _ _, H, undef_rel⟩
          rcases hd.sl_live hL with ⟨cap', rfl, h1, h2⟩ | ⟨_, a, rfl⟩
          · simp only [execOp, ho, resolve, hc, Sem.run_bind, Sem.run_pure, Result.andThen_ok, invoke, builtin, ea]
            simp only [Builtin.clear_, ht, List.getElem?_toArray, List.getElem?_cons_zero, Sem.run_bind, hT.run_under hut, Result.andThen_ok, Sem.run_pure]
            rfl
          · simp only [execOp, ho, resolve, hc, Sem.run_bind, Sem.run_pure, Result.andThen_ok, invoke, builtin, ea]
            simp only [Builtin.clear_, ht, List.getElem?_toArray, List.getElem?_cons_zero, Sem.run_bind, hT.run_under hut, Result.andThen_ok, Sem.run_pure]
            rfl
        · rename_i hn
          split at h
          · rename_i hzl
            obtain ⟨hzl, hz0⟩ := hzl
            split at h
            · rename_i cs' st1 hask
              cases h
              obtain ⟨q1, q2, q3, q4, q5, q6⟩ := askC_ok hask
              obtain ⟨z', hz1, hz2⟩ := hT.run_zero hz w
              have hzr := zero_cells (X := X) (L := L) (w := w) hz2
              have hzeros := zeros_ok hzr (by omega) n
              obtain ⟨cc, oo, cap, dz, hL, w', hrun, hE, hH⟩ := store_block (P := P) H hhp hzeros (q1 hobl)
              rcases hd.sl_live hL with ⟨cap', rfl, h1, h2⟩ | ⟨rfl, a, rfl⟩
              · refine ⟨.value undef, undef, w', L, ?_, .inl rfl, hE, ?_, undef_rel⟩
                · obtain ⟨n', rfl⟩ : ∃ n', n = n' + 1 := ⟨n - 1, by omega⟩
                  simp only [execOp, ho, resolve, hc, Sem.run_bind, Sem.run_pure, Result.andThen_ok, invoke, builtin, ea]
                  simp only [Builtin.clear_, ht, List.getElem?_toArray, List.getElem?_cons_zero, Sem.run_bind, hT.run_under hut, Result.andThen_ok, Sem.run_pure, hz1, Builtin.zeroCells, hrun]
                  rfl
                · rw [St.put_hp _ _ _ _ _ (by rw [q4]; exact hbn), hp_of_eq q3 q4]
                  exact hH
              · exact absurd rfl hn
            · cases h
          · cases h
      · cases h
    · cases h
  · cases h
  · cases h

/-- whatever an effect of its own gives, the machine's operation gives -/
theorem eff_val (hT : TabOK P tb) (H : HRel X L st.hp w) (hρ : OpRel X L w ρ ρc) {o : Oper} {v : AV} {st' : St} (h : aEff tb st ρ o.op = .val v st') (hobl : AllObl st'.obl) : EffOK P X L w ρc o v st' := by
  cases hop : o.op with
  | store t a x => rw [hop] at h; exact eff_store hT H hρ hop h hobl
  | mapUpdate t m k x => rw [hop] at h; exact eff_map hT H hρ (.inl hop) h
  | insert t m k x => rw [hop] at h; exact eff_map hT H hρ (.inr hop) h
  | call c =>
    rw [hop] at h
    simp only [aEff, eStore, eMap, eCall, eDefer, ePanic] at h
    cases hc : c.callee with
    | value f =>
      rw [hc] at h
      simp only [aCallV] at h
      split at h <;> cases h
    | builtin b => rw [hc] at h; exact eff_builtin hT H hρ hop hc h hobl
    | invoke r m => rw [hc] at h; cases h
  | defer c =>
    rw [hop] at h
    simp only [aEff, eStore, eMap, eCall, eDefer, ePanic] at h
    split at h
    · split at h <;> cases h
    · cases h
  | panic x =>
    rw [hop] at h
    simp only [aEff, eStore, eMap, eCall, eDefer, ePanic] at h
    split at h <;> cases h
  | _ => rw [hop] at h; simp [aEff, eStore, eMap, eCall, eDefer, ePanic] at h
end
end Go.Sy
