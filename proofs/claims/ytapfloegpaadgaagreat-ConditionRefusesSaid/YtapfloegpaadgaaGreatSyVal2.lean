/- What the abstract reckonings give, the machine's give: the rest. -/
import Derived.Test.YtapfloegpaadgaaGreatSyVal
set_option linter.unusedVariables false
set_option linter.unusedSimpArgs false
namespace Go.Sy

section
variable {P : Program} {tb : Tab} {X : Nat → Prop} {L : Loc} {w : World} {st : St} {ρ : Operand → AV} {ρc : Operand → Value}

theorem guard_int (op : BinOp) (t : Nat) (x y : Operand) (j k : IntKind) (a b : Int) : (eqGuard op t x y (.int j a) (.int k b)).run P w = .ok () w := by
  unfold eqGuard; cases op <;> rfl

theorem ok_binOp (hT : TabOK P tb) (hρ : OpRel X L w ρ ρc) {o : Oper} {op : BinOp} {t u : Nat} {x y : Operand} (ho : o.op = .binOp op t x y u) (hm : ∀ e ∈ headBlk (ρ x) ++ headBlk (ρ y), MemAt X L w st e)
    {v : AV} (h : aVal tb st ρ (.binOp op t x y u) = some v) : Gives P X L w ρc o v := by
  have hx := hρ x
  have hy := hρ y
  have hm1 : ∀ e ∈ headBlk (ρ x), MemAt X L w st e := fun e he => hm e (List.mem_append_left _ he)
  have hm2 : ∀ e ∈ headBlk (ρ y), MemAt X L w st e := fun e he => hm e (List.mem_append_right _ he)
  have fin : ∀ z, (do eqGuard op t x y (ρc x) (ρc y); binOp op t (ρc x) (ρc y)).run P w = .ok z w → VRel X L w v z → Gives P X L w ρc o v := by
    intro z h1 h2
    refine ⟨z, ?_, h2⟩
    simp only [execOp, ho]
    simp only [Sem.run_bind] at h1 ⊢
    rw [h1]; rfl
  simp only [aVal, vPick, vBuild, vLoad, vNil, vConv, vIface, vSlice, vFieldAddr, vField, vIndexAddr, vIndex, vLookup, vAssert, vExtract, vCall] at h
  generalize hax : ρ x = a at *
  generalize hay : ρ y = b at *
  unfold aBin at h
  split at h
  · rename_i k a' j b'
    obtain ⟨z, h1, h2⟩ := run_shiftI (P := P) (j := j) h t X L w
    refine fin z ?_ h2
    rw [hx.int_inv, hy.int_inv]
    simp only [Sem.run_bind, guard_int, Result.andThen_ok, h1]
  · rename_i k a' j b'
    obtain ⟨z, h1, h2⟩ := run_shiftI (P := P) (j := j) h t X L w
    refine fin z ?_ h2
    rw [hx.int_inv, hy.int_inv]
    simp only [Sem.run_bind, guard_int, Result.andThen_ok, h1]
  · rename_i k a' j b' hn1 hn2
    split at h
    · rename_i hjk
      subst hjk
      obtain ⟨z, h1, h2⟩ := run_binI (P := P) h ⟨fun e => hn1 e, fun e => hn2 e⟩ t X L w
      refine fin z ?_ h2
      rw [hx.int_inv, hy.int_inv]
      simp only [Sem.run_bind, guard_int, Result.andThen_ok, h1]
    · cases h
  · cases h
    rename_i s1 s2
    refine fin (.bool (s1.toList == s2.toList)) ?_ (.bool _)
    rw [hx.str_inv, hy.str_inv]
    simp [eqGuard, binOp, Op.stringOp]
  · cases h
    rename_i s1 s2
    refine fin (.bool !(s1.toList == s2.toList)) ?_ (.bool _)
    rw [hx.str_inv, hy.str_inv]
    simp [eqGuard, binOp, Op.stringOp]
  · rename_i xs ys
    rw [Bool.cond_eq_ite] at h
    split at h
    · rename_i hq
      obtain ⟨xs', e1, h1⟩ := hx.agg_inv
      obtain ⟨ys', e2, h2⟩ := hy.agg_inv
      cases he : eqFlat xs ys with
      | none => rw [he] at h; simp at h
      | some r =>
        rw [he] at h
        simp at h
        subst h
        obtain ⟨g1, g2⟩ := hT.eqAt hq xs' ys' r w (by have := h1.1; simpa using this.symm) (eqFlat_V h1 h2 he)
        refine fin (.bool r) ?_ (.bool _)
        rw [e1, e2]
        have g1' : (eqGuard .eql t x y (.agg xs') (.agg ys')).run P w = .ok () w := g1
        exact eq_fin (op := .eql) (.inl rfl) g2 g1' rfl rfl
    · cases h
  · rename_i xs ys
    rw [Bool.cond_eq_ite] at h
    split at h
    · rename_i hq
      obtain ⟨xs', e1, h1⟩ := hx.agg_inv
      obtain ⟨ys', e2, h2⟩ := hy.agg_inv
      cases he : eqFlat xs ys with
      | none => rw [he] at h; simp at h
      | some r =>
        rw [he] at h
        simp at h
        subst h
        obtain ⟨g1, g2⟩ := hT.eqAt hq xs' ys' r w (by have := h1.1; simpa using this.symm) (eqFlat_V h1 h2 he)
        refine fin (.bool (!r)) ?_ (.bool _)
        rw [e1, e2]
        have g1' : (eqGuard .neq t x y (.agg xs') (.agg ys')).run P w = .ok () w := g1
        exact eq_fin (op := .neq) (.inr rfl) g2 g1' rfl rfl
    · cases h
  · split at h
    · rename_i d hd
      cases he : eqLeaf d (isConst x || isConst y) a b with
      | none => rw [he] at h; simp at h
      | some r =>
        rw [he] at h
        simp at h
        subst h
        exact fin _ (ok_eqLeaf hT hd hx hy hm1 hm2 he .eql (.inl rfl)) (.bool _)
    · cases h
  · split at h
    · rename_i d hd
      cases he : eqLeaf d (isConst x || isConst y) a b with
      | none => rw [he] at h; simp at h
      | some r =>
        rw [he] at h
        simp at h
        subst h
        exact fin _ (ok_eqLeaf hT hd hx hy hm1 hm2 he .neq (.inr rfl)) (.bool _)
    · cases h
  · cases h

theorem aggSize_some (hT : TabOK P tb) {t : Nat} {a : Bool} {n : Nat} (h : tb.aggSize t = some (a, n)) (w : World) : (isAgg t).run P w = .ok a w ∧ (sizeOf t).run P w = .ok n w ∧ 0 < n := by
  unfold Tab.aggSize at h
  split at h
  · rename_i d m hd hm
    cases h
    exact ⟨hT.run_isAgg hd w, hT.run_size hm w, by omega⟩
  · cases h

/-- reading a variable whose cells are there -/
theorem run_loadAt (hT : TabOK P tb) {t : Nat} {agg : Bool} {n : Nat} (ht : tb.aggSize t = some (agg, n)) {c o off : Nat} {cs : List AV} {v : AV} (h : loadC cs agg n off = some v)
    (hc : ∀ j u, off ≤ j → j < off + n → cs[j]? = some u → ∃ x, w.cell? ⟨c, o + j, none⟩ = some x ∧ VRel X L w u x) :
    ∃ x, (Instr.loadAt t (.pointer (some ⟨c, o + off, none⟩))).run P w = .ok x w ∧ VRel X L w v x := by
  obtain ⟨h1, h2, h3⟩ := aggSize_some hT ht w
  unfold loadC at h
  cases agg with
  | false =>
    simp only [cond_false] at h
    obtain ⟨x, hx1, hx2⟩ := hc off v (Nat.le_refl _) (by omega) h
    refine ⟨x, ?_, hx2⟩
    simp [Instr.loadAt, Instr.sureAddr, loadVar, h1, hx1]
  | true =>
    simp only [cond_true] at h
    split at h
    · rename_i hle
      cases h
      have hex : ∀ j, j < n → ∃ x, w.cell? ⟨c, o + off + j, none⟩ = some x ∧ ∀ u, cs[off + j]? = some u → VRel X L w u x := by
        intro j hj
        obtain ⟨x, hx1, hx2⟩ := hc (off + j) cs[off + j] (by omega) (by omega) (List.getElem?_eq_getElem (by omega))
        refine ⟨x, by rw [Nat.add_assoc]; exact hx1, fun u hu => ?_⟩
        rw [List.getElem?_eq_getElem (by omega)] at hu
        cases hu
        exact hx2
      have hf : ∃ f : Nat → Value, ∀ j, j < n → w.cell? ⟨c, o + off + j, none⟩ = some (f j) ∧ ∀ u, cs[off + j]? = some u → VRel X L w u (f j) :=
        ⟨fun j => if h : j < n then (hex j h).choose else undef, fun j hj => by simp only [hj, dif_pos]; exact (hex j hj).choose_spec⟩
      obtain ⟨f, hf⟩ := hf
      refine ⟨.agg ((List.range n).map f).toArray, ?_, ?_⟩
      · have := run_loadCells (P := P) w ⟨c, o + off, none⟩ n f (fun j hj => by rw [add_none]; exact (hf j hj).1)
        simp [Instr.loadAt, Instr.sureAddr, loadVar, h1, h2, this]
      · refine VRel.agg_mk ⟨?_, fun j u x hj hx => ?_⟩
        · simp; omega
        · simp only [List.getElem?_map, Option.map_eq_some_iff] at hx
          obtain ⟨i, hi, rfl⟩ := hx
          obtain ⟨hl, hi2⟩ := List.getElem?_eq_some_iff.1 hi
          simp at hl hi2
          subst hi2
          rw [List.getElem?_take, if_pos hl, List.getElem?_drop] at hj
          exact (hf j hl).2 u hj
    · cases h

theorem ok_load (hT : TabOK P tb) (hρ : OpRel X L w ρ ρc) {o : Oper} {t : Nat} {x : Operand} (ho : o.op = .load t x) (hm : ∀ e ∈ touches tb ρ (.load t x), MemAt X L w st e) {v : AV} (h : aVal tb st ρ (.load t x) = some v) : Gives P X L w ρc o v := by
  have hx := hρ x
  simp only [aVal, vPick, vBuild, vLoad, vNil, vConv, vIface, vSlice, vFieldAddr, vField, vIndexAddr, vIndex, vLookup, vAssert, vExtract, vCall] at h
  split at h
  · rename_i agg size hs
    have hsz : tb.size t = some size := by
      unfold Tab.aggSize at hs
      split at hs
      · rename_i hd hz; cases hs; exact hz
      · cases hs
    split at h
    · rename_i b off hr
      split at h
      · rename_i cs hb
        rw [hr] at hx
        simp only [touches, tLoad, tMap, hr, hsz] at hm
        obtain ⟨c, oo, cap, sz, hl⟩ := live_of hm (b := b) (n := 1) (by simp)
        have e := hx.ptr_live hl
        obtain ⟨c', o', cap', sz', hl', hmem⟩ := hm (b, off, size) (by simp)
        rw [hl] at hl'
        cases hl'
        simp only [hb] at hmem
        obtain ⟨arr, ty, hc1, hc2⟩ := hmem
        obtain ⟨y, hy1, hy2⟩ := run_loadAt (w := w) (X := X) (L := L) hT hs (c := c) (o := oo) h (fun j u h1 h2 hu => by
          obtain ⟨z, hz1, hz2⟩ := hc2 j u h1 h2 hu
          exact ⟨z, by simp [World.cell?, hc1, hz1], hz2⟩)
        exact ⟨y, by simp [execOp, ho, e, hy1], hy2⟩
      · cases h
    · rename_i cs off hr
      rw [hr] at hx
      obtain ⟨bl, oo, xs, e, h1, h2, h3, h4, h5, h6⟩ := hx.iptr_inv
      obtain ⟨y, hy1, hy2⟩ := run_loadAt (w := w) (X := X) (L := L) hT hs (c := bl) (o := oo) h (fun j u _ _ hu => ⟨_, h4 j u hu, h5 j u hu⟩)
      exact ⟨y, by simp [execOp, ho, e, hy1], hy2⟩
    · cases h
  · cases h

theorem ok_field (hT : TabOK P tb) (hρ : OpRel X L w ρ ρc) {o : Oper} {t i : Nat} {x : Operand} (ho : o.op = .field t x i) {v : AV} (h : aVal tb st ρ (.field t x i) = some v) : Gives P X L w ρc o v := by
  have hx := hρ x
  simp only [aVal, vPick, vBuild, vLoad, vNil, vConv, vIface, vSlice, vFieldAddr, vField, vIndexAddr, vIndex, vLookup, vAssert, vExtract, vCall] at h
  split at h
  · rename_i fs cs hu hr
    rw [hr] at hx
    obtain ⟨xs, e, hxs⟩ := hx.agg_inv
    split at h
    · rename_i f hf
      split at h
      · rename_i agg size hs
        obtain ⟨h1, h2, h3⟩ := aggSize_some hT hs w
        have hf' : fs[i]? = some f := by rw [← Array.getElem?_toList]; exact hf
        have base : ∀ y, (part f.type xs f.offset).run P w = .ok y w → VRel X L w v y → Gives P X L w ρc o v := by
          intro y hy1 hy2
          refine ⟨y, ?_, hy2⟩
          simp [execOp, ho, e, Instr.field, hT.run_under hu, hf', asAgg, hy1]
        unfold loadC at h
        cases agg with
        | true =>
          simp only [cond_true] at h
          split at h
          · cases h
            refine base (.agg (xs.extract f.offset (f.offset + size))) (by simp [part, h1, h2]) (VRel.agg_mk ?_)
            have := (hxs.drop f.offset).take size
            simpa [Array.toList_extract, List.extract] using this
          · cases h
        | false =>
          simp only [cond_false] at h
          obtain ⟨y, hy1, hy2⟩ := hxs.get h
          have hy1' : xs[f.offset]? = some y := by rw [← Array.getElem?_toList]; exact hy1
          exact base y (by simp [part, h1, hy1']) hy2
      · cases h
    · cases h
  · cases h

theorem ok_fieldAddr (hT : TabOK P tb) (hρ : OpRel X L w ρ ρc) {o : Oper} {t i : Nat} {x : Operand} (ho : o.op = .fieldAddr t x i) (hm : ∀ e ∈ headBlk (ρ x), MemAt X L w st e) {v : AV} (h : aVal tb st ρ (.fieldAddr t x i) = some v) : Gives P X L w ρc o v := by
  have hx := hρ x
  simp only [aVal, vPick, vBuild, vLoad, vNil, vConv, vIface, vSlice, vFieldAddr, vField, vIndexAddr, vIndex, vLookup, vAssert, vExtract, vCall] at h
  split at h
  · rename_i fs hu
    split at h
    · rename_i f hf
      have hf' : fs[i]? = some f := by rw [← Array.getElem?_toList]; exact hf
      split at h
      · rename_i n hn
        have hsz := hT.run_size hn w
        have base : ∀ c oo, ρc x = .pointer (some ⟨c, oo, none⟩) → (execOp ρc o).run P w = .ok (.value (.pointer (some ⟨c, oo + f.offset, none⟩))) w := by
          intro c oo e
          simp [execOp, ho, e, Instr.fieldAt, hT.run_under hu, hf', Instr.sureAddr, fieldPlace, hsz, add_none]
        split at h
        · rename_i b off hr
          cases h
          rw [hr] at hx hm
          obtain ⟨c, oo, cap, sz, hl⟩ := live_of hm (b := b) (n := 1) (by simp [headBlk])
          have e := hx.ptr_live hl
          exact ⟨_, base _ _ e, by rw [Nat.add_assoc]; exact .ptr hl⟩
        · rename_i cs off hr
          cases h
          rw [hr] at hx
          obtain ⟨bl, oo, xs, e, h1, h2, h3, h4, h5, h6⟩ := hx.iptr_inv
          exact ⟨_, base _ _ e, by rw [Nat.add_assoc]; exact .iptr xs h1 h2 h3 h4 h5 h6⟩
        · cases h
      · cases h
    · cases h
  · cases h

theorem flat_get {es : List AV} {sz i : Nat} {v : AV} (hsz : ∀ e ∈ es, e.cells.length = sz) (hv : es[i]? = some v) {j : Nat} {u : AV} (hj : v.cells[j]? = some u) : (es.flatMap AV.cells)[i * sz + j]? = some u := by
  induction es generalizing i with
  | nil => simp at hv
  | cons e es ih =>
    cases i with
    | zero =>
      simp at hv
      subst hv
      obtain ⟨hl, -⟩ := List.getElem?_eq_some_iff.1 hj
      simp only [List.flatMap_cons, Nat.zero_mul, Nat.zero_add]
      rw [List.getElem?_append_left hl]; exact hj
    | succ i =>
      have he := hsz e (by simp)
      have := ih (i := i) (fun e' h' => hsz e' (by simp [h'])) (by simpa using hv)
      simp only [List.flatMap_cons]
      rw [List.getElem?_append_right (by rw [he, Nat.succ_mul]; omega), he]
      rw [show (i + 1) * sz + j - sz = i * sz + j by rw [Nat.succ_mul]; omega]
      exact this

theorem ok_indexAddr (hT : TabOK P tb) (hρ : OpRel X L w ρ ρc) {o : Oper} {t : Nat} {x ix : Operand} (ho : o.op = .indexAddr t x ix) (hm : ∀ e ∈ headBlk (ρ x), MemAt X L w st e) {v : AV} (h : aVal tb st ρ (.indexAddr t x ix) = some v) : Gives P X L w ρc o v := by
  have hx := hρ x
  have hi := hρ ix
  simp only [aVal, vPick, vBuild, vLoad, vNil, vConv, vIface, vSlice, vFieldAddr, vField, vIndexAddr, vIndex, vLookup, vAssert, vExtract, vCall] at h
  split at h
  · rename_i e k i hu hri
    rw [hri] at hi
    have ei := hi.int_inv
    split at h
    · rename_i size b off n sz0 hs hr
      rw [hr] at hx hm
      split at h
      · rename_i hlt
        cases h
        obtain ⟨c, oo, cap, sz, hl⟩ := live_of hm (b := b) (n := 1) (by simp [headBlk])
        rcases hx.sl_live hl with ⟨cap', ex, _⟩ | ⟨rfl, _⟩
        · refine ⟨.pointer (some ⟨c, oo + (off + i * size), none⟩), ?_, .ptr hl⟩
          have h1 : ¬ n ≤ i := by omega
          simp [execOp, ho, ex, ei, Instr.indexAt, asIntOf, hT.run_under hu, hT.run_size hs, h1, add_none, Nat.add_assoc]
        · omega
      · cases h
    · rename_i size sz0 es clip hs hr
      rw [hr] at hx
      split at h
      · rename_i u hes
        split at h
        · rename_i hsz
          cases h
          generalize hy : ρc x = y at *
          cases hx with
          | immE _ => simp at hes
          | @imm _ _ bl oo cap sz xs h0 h1 h2 h3 h4 h5 h6 h7 h8 h9 =>
            have hmem : u ∈ es := List.mem_of_getElem? hes
            subst hsz
            obtain ⟨hil, -⟩ := List.getElem?_eq_some_iff.1 hes
            refine ⟨.pointer (some ⟨bl, oo + i * sz0 + 0, none⟩), ?_, ?_⟩
            · have h1 : ¬ es.length ≤ i := by omega
              simp [execOp, ho, hy, ei, Instr.indexAt, asIntOf, hT.run_under hu, hT.run_size hs, h1, add_none]
            · refine .iptr (fun j => xs (i * sz0 + j)) h1 h2 h3 (fun j w' hj => ?_) (fun j w' hj => ?_) (h9 u hmem).cells
              · have := h4 _ _ (flat_get h8 hes hj)
                rw [← Nat.add_assoc] at this; exact this
              · exact h5 _ _ (flat_get h8 hes hj)
        · cases h
      · cases h
    · cases h
  · rename_i n e k i hu hri
    rw [hri] at hi
    have ei := hi.int_inv
    split at h
    · rename_i size b off hs hr
      rw [hr] at hx hm
      split at h
      · rename_i hlt
        cases h
        obtain ⟨c, oo, cap, sz, hl⟩ := live_of hm (b := b) (n := 1) (by simp [headBlk])
        have ex := hx.ptr_live hl
        refine ⟨.pointer (some ⟨c, oo + (off + i * size), none⟩), ?_, .ptr hl⟩
        have h1 : ¬ n ≤ i := by omega
        simp [execOp, ho, ex, ei, Instr.indexAt, asIntOf, hT.run_under hu, hT.run_size hs, h1, add_none, Nat.add_assoc, Instr.sureAddr]
      · cases h
    · cases h
  · cases h
end
end Go.Sy
