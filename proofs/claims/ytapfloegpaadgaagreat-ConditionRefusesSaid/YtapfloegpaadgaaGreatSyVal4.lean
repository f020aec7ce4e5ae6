/- What the abstract reckonings give, the machine's give: all of them. -/
import Derived.Test.YtapfloegpaadgaaGreatSyVal3
set_option linter.unusedVariables false
set_option linter.unusedSimpArgs false
namespace Go.Sy

section
variable {P : Program} {tb : Tab} {X : Nat → Prop} {L : Loc} {w : World} {st : St} {ρ : Operand → AV} {ρc : Operand → Value}

/-- every field's type is in the table -/
def FieldsOK (tb : Tab) : Prop := ∀ t fs, tb.under t = some (.struct fs) → ∀ f ∈ fs.toList, ∃ n, tb.size f.type = some n

theorem zero_cells {z : Value} {a : AV} (h : a = ofConst z) : VRels X L w a.cells z.cells.toList := by
  subst h
  by_cases hz : ∃ cs, z = .agg cs
  · obtain ⟨cs, rfl⟩ := hz
    obtain ⟨xs, e, h⟩ := (VRel.const X L w (.agg cs)).agg_inv
    cases e
    exact h
  · have e0 : z.cells = #[z] := by cases z <;> first | rfl | exact absurd ⟨_, rfl⟩ hz
    have e1 : ofConst z = ofLeaf z := by cases z <;> first | rfl | exact absurd ⟨_, rfl⟩ hz
    have e2 : (ofLeaf z).cells = [ofLeaf z] := by unfold ofLeaf; split <;> rfl
    rw [e0, e1, e2]
    exact .one (.leafC ..)

theorem run_places (hT : TabOK P tb) {fs : Array Field} (h : ∀ f ∈ fs.toList, ∃ n, tb.size f.type = some n) :
    ∃ ps : Array (Nat × Nat), (fs.mapM fun (f : Field) => (do pure (f.offset, ← sizeOf f.type) : Sem (Nat × Nat))).run P w = .ok ps w ∧ ∀ i : Nat, (fs.toList[i]?.bind fun (f : Field) => (tb.size f.type).map fun s => (f.offset, s)) = ps[i]? := by
  have key : ∀ l : List Field, (∀ f ∈ l, ∃ n, tb.size f.type = some n) → ∃ ps : List (Nat × Nat), (l.mapM fun (f : Field) => (do pure (f.offset, ← sizeOf f.type) : Sem (Nat × Nat))).run P w = .ok ps w ∧ ∀ i : Nat, (l[i]?.bind fun (f : Field) => (tb.size f.type).map fun s => (f.offset, s)) = ps[i]? := by
    intro l
    induction l with
    | nil => intro _; exact ⟨[], rfl, fun i => by simp⟩
    | cons f l ih =>
      intro h
      obtain ⟨n, hn⟩ := h f (by simp)
      obtain ⟨ps, h1, h2⟩ := ih fun g hg => h g (by simp [hg])
      refine ⟨(f.offset, n) :: ps, ?_, fun i => ?_⟩
      · simp only [List.mapM_cons, Sem.run_bind, hT.run_size hn, Result.andThen_ok, Sem.run_pure, h1]
      · cases i with
        | zero => simp [hn]
        | succ i => simpa using h2 i
  obtain ⟨ps, h1, h2⟩ := key fs.toList h
  refine ⟨ps.toArray, ?_, fun i => by rw [h2 i]; simp⟩
  rw [Array.mapM_eq_mapM_toList]
  simp only [Sem.run_map, h1, Result.andThen_ok]

theorem parts_rel (hρ : OpRel X L w ρ ρc) (parts : Array (Nat × Operand)) :
    (parts.toList.map fun (i, x) => (i, ρ x)).length = (parts.map fun (i, x) => (i, ρc x)).toList.length ∧
    ∀ (j : Nat) (p : Nat × AV) (q : Nat × Value), (parts.toList.map fun (i, x) => (i, ρ x))[j]? = some p → (parts.map fun (i, x) => (i, ρc x)).toList[j]? = some q → p.1 = q.1 ∧ VRel X L w p.2 q.2 := by
  refine ⟨by simp, fun j p q hp hq => ?_⟩
  simp only [Array.toList_map, List.getElem?_map, Option.map_eq_some_iff] at hp hq
  obtain ⟨⟨i, x⟩, ha, rfl⟩ := hp
  obtain ⟨⟨i', x'⟩, hb, rfl⟩ := hq
  rw [ha] at hb
  cases hb
  exact ⟨rfl, hρ x⟩

theorem ok_build (hT : TabOK P tb) (hF : FieldsOK tb) (hρ : OpRel X L w ρ ρc) {o : Oper} {t : Nat} {parts : Array (Nat × Operand)} (ho : o.op = .build t parts) {v : AV} (h : aVal tb st ρ (.build t parts) = some v) : Gives P X L w ρc o v := by
  simp only [aVal, vPick, vBuild, vLoad, vNil, vConv, vIface, vSlice, vFieldAddr, vField, vIndexAddr, vIndex, vLookup, vAssert, vExtract, vCall] at h
  have hp := parts_rel hρ parts
  split at h
  · rename_i fs z hu hz
    obtain ⟨z', hz1, hz2⟩ := hT.run_zero hz w
    obtain ⟨ps, hps1, hps2⟩ := run_places (w := w) hT (hF t fs hu)
    simp only [Option.map_eq_some_iff] at h
    obtain ⟨r, hr, rfl⟩ := h
    have : (fun (i : Nat) => fs.toList[i]?.bind fun (f : Field) => (tb.size f.type).map fun s => (f.offset, s)) = fun i => ps[i]? := funext hps2
    rw [this] at hr
    obtain ⟨r', h1, h2⟩ := fill_ok _ _ _ z'.cells _ hp.1 hp.2 (zero_cells hz2) hr
    refine ⟨.agg r', ?_, VRel.agg_mk h2⟩
    simp only [execOp, ho, Instr.build, Sem.run_bind, hz1, Result.andThen_ok, hT.run_under hu, hps1, h1, Sem.run_pure]
  · rename_i n e z hu hz
    obtain ⟨z', hz1, hz2⟩ := hT.run_zero hz w
    split at h
    · rename_i size hs
      simp only [Option.map_eq_some_iff] at h
      obtain ⟨r, hr, rfl⟩ := h
      obtain ⟨r', h1, h2⟩ := fill_ok _ _ _ z'.cells _ hp.1 hp.2 (zero_cells hz2) hr
      refine ⟨.agg r', ?_, VRel.agg_mk h2⟩
      simp only [execOp, ho, Instr.build, Sem.run_bind, hz1, Result.andThen_ok, hT.run_under hu, hT.run_size hs, h1, Sem.run_pure]
    · cases h
  · cases h

/-! maps -/
theorem find_ok {d : TypeDesc} {kd : IntKind} (hd : d = .int kd) (k : Int) : ∀ (es : List (Int × AV)) (fs : List MapEntry) (i : Nat), ERels X L w es fs →
    match findM k es with
    | some v => ∃ j x, Instr.findNow d (.int .i64 k) fs i = some (some (j, x)) ∧ VRel X L w v x
    | none => Instr.findNow d (.int .i64 k) fs i = some none := by
  intro es fs i h
  induction h generalizing i with
  | nil => simp [findM, Instr.findNow]
  | @cons k' v e es fs h1 h2 h3 ih =>
    subst hd
    simp only [findM]
    by_cases hk : k' = k
    · subst hk
      rw [if_pos rfl]
      exact ⟨i, e.val, by simp [Instr.findNow, h1, Instr.sameNow], h2⟩
    · rw [if_neg hk]
      have := ih (i + 1)
      have hne : Instr.findNow (.int kd) (.int .i64 k) (e :: fs) i = Instr.findNow (.int kd) (.int .i64 k) fs (i + 1) := by
        have hb : (k == k') = false := by simp [Ne.symm hk]
        simp [Instr.findNow, h1, Instr.sameNow, hb]
      split <;> rename_i he <;> rw [he] at this <;> rw [hne] <;> exact this

theorem run_checkKey (hT : TabOK P tb) {kt : Nat} {kd : IntKind} (h : tb.under kt = some (.int kd)) (b : Bool) (k : Int) : (Instr.checkKey b 10000 kt (.int .i64 k)).run P w = .ok () w := by
  have : ∀ n, (Instr.checkKey b (n + 1) kt (.int .i64 k)).run P w = .ok () w := by
    intro n
    simp [Instr.checkKey, hT.run_under h]
  exact this 9999

theorem ok_lookup (hT : TabOK P tb) (hρ : OpRel X L w ρ ρc) {o : Oper} {t : Nat} {x ix : Operand} {ok : Bool} (ho : o.op = .lookup t x ix ok) (hm : ∀ e ∈ touches tb ρ (.lookup t x ix ok), MemAt X L w st e) {v : AV} (h : aVal tb st ρ (.lookup t x ix ok) = some v) : Gives P X L w ρc o v := by
  have hx := hρ x
  have hi := hρ ix
  simp only [aVal, vPick, vBuild, vLoad, vNil, vConv, vIface, vSlice, vFieldAddr, vField, vIndexAddr, vIndex, vLookup, vAssert, vExtract, vCall] at h
  split at h
  · rename_i kt e k hu hri
    rw [hri] at hi
    have ei := hi.int_inv
    split at h
    · rename_i kd hkt
      -- what the map holds
      have hes : ∀ es, (match ρ x with | .nilm => some [] | .map b => (match st.get b with | .map es => some es | _ => none) | _ => none : Option (List (Int × AV))) = some es →
          ∃ fs : Array MapEntry, ERels X L w es fs.toList ∧ ((ρc x = .map none ∧ fs = #[]) ∨ ∃ c clock, ρc x = .map (some c) ∧ w.heap[c]? = some (.map fs clock)) := by
        intro es he
        split at he
        · rename_i hr
          cases he
          rw [hr] at hx
          exact ⟨#[], .nil, .inl ⟨hx.nilm_inv, rfl⟩⟩
        · rename_i b hr
          split at he
          · rename_i es' hb
            cases he
            rw [hr] at hx
            simp only [touches, tLoad, tMap, hr] at hm
            obtain ⟨c, oo, cap, sz, hl, hmem⟩ := hm (b, live0, 1) (by simp)
            simp only [hb] at hmem
            obtain ⟨fs, clock, h1, h2⟩ := hmem
            exact ⟨fs, h2, .inr ⟨c, clock, hx.map_live hl, h1⟩⟩
          · cases he
        · cases he
      split at h
      · rename_i es z hes1 hz
        obtain ⟨fs, h1, h2⟩ := hes es hes1
        obtain ⟨z', hz1, hz2⟩ := hT.run_zero hz w
        have hf := find_ok (X := X) (L := L) (w := w) (d := .int kd) rfl k es fs.toList 0 h1
        have base : ∀ r, Instr.findNow (.int kd) (.int .i64 k) fs.toList 0 = some r → (execOp ρc o).run P w =
            .ok (.value (if ok = true then .tuple #[((r.map (·.2)).getD z'), .bool r.isSome] else ((r.map (·.2)).getD z'))) w := by
          intro r hr
          have hfin : ∀ es : Array MapEntry, es = fs → (do
            Instr.checkKey es.isEmpty 10000 kt (.int .i64 k)
            let (v, ok') ← match ← Instr.findKey kt (.int .i64 k) es.toList with
              | some (_, v) => pure (v, true)
              | none => pure (← zeroValue e, false)
            pure (if ok then .tuple #[v, .bool ok'] else v) : Sem Value).run P w = .ok (if ok = true then .tuple #[((r.map (·.2)).getD z'), .bool r.isSome] else ((r.map (·.2)).getD z')) w := by
            rintro es rfl
            simp only [Sem.run_bind, run_checkKey hT hkt, Result.andThen_ok, Instr.findKey, hT.run_under hkt, hr, Sem.run_pure]
            cases r with
            | none => simp only [Sem.run_bind, hz1, Result.andThen_ok, Sem.run_pure]; rfl
            | some p => simp only [Sem.run_pure, Result.andThen_ok]; rfl
          have hl : (Instr.lookup t (ρc x) (.int .i64 k) ok).run P w = .ok (if ok = true then .tuple #[((r.map (·.2)).getD z'), .bool r.isSome] else ((r.map (·.2)).getD z')) w := by
            rcases h2 with ⟨e1, e2⟩ | ⟨c, clock, e1, e2⟩
            · rw [e1]
              have := hfin #[] e2.symm
              simp only [Instr.lookup, Sem.run_bind, hT.run_under hu, Result.andThen_ok, Sem.run_pure] at this ⊢
              exact this
            · rw [e1]
              have := hfin fs rfl
              have hg : (getObj c).run P w = .ok (.map fs clock) w := by simp [getObj, Sem.run, e2]
              simp only [Instr.lookup, Sem.run_bind, hT.run_under hu, Result.andThen_ok, Sem.run_pure, hg] at this ⊢
              exact this
          simp only [execOp, ho, ei, Sem.run_bind, hl, Result.andThen_ok, Sem.run_pure]
        cases hfm : findM k es with
        | some u =>
          rw [hfm] at hf h
          obtain ⟨j, x', hf1, hf2⟩ := hf
          simp only [Option.some.injEq] at h
          subst h
          cases ok with
          | true => exact ⟨.tuple #[x', .bool true], by rw [base _ hf1]; rfl, VRel.tup_mk (by simpa using (VRels.one (VRel.bool true)).cons hf2)⟩
          | false => exact ⟨x', by rw [base _ hf1]; rfl, hf2⟩
        | none =>
          rw [hfm] at hf h
          simp only [Option.some.injEq] at h
          subst h
          cases ok with
          | true => exact ⟨.tuple #[z', .bool false], by rw [base _ hf]; rfl, VRel.tup_mk (by simpa using (VRels.one (VRel.bool false)).cons (hz2 ▸ VRel.const X L w z'))⟩
          | false => exact ⟨z', by rw [base _ hf]; rfl, hz2 ▸ VRel.const X L w z'⟩
      · cases h
    · cases h
  · cases h

/-! lengths, the least, the greatest -/
theorem ok_call (hT : TabOK P tb) (hρ : OpRel X L w ρ ρc) {o : Oper} {c : Call} (ho : o.op = .call c) (hm : ∀ e ∈ touches tb ρ (.call c), MemAt X L w st e) {v : AV} (h : aVal tb st ρ (.call c) = some v) : Gives P X L w ρc o v := by
  have hargs := VRels.map hρ c.args
  simp only [aVal, vPick, vBuild, vLoad, vNil, vConv, vIface, vSlice, vFieldAddr, vField, vIndexAddr, vIndex, vLookup, vAssert, vExtract, vCall] at h
  have base : ∀ b z, c.callee = .builtin b → (∀ cs, (builtin b c.argTypes o.type cs (c.args.map ρc)).run P w = .ok (.value z) w) → VRel X L w v z → Gives P X L w ρc o v := by
    intro b z hb hr hv
    refine ⟨z, ?_, hv⟩
    simp only [execOp, ho, resolve, hb, Sem.run_bind, Sem.run_pure, Result.andThen_ok, invoke, hr]
  split at h
  · rename_i b hc ha
    rw [ha] at hargs
    obtain ⟨x, xs, e1, h1, h2⟩ := hargs.cons_inv
    have e2 : xs = [] := by have := h2.1; simp at this; exact List.eq_nil_of_length_eq_zero this.symm
    subst e2
    have e3 : c.args.map ρc = #[x] := by apply Array.ext'; rw [e1]
    split at h
    · rename_i k e hu
      split at h
      · rename_i es hb
        cases h
        have hmem : MemAt X L w st (b, live0, 1) := hm _ (by
          simp only [touches, tLoad, tMap, ha, List.flatMap_cons, List.flatMap_nil]
          simp)
        obtain ⟨cc, oo, cap, sz, hl, hmem⟩ := hmem
        simp only [hb] at hmem
        obtain ⟨fs, clock, h3, h4⟩ := hmem
        have ex := h1.map_live hl
        have hlen : es.length = fs.size := by
          have : ∀ (es : List (Int × AV)) (fs : List MapEntry), ERels X L w es fs → es.length = fs.length := by
            intro es fs h
            induction h with
            | nil => rfl
            | cons _ _ _ ih => simp [ih]
          simpa using this _ _ h4
        obtain ⟨t0, ht0, hut⟩ : ∃ t, c.argTypes[0]? = some t ∧ tb.under t = some (.map k e) := by
          cases hh : c.argTypes.toList.head? with
          | none => rw [hh] at hu; simp at hu
          | some t => rw [hh] at hu; refine ⟨t, ?_, by simpa using hu⟩; rw [List.head?_eq_getElem?] at hh; rw [← Array.getElem?_toList]; exact hh
        have hg : (getObj cc).run P w = .ok (.map fs clock) w := by simp [getObj, Sem.run, h3]
        refine base .len (goInt fs.size) hc (fun _ => ?_) (by rw [hlen]; exact .int _ _)
        simp [builtin, Builtin.len_, e3, ht0, hT.run_under hut, ex, hg]
      · cases h
    · cases h
  · rename_i x hn hc ha
    rw [ha] at hargs
    obtain ⟨x', xs, e1, h1, h2⟩ := hargs.cons_inv
    have e2 : xs = [] := by have := h2.1; simp at this; exact List.eq_nil_of_length_eq_zero this.symm
    subst e2
    have e3 : c.args.map ρc = #[x'] := by apply Array.ext'; rw [e1]
    have htouch : ∀ e ∈ headBlk x, MemAt X L w st e := by
      intro e he
      apply hm
      simp only [touches, tLoad, tMap, ha, List.flatMap_cons, List.flatMap_nil, List.append_nil]
      exact he
    split at h
    · cases h
    · rename_i x0 e hu hns
      unfold lenV at h
      split at h
      · rename_i n hn1
        cases h
        obtain ⟨t0, ht0, hut⟩ : ∃ t, c.argTypes[0]? = some t ∧ tb.under t = some (.slice e) := by
          cases hh : c.argTypes.toList.head? with
          | none => rw [hh] at hu; simp at hu
          | some t => rw [hh] at hu; refine ⟨t, ?_, by simpa using hu⟩; rw [List.head?_eq_getElem?] at hh; rw [← Array.getElem?_toList]; exact hh
        obtain ⟨A, cap, ex⟩ := h1.len hn1 (fun b off len sz e => by
          subst e
          exact live_of htouch (b := b) (n := 1) (by simp [headBlk])) (fun s e => hns s e)
        refine base .len (goInt n) hc (fun _ => ?_) (.int _ _)
        simp [builtin, Builtin.len_, e3, ht0, hT.run_under hut, ex]
      · cases h
    · rename_i s hu
      cases h
      obtain ⟨t0, ht0, hut⟩ : ∃ t, c.argTypes[0]? = some t ∧ tb.under t = some .string := by
        cases hh : c.argTypes.toList.head? with
        | none => rw [hh] at hu; simp at hu
        | some t => rw [hh] at hu; refine ⟨t, ?_, by simpa using hu⟩; rw [List.head?_eq_getElem?] at hh; rw [← Array.getElem?_toList]; exact hh
      have ex := h1.str_inv
      refine base .len (goInt s.size) hc (fun _ => ?_) (.int _ _)
      simp [builtin, Builtin.len_, e3, ht0, hT.run_under hut, ex]
    · cases h
  · rename_i j a k b hc ha
    split at h
    · rename_i hjk
      subst hjk
      cases h
      rw [ha] at hargs
      obtain ⟨x, xs, e1, h1, h2⟩ := hargs.cons_inv
      obtain ⟨y, ys, e2, h3, h4⟩ := h2.cons_inv
      have e4 : ys = [] := by have := h4.1; simp at this; exact List.eq_nil_of_length_eq_zero this.symm
      subst e4; subst e2
      have e3 : c.args.map ρc = #[x, y] := by apply Array.ext'; rw [e1]
      refine base .min (.int j (if b < a then b else a)) hc (fun _ => ?_) (.int _ _)
      simp [builtin, Builtin.min_, Builtin.min2, e3, h1.int_inv, h3.int_inv]
    · cases h
  · rename_i j a k b hc ha
    split at h
    · rename_i hjk
      subst hjk
      cases h
      rw [ha] at hargs
      obtain ⟨x, xs, e1, h1, h2⟩ := hargs.cons_inv
      obtain ⟨y, ys, e2, h3, h4⟩ := h2.cons_inv
      have e4 : ys = [] := by have := h4.1; simp at this; exact List.eq_nil_of_length_eq_zero this.symm
      subst e4; subst e2
      have e3 : c.args.map ρc = #[x, y] := by apply Array.ext'; rw [e1]
      refine base .max (.int j (if a < b then b else a)) hc (fun _ => ?_) (.int _ _)
      simp [builtin, Builtin.max_, Builtin.max2, e3, h1.int_inv, h3.int_inv]
    · cases h
  · cases h

theorem aVal_ok (hT : TabOK P tb) (hF : FieldsOK tb) (hρ : OpRel X L w ρ ρc) {o : Oper} (hm : ∀ e ∈ touches tb ρ o.op, MemAt X L w st e) {v : AV} (h : aVal tb st ρ o.op = some v) : Gives P X L w ρc o v := by
  cases ho : o.op <;> rw [ho] at h hm
  case move x => simp only [aVal, vPick, vBuild, vLoad, vNil, vConv, vIface, vSlice, vFieldAddr, vField, vIndexAddr, vIndex, vLookup, vAssert, vExtract, vCall, Option.some.injEq] at h; subst h; exact ok_move hρ (.inl ho)
  case assign x => simp only [aVal, vPick, vBuild, vLoad, vNil, vConv, vIface, vSlice, vFieldAddr, vField, vIndexAddr, vIndex, vLookup, vAssert, vExtract, vCall, Option.some.injEq] at h; subst h; exact ok_move hρ (.inr ho)
  case pick c a b =>
    simp only [aVal, vPick, vBuild, vLoad, vNil, vConv, vIface, vSlice, vFieldAddr, vField, vIndexAddr, vIndex, vLookup, vAssert, vExtract, vCall] at h
    split at h
    · rename_i t ht; cases h; exact ok_pick hρ ho ht
    · cases h
  case build t parts => exact ok_build hT hF hρ ho h
  case load t x => exact ok_load hT hρ ho hm h
  case nilCheck x => exact ok_nilCheck hρ ho hm h
  case binOp op t x y u => exact ok_binOp hT hρ ho hm h
  case unOp op t x => exact ok_unOp hρ ho h
  case convert s d x => exact ok_convert hT hρ ho h
  case makeInterface t x => exact ok_makeInterface hT hρ ho h
  case makeFunc fn first cap =>
    cases fn with
    | func g => simp only [aVal, vPick, vBuild, vLoad, vNil, vConv, vIface, vSlice, vFieldAddr, vField, vIndexAddr, vIndex, vLookup, vAssert, vExtract, vCall, Option.some.injEq] at h; subst h; exact ok_makeFunc hρ ho
    | _ => simp [aVal, vPick, vBuild, vLoad, vNil, vConv, vIface, vSlice, vFieldAddr, vField, vIndexAddr, vIndex, vLookup, vAssert, vExtract, vCall] at h
  case slice t x lo hi mx => exact ok_slice hT hρ ho hm h
  case fieldAddr t x i => exact ok_fieldAddr hT hρ ho hm h
  case field t x i => exact ok_field hT hρ ho h
  case indexAddr t x i => exact ok_indexAddr hT hρ ho hm h
  case index t x i => exact ok_index hT hρ ho h
  case lookup t x i ok => exact ok_lookup hT hρ ho hm h
  case typeAssert x s t ok =>
    cases ok with
    | true => exact ok_typeAssert hT hρ ho h
    | false => simp [aVal, vPick, vBuild, vLoad, vNil, vConv, vIface, vSlice, vFieldAddr, vField, vIndexAddr, vIndex, vLookup, vAssert, vExtract, vCall] at h
  case extract t i =>
    simp only [aVal, vPick, vBuild, vLoad, vNil, vConv, vIface, vSlice, vFieldAddr, vField, vIndexAddr, vIndex, vLookup, vAssert, vExtract, vCall] at h
    split at h
    · rename_i vs ht; exact ok_extract hρ ho ht h
    · cases h
  case call c => exact ok_call hT hρ ho hm h
  all_goals simp [aVal, vPick, vBuild, vLoad, vNil, vConv, vIface, vSlice, vFieldAddr, vField, vIndexAddr, vIndex, vLookup, vAssert, vExtract, vCall] at h
end
end Go.Sy
