/- What the abstract reckonings give, the machine's give. -/
import Derived.Test.YtapfloegpaadgaaGreatSyOps
set_option linter.unusedVariables false
set_option linter.unusedSimpArgs false
namespace Go.Sy

section inv
variable {X : Nat → Prop} {L : Loc} {w : World}
theorem VRel.iptr_inv {cs : List AV} {off : Nat} {x : Value} (h : VRel X L w (.iptr cs off) x) : ∃ (bl o : Nat) (xs : Nat → Value), x = .pointer (some ⟨bl, o + off, none⟩) ∧ ¬ Owned L bl ∧ ¬ X bl ∧ bl < w.heap.size ∧
    (∀ j v, cs[j]? = some v → w.cell? ⟨bl, o + j, none⟩ = some (xs j)) ∧ (∀ j v, cs[j]? = some v → VRel X L w v (xs j)) ∧ ∀ v ∈ cs, Free v := by
  cases h with
  | iptr xs h1 h2 h3 h4 h5 h6 => exact ⟨_, _, xs, rfl, h1, h2, h3, h4, h5, h6⟩
theorem VRel.fn_inv {g : Nat} {a b : List AV} {x : Value} (h : VRel X L w (.fn (.func g) a b) x) : ∃ fs cs : Array Value, x = .func (.func g) fs cs ∧ VRels X L w a fs.toList ∧ VRels X L w b cs.toList := by
  cases h with
  | fn h1 h2 h3 h4 => exact ⟨_, _, rfl, ⟨by simpa using h1, fun j v x hj hx => h3 j v x hj (by simpa using hx)⟩, ⟨by simpa using h2, fun j v x hj hx => h4 j v x hj (by simpa using hx)⟩⟩
theorem VRel.agg_inv {a : List AV} {x : Value} (h : VRel X L w (.agg a) x) : ∃ cs : Array Value, x = .agg cs ∧ VRels X L w a cs.toList := by
  cases h with
  | agg h1 h2 => exact ⟨_, rfl, by simpa using h1, fun j v x hj hx => h2 j v x hj (by simpa using hx)⟩
theorem VRel.tup_inv {a : List AV} {x : Value} (h : VRel X L w (.tup a) x) : ∃ cs : Array Value, x = .tuple cs ∧ VRels X L w a cs.toList := by
  cases h with
  | tup h1 h2 => exact ⟨_, rfl, by simpa using h1, fun j v x hj hx => h2 j v x hj (by simpa using hx)⟩
theorem VRel.agg_mk {a : List AV} {cs : Array Value} (h : VRels X L w a cs.toList) : VRel X L w (.agg a) (.agg cs) := .agg h.toArr.1 h.toArr.2
theorem VRel.tup_mk {a : List AV} {cs : Array Value} (h : VRels X L w a cs.toList) : VRel X L w (.tup a) (.tuple cs) := .tup h.toArr.1 h.toArr.2
theorem VRel.nilp_inv {x : Value} (h : VRel X L w .nilp x) : x = .pointer none := by cases h; rfl
theorem VRel.nils_inv {x : Value} (h : VRel X L w .nils x) : x = .slice none 0 0 := by cases h; rfl
theorem VRel.nilm_inv {x : Value} (h : VRel X L w .nilm x) : x = .map none := by cases h; rfl
theorem VRel.nilf_inv {x : Value} (h : VRel X L w .nilf x) : x = .nilFunc := by cases h; rfl
theorem VRel.nili_inv {x : Value} (h : VRel X L w .nili x) : x = .nilIface := by cases h; rfl
theorem VRel.iface_inv {t : Nat} {v : AV} {x : Value} (h : VRel X L w (.iface t v) x) : ∃ y, x = .iface t y ∧ VRel X L w v y := by cases h with | iface h => exact ⟨_, rfl, h⟩
end inv

section
variable {P : Program} {tb : Tab} {X : Nat → Prop} {L : Loc} {w : World} {st : St} {ρ : Operand → AV} {ρc : Operand → Value}

theorem live_of {l : Log} (hm : ∀ e ∈ l, MemAt X L w st e) {b n : Nat} (h : (b, live0, n) ∈ l) : ∃ c o cap sz, L b = .live c o cap sz := by
  obtain ⟨c, o, cap, sz, h1, _⟩ := hm _ h
  exact ⟨c, o, cap, sz, h1⟩

theorem ok_nilCheck (hρ : OpRel X L w ρ ρc) {o : Oper} {x : Operand} (ho : o.op = .nilCheck x) (hm : ∀ e ∈ headBlk (ρ x), MemAt X L w st e) {v : AV} (h : aVal tb st ρ (.nilCheck x) = some v) : Gives P X L w ρc o v := by
  have hx := hρ x
  simp only [aVal, vPick, vBuild, vLoad, vNil, vConv, vIface, vSlice, vFieldAddr, vField, vIndexAddr, vIndex, vLookup, vAssert, vExtract, vCall] at h
  split at h
  · rename_i b off hr
    cases h
    rw [hr] at hx hm
    obtain ⟨c, oo, cap, sz, hl⟩ := live_of hm (b := b) (n := 1) (by simp [headBlk])
    have e := hx.ptr_live hl
    exact ⟨_, by simp [execOp, ho, e], e ▸ hx⟩
  · rename_i cs off hr
    cases h
    rw [hr] at hx
    obtain ⟨bl, oo, xs, e, _⟩ := hx.iptr_inv
    exact ⟨_, by simp [execOp, ho, e], e ▸ hx⟩
  · rename_i g a b hr
    cases h
    rw [hr] at hx
    obtain ⟨fs, cs, e, _⟩ := hx.fn_inv
    exact ⟨_, by simp [execOp, ho, e], e ▸ hx⟩
  · cases h

theorem ok_unOp (hρ : OpRel X L w ρ ρc) {o : Oper} {op : UnOp} {t : Nat} {x : Operand} (ho : o.op = .unOp op t x) {v : AV} (h : aVal tb st ρ (.unOp op t x) = some v) : Gives P X L w ρc o v := by
  have hx := hρ x
  simp only [aVal, vPick, vBuild, vLoad, vNil, vConv, vIface, vSlice, vFieldAddr, vField, vIndexAddr, vIndex, vLookup, vAssert, vExtract, vCall, aUn] at h
  split at h
  · rename_i k n hr
    cases h
    rw [hr] at hx
    have e := hx.int_inv
    refine ⟨.int k (k.wrap (0 - n)), by simp [execOp, ho, e, Op.unary, Op.intArith], ?_⟩
    rw [wrapI_eq]; constructor
  · rename_i b hr
    cases h
    rw [hr] at hx
    have e := hx.bool_inv
    exact ⟨.bool !b, by simp [execOp, ho, e, Op.unary], by constructor⟩
  · cases h

theorem ok_convert (hT : TabOK P tb) (hρ : OpRel X L w ρ ρc) {o : Oper} {s d : Nat} {x : Operand} (ho : o.op = .convert s d x) {v : AV} (h : aVal tb st ρ (.convert s d x) = some v) : Gives P X L w ρc o v := by
  have hx := hρ x
  simp only [aVal, vPick, vBuild, vLoad, vNil, vConv, vIface, vSlice, vFieldAddr, vField, vIndexAddr, vIndex, vLookup, vAssert, vExtract, vCall] at h
  split at h
  · rename_i ds k k' n hds hu hr
    cases h
    rw [hr] at hx
    have e := hx.int_inv
    refine ⟨.int k (k.wrap n), ?_, by rw [wrapI_eq]; constructor⟩
    simp [execOp, ho, e, convert, hT.run_under hds, hT.run_under hu, Conv.intToInt]
  · cases h

theorem ok_makeInterface (hT : TabOK P tb) (hρ : OpRel X L w ρ ρc) {o : Oper} {t : Nat} {x : Operand} (ho : o.op = .makeInterface t x) {v : AV} (h : aVal tb st ρ (.makeInterface t x) = some v) : Gives P X L w ρc o v := by
  simp only [aVal, vPick, vBuild, vLoad, vNil, vConv, vIface, vSlice, vFieldAddr, vField, vIndexAddr, vIndex, vLookup, vAssert, vExtract, vCall] at h
  split at h
  · cases h
  · cases h
  · rename_i d h1 h2
    cases h
    cases hd : tb.under t with
    | none => exact absurd hd h2
    | some d =>
      refine ⟨.iface t (ρc x), ?_, .iface (hρ x)⟩
      have hr := hT.run_under hd w
      simp only [execOp, ho, Instr.makeInterface, Sem.run_bind, hr, Result.andThen_ok]
      cases d <;> first | rfl | exact absurd hd (h1 _)

theorem ok_index (hT : TabOK P tb) (hρ : OpRel X L w ρ ρc) {o : Oper} {t : Nat} {x ix : Operand} (ho : o.op = .index t x ix) {v : AV} (h : aVal tb st ρ (.index t x ix) = some v) : Gives P X L w ρc o v := by
  have hx := hρ x
  have hi := hρ ix
  simp only [aVal, vPick, vBuild, vLoad, vNil, vConv, vIface, vSlice, vFieldAddr, vField, vIndexAddr, vIndex, vLookup, vAssert, vExtract, vCall] at h
  split at h
  · rename_i s k i hu hr hri
    split at h
    · rename_i c hc
      cases h
      rw [hr] at hx
      rw [hri] at hi
      have e1 := hx.str_inv
      have e2 := hi.int_inv
      have hc' : s[i]? = some c := by
        obtain ⟨hl, hg⟩ := List.getElem?_eq_some_iff.1 hc
        have hl' : i < s.size := by simpa using hl
        rw [getElem?_pos s i hl']
        simp at hg
        exact congrArg some hg
      refine ⟨.int .u8 (c.toNat : Int), ?_, by constructor⟩
      simp [execOp, ho, e1, e2, Instr.index, asIntOf, hT.run_under hu, hc']
    · cases h
  · cases h

theorem ok_typeAssert (hT : TabOK P tb) (hρ : OpRel X L w ρ ρc) {o : Oper} {t s : Nat} {x : Operand} (ho : o.op = .typeAssert x s t true) {v : AV} (h : aVal tb st ρ (.typeAssert x s t true) = some v) : Gives P X L w ρc o v := by
  have hx := hρ x
  simp only [aVal, vPick, vBuild, vLoad, vNil, vConv, vIface, vSlice, vFieldAddr, vField, vIndexAddr, vIndex, vLookup, vAssert, vExtract, vCall] at h
  split at h
  · cases h
  · cases h
  · rename_i d hd hn
    have hr := hT.run_under hn w
    have hni : ∀ ms, d ≠ .interface ms := fun ms e => hd ms e
    split at h
    · rename_i hx0
      rw [hx0] at hx
      have e := hx.nili_inv
      split at h
      · rename_i z hz
        cases h
        obtain ⟨z', hz1, hz2⟩ := hT.run_zero hz w
        refine ⟨.tuple #[z', .bool false], ?_, ?_⟩
        · simp only [execOp, ho, Instr.typeAssert, Sem.run_bind, hr, Result.andThen_ok, e]
          cases d <;> first | exact absurd rfl (hni _) | simp [hz1]
        · exact VRel.tup_mk (by simpa using (VRels.one (VRel.bool false)).cons (hz2 ▸ VRel.const X L w z'))
      · cases h
    · rename_i u y hx0
      rw [hx0] at hx
      obtain ⟨y', e, hy⟩ := hx.iface_inv
      split at h
      · rename_i hut
        cases h
        subst hut
        refine ⟨.tuple #[y', .bool true], ?_, ?_⟩
        · simp only [execOp, ho, Instr.typeAssert, Sem.run_bind, hr, Result.andThen_ok, e]
          cases d <;> first | exact absurd rfl (hni _) | simp
        · exact VRel.tup_mk (by simpa using (VRels.one (VRel.bool true)).cons hy)
      · rename_i hut
        split at h
        · rename_i z hz
          cases h
          obtain ⟨z', hz1, hz2⟩ := hT.run_zero hz w
          refine ⟨.tuple #[z', .bool false], ?_, ?_⟩
          · simp only [execOp, ho, Instr.typeAssert, Sem.run_bind, hr, Result.andThen_ok, e]
            cases d <;> first | exact absurd rfl (hni _) | simp [hz1, hut]
          · exact VRel.tup_mk (by simpa using (VRels.one (VRel.bool false)).cons (hz2 ▸ VRel.const X L w z'))
        · cases h
    · cases h

theorem eqFlat_V {xs : List AV} {ys : List AV} {xs' ys' : List Value} {r : Bool} (hx : VRels X L w xs xs') (hy : VRels X L w ys ys') (h : eqFlat xs ys = some r) : eqFlatV xs' ys' = some r := by
  induction xs generalizing ys xs' ys' r with
  | nil =>
    cases ys with
    | nil =>
      have e1 : xs' = [] := by have := hx.1; simp at this; exact List.eq_nil_of_length_eq_zero this.symm
      have e2 : ys' = [] := by have := hy.1; simp at this; exact List.eq_nil_of_length_eq_zero this.symm
      subst e1; subst e2
      simpa [eqFlat, eqFlatV] using h
    | cons y ys => simp [eqFlat] at h
  | cons x xs ih =>
    cases ys with
    | nil => simp [eqFlat] at h
    | cons y ys =>
      obtain ⟨x', xs', rfl, h1, h2⟩ := hx.cons_inv
      obtain ⟨y', ys', rfl, k1, k2⟩ := hy.cons_inv
      unfold eqFlat at h
      split at h
      · rename_i e0 _; cases e0
      · rename_i a x2 b y2 e1 e2
        cases e1; cases e2
        have e1 := h1.int_inv
        have e2 := k1.int_inv
        subst e1; subst e2
        cases he : eqFlat xs ys with
        | none => rw [he] at h; simp at h
        | some r' => rw [he] at h; simp only [eqFlatV, ih h2 k2 he]; exact h
      · cases h

/-- what '==' and '!=' give -/
def eqRes (op : BinOp) (r : Bool) : Bool := match op with | .eql => r | _ => !r
theorem eq_fin {t : Nat} {x y : Operand} {a b : Value} {r : Bool} {op : BinOp} (hop : op = .eql ∨ op = .neq) (he : (Op.equal t a b).run P w = .ok r w) (hg : (eqGuard op t x y a b).run P w = .ok () w)
    (h1 : binOp .eql t a b = (do pure (.bool (← Op.equal t a b)))) (h2 : binOp .neq t a b = (do pure (.bool (!(← Op.equal t a b))))) :
    (do eqGuard op t x y a b; binOp op t a b).run P w = .ok (.bool (eqRes op r)) w := by
  rcases hop with rfl | rfl
  · simp only [Sem.run_bind, hg, Result.andThen_ok, h1, he]; rfl
  · simp only [Sem.run_bind, hg, Result.andThen_ok, h2, he]; rfl
theorem eq_run {t : Nat} {a b : Value} {r : Bool} (h : ∀ d, (Op.equalIn (d + 1) t a b).run P w = .ok r w) : (Op.equal t a b).run P w = .ok r w := h 9999
theorem ok_eqLeaf (hT : TabOK P tb) {t : Nat} {d : TypeDesc} (hd : tb.under t = some d) {x y : Operand} {a b : AV} {a' b' : Value} (ha : VRel X L w a a') (hb : VRel X L w b b')
    (hla : ∀ e ∈ headBlk a, MemAt X L w st e) (hlb : ∀ e ∈ headBlk b, MemAt X L w st e) {r : Bool} (h : eqLeaf d (isConst x || isConst y) a b = some r) (op : BinOp) (hop : op = .eql ∨ op = .neq) :
    (do eqGuard op t x y a' b'; binOp op t a' b').run P w = .ok (.bool (eqRes op r)) w := by
  have hr := hT.run_under hd w
  unfold eqLeaf at h
  split at h
  · cases h
    obtain rfl := ha.bool_inv
    obtain rfl := hb.bool_inv
    exact eq_fin hop (eq_run fun d => by simp [Op.equalIn, hr]) (by rcases hop with rfl | rfl <;> rfl) rfl rfl
  · cases h
    obtain rfl := ha.nilp_inv
    obtain rfl := hb.nilp_inv
    exact eq_fin hop (eq_run fun d => by simp [Op.equalIn, hr]) (by rcases hop with rfl | rfl <;> rfl) rfl rfl
  · cases h
    obtain rfl := ha.nilp_inv
    obtain ⟨c, o, cap, sz, hl⟩ := live_of hlb (by simp only [headBlk, List.mem_singleton]; rfl)
    obtain rfl := hb.ptr_live hl
    exact eq_fin hop (eq_run fun d => by simp [Op.equalIn, hr]) (by rcases hop with rfl | rfl <;> rfl) rfl rfl
  · cases h
    obtain rfl := hb.nilp_inv
    obtain ⟨c, o, cap, sz, hl⟩ := live_of hla (by simp only [headBlk, List.mem_singleton]; rfl)
    obtain rfl := ha.ptr_live hl
    exact eq_fin hop (eq_run fun d => by simp [Op.equalIn, hr]) (by rcases hop with rfl | rfl <;> rfl) rfl rfl
  · cases h
    obtain rfl := ha.nilp_inv
    obtain ⟨bl, oo, xs, rfl, _⟩ := hb.iptr_inv
    exact eq_fin hop (eq_run fun d => by simp [Op.equalIn, hr]) (by rcases hop with rfl | rfl <;> rfl) rfl rfl
  · cases h
    obtain rfl := hb.nilp_inv
    obtain ⟨bl, oo, xs, rfl, _⟩ := ha.iptr_inv
    exact eq_fin hop (eq_run fun d => by simp [Op.equalIn, hr]) (by rcases hop with rfl | rfl <;> rfl) rfl rfl
  · obtain rfl := ha.nili_inv
    obtain rfl := hb.nili_inv
    have hc : isConst x = true ∨ isConst y = true := by
      cases hx : isConst x <;> cases hy : isConst y <;> simp [hx, hy] at h ⊢
    have hr' : r = true := by
      cases hx : isConst x <;> cases hy : isConst y <;> simp [hx, hy] at h <;> simp [h]
    subst hr'
    have hg : (eqGuard op t x y .nilIface .nilIface).run P w = .ok () w := by
      unfold eqGuard
      rcases hc with hc | hc
      · cases x <;> simp [isConst] at hc
        rcases hop with rfl | rfl <;> simp
      · cases y <;> simp [isConst] at hc
        rcases hop with rfl | rfl <;> cases x <;> simp
    exact eq_fin hop (eq_run fun d => by simp [Op.equalIn, hr]) hg rfl rfl
  · cases h
    obtain rfl := ha.nili_inv
    obtain ⟨y', rfl, _⟩ := hb.iface_inv
    exact eq_fin hop (eq_run fun d => by simp [Op.equalIn, hr]) (by rcases hop with rfl | rfl <;> rfl) rfl rfl
  · cases h
    obtain rfl := hb.nili_inv
    obtain ⟨y', rfl, _⟩ := ha.iface_inv
    exact eq_fin hop (eq_run fun d => by simp [Op.equalIn, hr]) (by rcases hop with rfl | rfl <;> rfl) rfl rfl
  · cases h
    obtain rfl := ha.nilf_inv
    obtain rfl := hb.nilf_inv
    exact eq_fin hop (eq_run fun d => by simp [Op.equalIn, hr]) (by rcases hop with rfl | rfl <;> rfl) rfl rfl
  · cases h
    obtain rfl := ha.nilf_inv
    obtain ⟨fs, cs, rfl, _⟩ := hb.fn_inv
    exact eq_fin hop (eq_run fun d => by simp [Op.equalIn, hr]) (by rcases hop with rfl | rfl <;> rfl) rfl rfl
  · cases h
    obtain rfl := hb.nilf_inv
    obtain ⟨fs, cs, rfl, _⟩ := ha.fn_inv
    exact eq_fin hop (eq_run fun d => by simp [Op.equalIn, hr]) (by rcases hop with rfl | rfl <;> rfl) rfl rfl
  · cases h
    obtain rfl := ha.nils_inv
    obtain rfl := hb.nils_inv
    exact eq_fin hop (eq_run fun d => by simp [Op.equalIn, hr]) (by rcases hop with rfl | rfl <;> rfl) rfl rfl
  · cases h
    obtain rfl := hb.nils_inv
    obtain ⟨c, o, cap, sz, hl⟩ := live_of hla (by simp only [headBlk, List.mem_singleton]; rfl)
    rcases ha.sl_live hl with ⟨cap', rfl, _⟩ | ⟨_, q, rfl⟩
    · exact eq_fin hop (eq_run fun d => by simp [Op.equalIn, hr]) (by rcases hop with rfl | rfl <;> rfl) rfl rfl
    · exact eq_fin hop (eq_run fun d => by simp [Op.equalIn, hr]) (by rcases hop with rfl | rfl <;> rfl) rfl rfl
  · cases h
    obtain rfl := ha.nils_inv
    obtain ⟨c, o, cap, sz, hl⟩ := live_of hlb (by simp only [headBlk, List.mem_singleton]; rfl)
    rcases hb.sl_live hl with ⟨cap', rfl, _⟩ | ⟨_, q, rfl⟩
    · exact eq_fin hop (eq_run fun d => by simp [Op.equalIn, hr]) (by rcases hop with rfl | rfl <;> rfl) rfl rfl
    · exact eq_fin hop (eq_run fun d => by simp [Op.equalIn, hr]) (by rcases hop with rfl | rfl <;> rfl) rfl rfl
  · cases h
    obtain rfl := hb.nils_inv
    have : ∃ q n c, a' = .slice (some q) n c := by
      rename_i sz e es clip
      generalize hx : AV.imm sz (e :: es) clip = z at ha
      cases ha <;> simp only [reduceCtorEq, AV.imm.injEq, List.nil_eq, false_and, and_false] at hx <;> first | exact ⟨_, _, _, rfl⟩ | simp at hx
    obtain ⟨q, n, c, rfl⟩ := this
    exact eq_fin hop (eq_run fun d => by simp [Op.equalIn, hr]) (by rcases hop with rfl | rfl <;> rfl) rfl rfl
  · cases h
end
end Go.Sy
