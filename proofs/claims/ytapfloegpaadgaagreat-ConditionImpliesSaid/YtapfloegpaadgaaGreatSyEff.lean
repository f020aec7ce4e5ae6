import Derived.Test.YtapfloegpaadgaaGreatSyOps
import Derived.Laws.AppendOwn
import Derived.Laws.CopyRow
import Derived.Laws.Append
/- What the abstract reckonings give, the machine's give. -/
set_option linter.unusedVariables false
set_option linter.unusedSimpArgs false
namespace Go.Sy

section inv
variable {X : Nat → Prop} {L : Loc} {w : World}
theorem VRel.iptr_inv {cs : List AV} {off : Nat} {x : Value} (h : VRel X L w (.iptr cs off) x) : ∃ (bl o : Nat) (xs : Nat → Value), x = .pointer (some ⟨bl, o + off, none⟩) ∧ ¬ Owned L bl ∧ ¬ X bl ∧ bl < w.heap.size ∧
    (∀ j v, cs[j]? = some v → w.cell? ⟨bl, o + j, none⟩ = some (xs j)) ∧ (∀ j v, cs[j]? = some v → VRel X L w v (xs j)) ∧ ∀ v ∈ cs, Free v := by
  cases h with
  | iptr xs h1 h2 h3 h4 h5 h6 => exact ⟨_, _, xs, rfl, h1, h2, h3, h4, h5, h6⟩
theorem VRel.fn_inv {g : Nat} {a b : List AV} {x : Value} (h : VRel X L w (.fn (.func g) a b) x) : ∃ fs cs : Array Value, x = .func (.func g) fs cs ∧ VRels X L w a fs.toList ∧ VRels X L w b cs.toList := by
  cases h with
  | fn h1 h2 h3 h4 => exact ⟨_, _, rfl, ⟨by simpa using h1, fun j v x hj hx => h3 j v x hj (by simpa using hx)⟩, ⟨by simpa using h2, fun j v x hj hx => h4 j v x hj (by simpa using hx)⟩⟩
theorem VRel.agg_inv {a : List AV} {x : Value} (h : VRel X L w (.agg a) x) : ∃ cs : Array Value, x = .agg cs ∧ VRels X L w a cs.toList := by
  cases h with
  | agg h1 h2 => exact ⟨_, rfl, by simpa using h1, fun j v x hj hx => h2 j v x hj (by simpa using hx)⟩
theorem VRel.tup_inv {a : List AV} {x : Value} (h : VRel X L w (.tup a) x) : ∃ cs : Array Value, x = .tuple cs ∧ VRels X L w a cs.toList := by
  cases h with
  | tup h1 h2 => exact ⟨_, rfl, by simpa using h1, fun j v x hj hx => h2 j v x hj (by simpa using hx)⟩
theorem VRel.agg_mk {a : List AV} {cs : Array Value} (h : VRels X L w a cs.toList) : VRel X L w (.agg a) (.agg cs) := .agg h.toArr.1 h.toArr.2
theorem VRel.tup_mk {a : List AV} {cs : Array Value} (h : VRels X L w a cs.toList) : VRel X L w (.tup a) (.tuple cs) := .tup h.toArr.1 h.toArr.2
theorem VRel.nilp_inv {x : Value} (h : VRel X L w .nilp x) : x = .pointer none := by cases h; rfl
theorem VRel.nils_inv {x : Value} (h : VRel X L w .nils x) : x = .slice none 0 0 := by cases h; rfl
theorem VRel.nilm_inv {x : Value} (h : VRel X L w .nilm x) : x = .map none := by cases h; rfl
theorem VRel.nilf_inv {x : Value} (h : VRel X L w .nilf x) : x = .nilFunc := by cases h; rfl
theorem VRel.nili_inv {x : Value} (h : VRel X L w .nili x) : x = .nilIface := by cases h; rfl
theorem VRel.iface_inv {t : Nat} {v : AV} {x : Value} (h : VRel X L w (.iface t v) x) : ∃ y, x = .iface t y ∧ VRel X L w v y := by cases h with | iface h => exact ⟨_, rfl, h⟩
end inv

section
variable {P : Program} {tb : Tab} {X : Nat → Prop} {L : Loc} {w : World} {st : St} {ρ : Operand → AV} {ρc : Operand → Value}

theorem live_of {l : Log} (hm : ∀ e ∈ l, MemAt X L w st e) {b n : Nat} (h : (b, live0, n) ∈ l) : ∃ c o cap sz, L b = .live c o cap sz := by
  obtain ⟨c, o, cap, sz, h1, _⟩ := hm _ h
  exact ⟨c, o, cap, sz, h1⟩

theorem ok_nilCheck (hρ : OpRel X L w ρ ρc) {o : Oper} {x : Operand} (ho : o.op = .nilCheck x) (hm : ∀ e ∈ headBlk (ρ x), MemAt X L w st e) {v : AV} (h : aVal tb st ρ (.nilCheck x) = some v) : Gives P X L w ρc o v := by
  have hx := hρ x
  simp only [aVal, vPick, vBuild, vLoad, vNil, vConv, vIface, vSlice, vFieldAddr, vField, vIndexAddr, vIndex, vLookup, vAssert, vExtract, vCall] at h
  split at h
  · rename_i b off hr
    cases h
    rw [hr] at hx hm
    obtain ⟨c, oo, cap, sz, hl⟩ := live_of hm (b := b) (n := 1) (by simp [headBlk])
    have e := hx.ptr_live hl
    exact ⟨_, by simp [execOp, ho, e], e ▸ hx⟩
  · rename_i cs off hr
    cases h
    rw [hr] at hx
    obtain ⟨bl, oo, xs, e, _⟩ := hx.iptr_inv
    exact ⟨_, by simp [execOp, ho, e], e ▸ hx⟩
  · rename_i g a b hr
    cases h
    rw [hr] at hx
    obtain ⟨fs, cs, e, _⟩ := hx.fn_inv
    exact ⟨_, by simp [execOp, ho, e], e ▸ hx⟩
  · cases h

theorem ok_unOp (hρ : OpRel X L w ρ ρc) {o : Oper} {op : UnOp} {t : Nat} {x : Operand} (ho : o.op = .unOp op t x) {v : AV} (h : aVal tb st ρ (.unOp op t x) = some v) : Gives P X L w ρc o v := by
  have hx := hρ x
  simp only [aVal, vPick, vBuild, vLoad, vNil, vConv, vIface, vSlice, vFieldAddr, vField, vIndexAddr, vIndex, vLookup, vAssert, vExtract, vCall, aUn] at h
  split at h
  · rename_i k n hr
    cases h
    rw [hr] at hx
    have e := hx.int_inv
    refine ⟨.int k (k.wrap (0 - n)), by simp [execOp, ho, e, Op.unary, Op.intArith], ?_⟩
    rw [wrapI_eq]; constructor
  · rename_i b hr
    cases h
    rw [hr] at hx
    have e := hx.bool_inv
    exact ⟨.bool !b, by simp [execOp, ho, e, Op.unary], by constructor⟩
  · cases h

theorem ok_convert (hT : TabOK P tb) (hρ : OpRel X L w ρ ρc) {o : Oper} {s d : Nat} {x : Operand} (ho : o.op = .convert s d x) {v : AV} (h : aVal tb st ρ (.convert s d x) = some v) : Gives P X L w ρc o v := by
  have hx := hρ x
  simp only [aVal, vPick, vBuild, vLoad, vNil, vConv, vIface, vSlice, vFieldAddr, vField, vIndexAddr, vIndex, vLookup, vAssert, vExtract, vCall] at h
  split at h
  · rename_i ds k k' n hds hu hr
    cases h
    rw [hr] at hx
    have e := hx.int_inv
    refine ⟨.int k (k.wrap n), ?_, by rw [wrapI_eq]; constructor⟩
    simp [execOp, ho, e, convert, hT.run_under hds, hT.run_under hu, Conv.intToInt]
  · cases h

theorem ok_makeInterface (hT : TabOK P tb) (hρ : OpRel X L w ρ ρc) {o : Oper} {t : Nat} {x : Operand} (ho : o.op = .makeInterface t x) {v : AV} (h : aVal tb st ρ (.makeInterface t x) = some v) : Gives P X L w ρc o v := by
  simp only [aVal, vPick, vBuild, vLoad, vNil, vConv, vIface, vSlice, vFieldAddr, vField, vIndexAddr, vIndex, vLookup, vAssert, vExtract, vCall] at h
  split at h
  · cases h
  · cases h
  · rename_i d h1 h2
    cases h
    cases hd : tb.under t with
    | none => exact absurd hd h2
    | some d =>
      refine ⟨.iface t (ρc x), ?_, .iface (hρ x)⟩
      have hr := hT.run_under hd w
      simp only [execOp, ho, Instr.makeInterface, Sem.run_bind, hr, Result.andThen_ok]
      cases d <;> first | rfl | exact absurd hd (h1 _)

theorem ok_index (hT : TabOK P tb) (hρ : OpRel X L w ρ ρc) {o : Oper} {t : Nat} {x ix : Operand} (ho : o.op = .index t x ix) {v : AV} (h : aVal tb st ρ (.index t x ix) = some v) : Gives P X L w ρc o v := by
  have hx := hρ x
  have hi := hρ ix
  simp only [aVal, vPick, vBuild, vLoad, vNil, vConv, vIface, vSlice, vFieldAddr, vField, vIndexAddr, vIndex, vLookup, vAssert, vExtract, vCall] at h
  split at h
  · rename_i s k i hu hr hri
    split at h
    · rename_i c hc
      cases h
      rw [hr] at hx
      rw [hri] at hi
      have e1 := hx.str_inv
      have e2 := hi.int_inv
      have hc' : s[i]? = some c := by
        obtain ⟨hl, hg⟩ := List.getElem?_eq_some_iff.1 hc
        have hl' : i < s.size := by simpa using hl
        rw [getElem?_pos s i hl']
        simp at hg
        exact congrArg some hg
      refine ⟨.int .u8 (c.toNat : Int), ?_, by constructor⟩
      simp [execOp, ho, e1, e2, Instr.index, asIntOf, hT.run_under hu, hc']
    · cases h
  · cases h

theorem ok_typeAssert (hT : TabOK P tb) (hρ : OpRel X L w ρ ρc) {o : Oper} {t s : Nat} {x : Operand} (ho : o.op = .typeAssert x s t true) {v : AV} (h : aVal tb st ρ (.typeAssert x s t true) = some v) : Gives P X L w ρc o v := by
  have hx := hρ x
  simp only [aVal, vPick, vBuild, vLoad, vNil, vConv, vIface, vSlice, vFieldAddr, vField, vIndexAddr, vIndex, vLookup, vAssert, vExtract, vCall] at h
  split at h
  · cases h
  · cases h
  · rename_i d hd hn
    have hr := hT.run_under hn w
    have hni : ∀ ms, d ≠ .interface ms := fun ms e => hd ms e
    split at h
    · rename_i hx0
      rw [hx0] at hx
      have e := hx.nili_inv
      split at h
      · rename_i z hz
        cases h
        obtain ⟨z', hz1, hz2⟩ := hT.run_zero hz w
        refine ⟨.tuple #[z', .bool false], ?_, ?_⟩
        · simp only [execOp, ho, Instr.typeAssert, Sem.run_bind, hr, Result.andThen_ok, e]
          cases d <;> first | exact absurd rfl (hni _) | simp [hz1]
        · exact VRel.tup_mk (by simpa using (VRels.one (VRel.bool false)).cons (hz2 ▸ VRel.const X L w z'))
      · cases h
    · rename_i u y hx0
      rw [hx0] at hx
      obtain ⟨y', e, hy⟩ := hx.iface_inv
      split at h
      · rename_i hut
        cases h
        subst hut
        refine ⟨.tuple #[y', .bool true], ?_, ?_⟩
        · simp only [execOp, ho, Instr.typeAssert, Sem.run_bind, hr, Result.andThen_ok, e]
          cases d <;> first | exact absurd rfl (hni _) | simp
        · exact VRel.tup_mk (by simpa using (VRels.one (VRel.bool true)).cons hy)
      · rename_i hut
        split at h
        · rename_i z hz
          cases h
          obtain ⟨z', hz1, hz2⟩ := hT.run_zero hz w
          refine ⟨.tuple #[z', .bool false], ?_, ?_⟩
          · simp only [execOp, ho, Instr.typeAssert, Sem.run_bind, hr, Result.andThen_ok, e]
            cases d <;> first | exact absurd rfl (hni _) | simp [hz1, hut]
          · exact VRel.tup_mk (by simpa using (VRels.one (VRel.bool false)).cons (hz2 ▸ VRel.const X L w z'))
        · cases h
    · cases h

theorem eqFlat_V {xs : List AV} {ys : List AV} {xs' ys' : List Value} {r : Bool} (hx : VRels X L w xs xs') (hy : VRels X L w ys ys') (h : eqFlat xs ys = some r) : eqFlatV xs' ys' = some r := by
  induction xs generalizing ys xs' ys' r with
  | nil =>
    cases ys with
    | nil =>
      have e1 : xs' = [] := by have := hx.1; simp at this; exact List.eq_nil_of_length_eq_zero this.symm
      have e2 : ys' = [] := by have := hy.1; simp at this; exact List.eq_nil_of_length_eq_zero this.symm
      subst e1; subst e2
      simpa [eqFlat, eqFlatV] using h
    | cons y ys => simp [eqFlat] at h
  | cons x xs ih =>
    cases ys with
    | nil => simp [eqFlat] at h
    | cons y ys =>
      obtain ⟨x', xs', rfl, h1, h2⟩ := hx.cons_inv
      obtain ⟨y', ys', rfl, k1, k2⟩ := hy.cons_inv
      unfold eqFlat at h
      split at h
      · rename_i e0 _; cases e0
      · rename_i a x2 b y2 e1 e2
        cases e1; cases e2
        have e1 := h1.int_inv
        have e2 := k1.int_inv
        subst e1; subst e2
        cases he : eqFlat xs ys with
        | none => rw [he] at h; simp at h
        | some r' => rw [he] at h; simp only [eqFlatV, ih h2 k2 he]; exact h
      · cases h

/-- what '==' and '!=' give -/
def eqRes (op : BinOp) (r : Bool) : Bool := match op with | .eql => r | _ => !r
theorem eq_fin {t : Nat} {x y : Operand} {a b : Value} {r : Bool} {op : BinOp} (hop : op = .eql ∨ op = .neq) (he : (Op.equal t a b).run P w = .ok r w) (hg : (eqGuard op t x y a b).run P w = .ok () w)
    (h1 : binOp .eql t a b = (do pure (.bool (← Op.equal t a b)))) (h2 : binOp .neq t a b = (do pure (.bool (!(← Op.equal t a b))))) :
    (do eqGuard op t x y a b; binOp op t a b).run P w = .ok (.bool (eqRes op r)) w := by
  rcases hop with rfl | rfl
  · simp only [Sem.run_bind, hg, Result.andThen_ok, h1, he]; rfl
  · simp only [Sem.run_bind, hg, Result.andThen_ok, h2, he]; rfl
theorem eq_run {t : Nat} {a b : Value} {r : Bool} (h : ∀ d, (Op.equalIn (d + 1) t a b).run P w = .ok r w) : (Op.equal t a b).run P w = .ok r w := h 9999
theorem ok_eqLeaf (hT : TabOK P tb) {t : Nat} {d : TypeDesc} (hd : tb.under t = some d) {x y : Operand} {a b : AV} {a' b' : Value} (ha : VRel X L w a a') (hb : VRel X L w b b')
    (hla : ∀ e ∈ headBlk a, MemAt X L w st e) (hlb : ∀ e ∈ headBlk b, MemAt X L w st e) {r : Bool} (h : eqLeaf d (isConst x || isConst y) a b = some r) (op : BinOp) (hop : op = .eql ∨ op = .neq) :
    (do eqGuard op t x y a' b'; binOp op t a' b').run P w = .ok (.bool (eqRes op r)) w := by
  have hr := hT.run_under hd w
  unfold eqLeaf at h
  split at h
  · cases h
    obtain rfl := ha.bool_inv
    obtain rfl := hb.bool_inv
    exact eq_fin hop (eq_run fun d => by simp [Op.equalIn, hr]) (by rcases hop with rfl | rfl <;> rfl) rfl rfl
  · cases h
    obtain rfl := ha.nilp_inv
    obtain rfl := hb.nilp_inv
    exact eq_fin hop (eq_run fun d => by simp [Op.equalIn, hr]) (by rcases hop with rfl | rfl <;> rfl) rfl rfl
  · cases h
    obtain rfl := ha.nilp_inv
    obtain ⟨c, o, cap, sz, hl⟩ := live_of hlb (by simp only [headBlk, List.mem_singleton]; rfl)
    obtain rfl := hb.ptr_live hl
    exact eq_fin hop (eq_run fun d => by simp [Op.equalIn, hr]) (by rcases hop with rfl | rfl <;> rfl) rfl rfl
  · cases h
    obtain rfl := hb.nilp_inv
    obtain ⟨c, o, cap, sz, hl⟩ := live_of hla (by simp only [headBlk, List.mem_singleton]; rfl)
    obtain rfl := ha.ptr_live hl
    exact eq_fin hop (eq_run fun d => by simp [Op.equalIn, hr]) (by rcases hop with rfl | rfl <;> rfl) rfl rfl
  · cases h
    obtain rfl := ha.nilp_inv
    obtain ⟨bl, oo, xs, rfl, _⟩ := hb.iptr_inv
    exact eq_fin hop (eq_run fun d => by simp [Op.equalIn, hr]) (by rcases hop with rfl | rfl <;> rfl) rfl rfl
  · cases h
    obtain rfl := hb.nilp_inv
    obtain ⟨bl, oo, xs, rfl, _⟩ := ha.iptr_inv
    exact eq_fin hop (eq_run fun d => by simp [Op.equalIn, hr]) (by rcases hop with rfl | rfl <;> rfl) rfl rfl
  · obtain rfl := ha.nili_inv
    obtain rfl := hb.nili_inv
    have hc : isConst x = true ∨ isConst y = true := by
      cases hx : isConst x <;> cases hy : isConst y <;> simp [hx, hy] at h ⊢
    have hr' : r = true := by
      cases hx : isConst x <;> cases hy : isConst y <;> simp [hx, hy] at h <;> simp [h]
    subst hr'
    have hg : (eqGuard op t x y .nilIface .nilIface).run P w = .ok () w := by
      unfold eqGuard
      rcases hc with hc | hc
      · cases x <;> simp [isConst] at hc
        rcases hop with rfl | rfl <;> simp
      · cases y <;> simp [isConst] at hc
        rcases hop with rfl | rfl <;> cases x <;> simp
    exact eq_fin hop (eq_run fun d => by simp [Op.equalIn, hr]) hg rfl rfl
  · cases h
    obtain rfl := ha.nili_inv
    obtain ⟨y', rfl, _⟩ := hb.iface_inv
    exact eq_fin hop (eq_run fun d => by simp [Op.equalIn, hr]) (by rcases hop with rfl | rfl <;> rfl) rfl rfl
  · cases h
    obtain rfl := hb.nili_inv
    obtain ⟨y', rfl, _⟩ := ha.iface_inv
    exact eq_fin hop (eq_run fun d => by simp [Op.equalIn, hr]) (by rcases hop with rfl | rfl <;> rfl) rfl rfl
  · cases h
    obtain rfl := ha.nilf_inv
    obtain rfl := hb.nilf_inv
    exact eq_fin hop (eq_run fun d => by simp [Op.equalIn, hr]) (by rcases hop with rfl | rfl <;> rfl) rfl rfl
  · cases h
    obtain rfl := ha.nilf_inv
    obtain ⟨fs, cs, rfl, _⟩ := hb.fn_inv
    exact eq_fin hop (eq_run fun d => by simp [Op.equalIn, hr]) (by rcases hop with rfl | rfl <;> rfl) rfl rfl
  · cases h
    obtain rfl := hb.nilf_inv
    obtain ⟨fs, cs, rfl, _⟩ := ha.fn_inv
    exact eq_fin hop (eq_run fun d => by simp [Op.equalIn, hr]) (by rcases hop with rfl | rfl <;> rfl) rfl rfl
  · cases h
    obtain rfl := ha.nils_inv
    obtain rfl := hb.nils_inv
    exact eq_fin hop (eq_run fun d => by simp [Op.equalIn, hr]) (by rcases hop with rfl | rfl <;> rfl) rfl rfl
  · cases h
    obtain rfl := hb.nils_inv
    obtain ⟨c, o, cap, sz, hl⟩ := live_of hla (by simp only [headBlk, List.mem_singleton]; rfl)
    rcases ha.sl_live hl with ⟨cap', rfl, _⟩ | ⟨_, q, rfl⟩
    · exact eq_fin hop (eq_run fun d => by simp [Op.equalIn, hr]) (by rcases hop with rfl | rfl <;> rfl) rfl rfl
    · exact eq_fin hop (eq_run fun d => by simp [Op.equalIn, hr]) (by rcases hop with rfl | rfl <;> rfl) rfl rfl
  · cases h
    obtain rfl := ha.nils_inv
    obtain ⟨c, o, cap, sz, hl⟩ := live_of hlb (by simp only [headBlk, List.mem_singleton]; rfl)
    rcases hb.sl_live hl with ⟨cap', rfl, _⟩ | ⟨_, q, rfl⟩
    · exact eq_fin hop (eq_run fun d => by simp [Op.equalIn, hr]) (by rcases hop with rfl | rfl <;> rfl) rfl rfl
    · exact eq_fin hop (eq_run fun d => by simp [Op.equalIn, hr]) (by rcases hop with rfl | rfl <;> rfl) rfl rfl
  · cases h
    obtain rfl := hb.nils_inv
    have : ∃ q n c, a' = .slice (some q) n c := by
      rename_i sz e es clip
      generalize hx : AV.imm sz (e :: es) clip = z at ha
      cases ha <;> simp only [reduceCtorEq, AV.imm.injEq, List.nil_eq, false_and, and_false] at hx <;> first | exact ⟨_, _, _, rfl⟩ | simp at hx
    obtain ⟨q, n, c, rfl⟩ := this
    exact eq_fin hop (eq_run fun d => by simp [Op.equalIn, hr]) (by rcases hop with rfl | rfl <;> rfl) rfl rfl
  · cases h
end
end Go.Sy

/- What the abstract reckonings give, the machine's give: the rest. -/
set_option linter.unusedVariables false
set_option linter.unusedSimpArgs false
namespace Go.Sy

section
variable {P : Program} {tb : Tab} {X : Nat → Prop} {L : Loc} {w : World} {st : St} {ρ : Operand → AV} {ρc : Operand → Value}

theorem guard_int (op : BinOp) (t : Nat) (x y : Operand) (j k : IntKind) (a b : Int) : (eqGuard op t x y (.int j a) (.int k b)).run P w = .ok () w := by
  unfold eqGuard; cases op <;> rfl

theorem ok_binOp (hT : TabOK P tb) (hρ : OpRel X L w ρ ρc) {o : Oper} {op : BinOp} {t u : Nat} {x y : Operand} (ho : o.op = .binOp op t x y u) (hm : ∀ e ∈ headBlk (ρ x) ++ headBlk (ρ y), MemAt X L w st e)
    {v : AV} (h : aVal tb st ρ (.binOp op t x y u) = some v) : Gives P X L w ρc o v := by
  have hx := hρ x
  have hy := hρ y
  have hm1 : ∀ e ∈ headBlk (ρ x), MemAt X L w st e := fun e he => hm e (List.mem_append_left _ he)
  have hm2 : ∀ e ∈ headBlk (ρ y), MemAt X L w st e := fun e he => hm e (List.mem_append_right _ he)
  have fin : ∀ z, (do eqGuard op t x y (ρc x) (ρc y); binOp op t (ρc x) (ρc y)).run P w = .ok z w → VRel X L w v z → Gives P X L w ρc o v := by
    intro z h1 h2
    refine ⟨z, ?_, h2⟩
    simp only [execOp, ho]
    simp only [Sem.run_bind] at h1 ⊢
    rw [h1]; rfl
  simp only [aVal, vPick, vBuild, vLoad, vNil, vConv, vIface, vSlice, vFieldAddr, vField, vIndexAddr, vIndex, vLookup, vAssert, vExtract, vCall] at h
  generalize hax : ρ x = a at *
  generalize hay : ρ y = b at *
  unfold aBin at h
  split at h
  · rename_i k a' j b'
    obtain ⟨z, h1, h2⟩ := run_shiftI (P := P) (j := j) h t X L w
    refine fin z ?_ h2
    rw [hx.int_inv, hy.int_inv]
    simp only [Sem.run_bind, guard_int, Result.andThen_ok, h1]
  · rename_i k a' j b'
    obtain ⟨z, h1, h2⟩ := run_shiftI (P := P) (j := j) h t X L w
    refine fin z ?_ h2
    rw [hx.int_inv, hy.int_inv]
    simp only [Sem.run_bind, guard_int, Result.andThen_ok, h1]
  · rename_i k a' j b' hn1 hn2
    split at h
    · rename_i hjk
      subst hjk
      obtain ⟨z, h1, h2⟩ := run_binI (P := P) h ⟨fun e => hn1 e, fun e => hn2 e⟩ t X L w
      refine fin z ?_ h2
      rw [hx.int_inv, hy.int_inv]
      simp only [Sem.run_bind, guard_int, Result.andThen_ok, h1]
    · cases h
  · cases h
    rename_i s1 s2
    refine fin (.bool (s1.toList == s2.toList)) ?_ (.bool _)
    rw [hx.str_inv, hy.str_inv]
    simp [eqGuard, binOp, Op.stringOp]
  · cases h
    rename_i s1 s2
    refine fin (.bool !(s1.toList == s2.toList)) ?_ (.bool _)
    rw [hx.str_inv, hy.str_inv]
    simp [eqGuard, binOp, Op.stringOp]
  · rename_i xs ys
    rw [Bool.cond_eq_ite] at h
    split at h
    · rename_i hq
      obtain ⟨xs', e1, h1⟩ := hx.agg_inv
      obtain ⟨ys', e2, h2⟩ := hy.agg_inv
      cases he : eqFlat xs ys with
      | none => rw [he] at h; simp at h
      | some r =>
        rw [he] at h
        simp at h
        subst h
        obtain ⟨g1, g2⟩ := hT.eqAt hq xs' ys' r w (by have := h1.1; simpa using this.symm) (eqFlat_V h1 h2 he)
        refine fin (.bool r) ?_ (.bool _)
        rw [e1, e2]
        have g1' : (eqGuard .eql t x y (.agg xs') (.agg ys')).run P w = .ok () w := g1
        exact eq_fin (op := .eql) (.inl rfl) g2 g1' rfl rfl
    · cases h
  · rename_i xs ys
    rw [Bool.cond_eq_ite] at h
    split at h
    · rename_i hq
      obtain ⟨xs', e1, h1⟩ := hx.agg_inv
      obtain ⟨ys', e2, h2⟩ := hy.agg_inv
      cases he : eqFlat xs ys with
      | none => rw [he] at h; simp at h
      | some r =>
        rw [he] at h
        simp at h
        subst h
        obtain ⟨g1, g2⟩ := hT.eqAt hq xs' ys' r w (by have := h1.1; simpa using this.symm) (eqFlat_V h1 h2 he)
        refine fin (.bool (!r)) ?_ (.bool _)
        rw [e1, e2]
        have g1' : (eqGuard .neq t x y (.agg xs') (.agg ys')).run P w = .ok () w := g1
        exact eq_fin (op := .neq) (.inr rfl) g2 g1' rfl rfl
    · cases h
  · split at h
    · rename_i d hd
      cases he : eqLeaf d (isConst x || isConst y) a b with
      | none => rw [he] at h; simp at h
      | some r =>
        rw [he] at h
        simp at h
        subst h
        exact fin _ (ok_eqLeaf hT hd hx hy hm1 hm2 he .eql (.inl rfl)) (.bool _)
    · cases h
  · split at h
    · rename_i d hd
      cases he : eqLeaf d (isConst x || isConst y) a b with
      | none => rw [he] at h; simp at h
      | some r =>
        rw [he] at h
        simp at h
        subst h
        exact fin _ (ok_eqLeaf hT hd hx hy hm1 hm2 he .neq (.inr rfl)) (.bool _)
    · cases h
  · cases h

theorem aggSize_some (hT : TabOK P tb) {t : Nat} {a : Bool} {n : Nat} (h : tb.aggSize t = some (a, n)) (w : World) : (isAgg t).run P w = .ok a w ∧ (sizeOf t).run P w = .ok n w ∧ 0 < n := by
  unfold Tab.aggSize at h
  split at h
  · rename_i d m hd hm
    cases h
    exact ⟨hT.run_isAgg hd w, hT.run_size hm w, by omega⟩
  · cases h

/-- reading a variable whose cells are there -/
theorem run_loadAt (hT : TabOK P tb) {t : Nat} {agg : Bool} {n : Nat} (ht : tb.aggSize t = some (agg, n)) {c o off : Nat} {cs : List AV} {v : AV} (h : loadC cs agg n off = some v)
    (hc : ∀ j u, off ≤ j → j < off + n → cs[j]? = some u → ∃ x, w.cell? ⟨c, o + j, none⟩ = some x ∧ VRel X L w u x) :
    ∃ x, (Instr.loadAt t (.pointer (some ⟨c, o + off, none⟩))).run P w = .ok x w ∧ VRel X L w v x := by
  obtain ⟨h1, h2, h3⟩ := aggSize_some hT ht w
  unfold loadC at h
  cases agg with
  | false =>
    simp only [cond_false] at h
    obtain ⟨x, hx1, hx2⟩ := hc off v (Nat.le_refl _) (by omega) h
    refine ⟨x, ?_, hx2⟩
    simp [Instr.loadAt, Instr.sureAddr, loadVar, h1, hx1]
  | true =>
    simp only [cond_true] at h
    split at h
    · rename_i hle
      cases h
      have hex : ∀ j, j < n → ∃ x, w.cell? ⟨c, o + off + j, none⟩ = some x ∧ ∀ u, cs[off + j]? = some u → VRel X L w u x := by
        intro j hj
        obtain ⟨x, hx1, hx2⟩ := hc (off + j) cs[off + j] (by omega) (by omega) (List.getElem?_eq_getElem (by omega))
        refine ⟨x, by rw [Nat.add_assoc]; exact hx1, fun u hu => ?_⟩
        rw [List.getElem?_eq_getElem (by omega)] at hu
        cases hu
        exact hx2
      have hf : ∃ f : Nat → Value, ∀ j, j < n → w.cell? ⟨c, o + off + j, none⟩ = some (f j) ∧ ∀ u, cs[off + j]? = some u → VRel X L w u (f j) :=
        ⟨fun j => if h : j < n then (hex j h).choose else undef, fun j hj => by simp only [hj, dif_pos]; exact (hex j hj).choose_spec⟩
      obtain ⟨f, hf⟩ := hf
      refine ⟨.agg ((List.range n).map f).toArray, ?_, ?_⟩
      · have := run_loadCells (P := P) w ⟨c, o + off, none⟩ n f (fun j hj => by rw [add_none]; exact (hf j hj).1)
        simp [Instr.loadAt, Instr.sureAddr, loadVar, h1, h2, this]
      · refine VRel.agg_mk ⟨?_, fun j u x hj hx => ?_⟩
        · simp; omega
        · simp only [List.getElem?_map, Option.map_eq_some_iff] at hx
          obtain ⟨i, hi, rfl⟩ := hx
          obtain ⟨hl, hi2⟩ := List.getElem?_eq_some_iff.1 hi
          simp at hl hi2
          subst hi2
          rw [List.getElem?_take, if_pos hl, List.getElem?_drop] at hj
          exact (hf j hl).2 u hj
    · cases h

theorem ok_load (hT : TabOK P tb) (hρ : OpRel X L w ρ ρc) {o : Oper} {t : Nat} {x : Operand} (ho : o.op = .load t x) (hm : ∀ e ∈ touches tb ρ (.load t x), MemAt X L w st e) {v : AV} (h : aVal tb st ρ (.load t x) = some v) : Gives P X L w ρc o v := by
  have hx := hρ x
  simp only [aVal, vPick, vBuild, vLoad, vNil, vConv, vIface, vSlice, vFieldAddr, vField, vIndexAddr, vIndex, vLookup, vAssert, vExtract, vCall] at h
  split at h
  · rename_i agg size hs
    have hsz : tb.size t = some size := by
      unfold Tab.aggSize at hs
      split at hs
      · rename_i hd hz; cases hs; exact hz
      · cases hs
    split at h
    · rename_i b off hr
      split at h
      · rename_i cs hb
        rw [hr] at hx
        simp only [touches, tLoad, tMap, hr, hsz] at hm
        obtain ⟨c, oo, cap, sz, hl⟩ := live_of hm (b := b) (n := 1) (by simp)
        have e := hx.ptr_live hl
        obtain ⟨c', o', cap', sz', hl', hmem⟩ := hm (b, off, size) (by simp)
        rw [hl] at hl'
        cases hl'
        simp only [hb] at hmem
        obtain ⟨arr, ty, hc1, hc2⟩ := hmem
        obtain ⟨y, hy1, hy2⟩ := run_loadAt (w := w) (X := X) (L := L) hT hs (c := c) (o := oo) h (fun j u h1 h2 hu => by
          obtain ⟨z, hz1, hz2⟩ := hc2 j u h1 h2 hu
          exact ⟨z, by simp [World.cell?, hc1, hz1], hz2⟩)
        exact ⟨y, by simp [execOp, ho, e, hy1], hy2⟩
      · cases h
    · rename_i cs off hr
      rw [hr] at hx
      obtain ⟨bl, oo, xs, e, h1, h2, h3, h4, h5, h6⟩ := hx.iptr_inv
      obtain ⟨y, hy1, hy2⟩ := run_loadAt (w := w) (X := X) (L := L) hT hs (c := bl) (o := oo) h (fun j u _ _ hu => ⟨_, h4 j u hu, h5 j u hu⟩)
      exact ⟨y, by simp [execOp, ho, e, hy1], hy2⟩
    · cases h
  · cases h

theorem ok_field (hT : TabOK P tb) (hρ : OpRel X L w ρ ρc) {o : Oper} {t i : Nat} {x : Operand} (ho : o.op = .field t x i) {v : AV} (h : aVal tb st ρ (.field t x i) = some v) : Gives P X L w ρc o v := by
  have hx := hρ x
  simp only [aVal, vPick, vBuild, vLoad, vNil, vConv, vIface, vSlice, vFieldAddr, vField, vIndexAddr, vIndex, vLookup, vAssert, vExtract, vCall] at h
  split at h
  · rename_i fs cs hu hr
    rw [hr] at hx
    obtain ⟨xs, e, hxs⟩ := hx.agg_inv
    split at h
    · rename_i f hf
      split at h
      · rename_i agg size hs
        obtain ⟨h1, h2, h3⟩ := aggSize_some hT hs w
        have hf' : fs[i]? = some f := by rw [← Array.getElem?_toList]; exact hf
        have base : ∀ y, (part f.type xs f.offset).run P w = .ok y w → VRel X L w v y → Gives P X L w ρc o v := by
          intro y hy1 hy2
          refine ⟨y, ?_, hy2⟩
          simp [execOp, ho, e, Instr.field, hT.run_under hu, hf', asAgg, hy1]
        unfold loadC at h
        cases agg with
        | true =>
          simp only [cond_true] at h
          split at h
          · cases h
            refine base (.agg (xs.extract f.offset (f.offset + size))) (by simp [part, h1, h2]) (VRel.agg_mk ?_)
            have := (hxs.drop f.offset).take size
            simpa [Array.toList_extract, List.extract] using this
          · cases h
        | false =>
          simp only [cond_false] at h
          obtain ⟨y, hy1, hy2⟩ := hxs.get h
          have hy1' : xs[f.offset]? = some y := by rw [← Array.getElem?_toList]; exact hy1
          exact base y (by simp [part, h1, hy1']) hy2
      · cases h
    · cases h
  · cases h

theorem ok_fieldAddr (hT : TabOK P tb) (hρ : OpRel X L w ρ ρc) {o : Oper} {t i : Nat} {x : Operand} (ho : o.op = .fieldAddr t x i) (hm : ∀ e ∈ headBlk (ρ x), MemAt X L w st e) {v : AV} (h : aVal tb st ρ (.fieldAddr t x i) = some v) : Gives P X L w ρc o v := by
  have hx := hρ x
  simp only [aVal, vPick, vBuild, vLoad, vNil, vConv, vIface, vSlice, vFieldAddr, vField, vIndexAddr, vIndex, vLookup, vAssert, vExtract, vCall] at h
  split at h
  · rename_i fs hu
    split at h
    · rename_i f hf
      have hf' : fs[i]? = some f := by rw [← Array.getElem?_toList]; exact hf
      split at h
      · rename_i n hn
        have hsz := hT.run_size hn w
        have base : ∀ c oo, ρc x = .pointer (some ⟨c, oo, none⟩) → (execOp ρc o).run P w = .ok (.value (.pointer (some ⟨c, oo + f.offset, none⟩))) w := by
          intro c oo e
          simp [execOp, ho, e, Instr.fieldAt, hT.run_under hu, hf', Instr.sureAddr, fieldPlace, hsz, add_none]
        split at h
        · rename_i b off hr
          cases h
          rw [hr] at hx hm
          obtain ⟨c, oo, cap, sz, hl⟩ := live_of hm (b := b) (n := 1) (by simp [headBlk])
          have e := hx.ptr_live hl
          exact ⟨_, base _ _ e, by rw [Nat.add_assoc]; exact .ptr hl⟩
        · rename_i cs off hr
          cases h
          rw [hr] at hx
          obtain ⟨bl, oo, xs, e, h1, h2, h3, h4, h5, h6⟩ := hx.iptr_inv
          exact ⟨_, base _ _ e, by rw [Nat.add_assoc]; exact .iptr xs h1 h2 h3 h4 h5 h6⟩
        · cases h
      · cases h
    · cases h
  · cases h

theorem flat_get {es : List AV} {sz i : Nat} {v : AV} (hsz : ∀ e ∈ es, e.cells.length = sz) (hv : es[i]? = some v) {j : Nat} {u : AV} (hj : v.cells[j]? = some u) : (es.flatMap AV.cells)[i * sz + j]? = some u := by
  induction es generalizing i with
  | nil => simp at hv
  | cons e es ih =>
    cases i with
    | zero =>
      simp at hv
      subst hv
      obtain ⟨hl, -⟩ := List.getElem?_eq_some_iff.1 hj
      simp only [List.flatMap_cons, Nat.zero_mul, Nat.zero_add]
      rw [List.getElem?_append_left hl]; exact hj
    | succ i =>
      have he := hsz e (by simp)
      have := ih (i := i) (fun e' h' => hsz e' (by simp [h'])) (by simpa using hv)
      simp only [List.flatMap_cons]
      rw [List.getElem?_append_right (by rw [he, Nat.succ_mul]; omega), he]
      rw [show (i + 1) * sz + j - sz = i * sz + j by rw [Nat.succ_mul]; omega]
      exact this

theorem ok_indexAddr (hT : TabOK P tb) (hρ : OpRel X L w ρ ρc) {o : Oper} {t : Nat} {x ix : Operand} (ho : o.op = .indexAddr t x ix) (hm : ∀ e ∈ headBlk (ρ x), MemAt X L w st e) {v : AV} (h : aVal tb st ρ (.indexAddr t x ix) = some v) : Gives P X L w ρc o v := by
  have hx := hρ x
  have hi := hρ ix
  simp only [aVal, vPick, vBuild, vLoad, vNil, vConv, vIface, vSlice, vFieldAddr, vField, vIndexAddr, vIndex, vLookup, vAssert, vExtract, vCall] at h
  split at h
  · rename_i e k i hu hri
    rw [hri] at hi
    have ei := hi.int_inv
    split at h
    · rename_i size b off n sz0 hs hr
      rw [hr] at hx hm
      split at h
      · rename_i hlt
        cases h
        obtain ⟨c, oo, cap, sz, hl⟩ := live_of hm (b := b) (n := 1) (by simp [headBlk])
        rcases hx.sl_live hl with ⟨cap', ex, _⟩ | ⟨rfl, _⟩
        · refine ⟨.pointer (some ⟨c, oo + (off + i * size), none⟩), ?_, .ptr hl⟩
          have h1 : ¬ n ≤ i := by omega
          simp [execOp, ho, ex, ei, Instr.indexAt, asIntOf, hT.run_under hu, hT.run_size hs, h1, add_none, Nat.add_assoc]
        · omega
      · cases h
    · rename_i size sz0 es clip hs hr
      rw [hr] at hx
      split at h
      · rename_i u hes
        split at h
        · rename_i hsz
          cases h
          generalize hy : ρc x = y at *
          cases hx with
          | immE _ => simp at hes
          | @imm _ _ bl oo cap sz xs h0 h1 h2 h3 h4 h5 h6 h7 h8 h9 =>
            have hmem : u ∈ es := List.mem_of_getElem? hes
            subst hsz
            obtain ⟨hil, -⟩ := List.getElem?_eq_some_iff.1 hes
            refine ⟨.pointer (some ⟨bl, oo + i * sz0 + 0, none⟩), ?_, ?_⟩
            · have h1 : ¬ es.length ≤ i := by omega
              simp [execOp, ho, hy, ei, Instr.indexAt, asIntOf, hT.run_under hu, hT.run_size hs, h1, add_none]
            · refine .iptr (fun j => xs (i * sz0 + j)) h1 h2 h3 (fun j w' hj => ?_) (fun j w' hj => ?_) (h9 u hmem).cells
              · have := h4 _ _ (flat_get h8 hes hj)
                rw [← Nat.add_assoc] at this; exact this
              · exact h5 _ _ (flat_get h8 hes hj)
        · cases h
      · cases h
    · cases h
  · rename_i n e k i hu hri
    rw [hri] at hi
    have ei := hi.int_inv
    split at h
    · rename_i size b off hs hr
      rw [hr] at hx hm
      split at h
      · rename_i hlt
        cases h
        obtain ⟨c, oo, cap, sz, hl⟩ := live_of hm (b := b) (n := 1) (by simp [headBlk])
        have ex := hx.ptr_live hl
        refine ⟨.pointer (some ⟨c, oo + (off + i * size), none⟩), ?_, .ptr hl⟩
        have h1 : ¬ n ≤ i := by omega
        simp [execOp, ho, ex, ei, Instr.indexAt, asIntOf, hT.run_under hu, hT.run_size hs, h1, add_none, Nat.add_assoc, Instr.sureAddr]
      · cases h
    · cases h
  · cases h
end
end Go.Sy

/- What the abstract reckonings give, the machine's give: slices, literals, maps, lengths. -/
set_option linter.unusedVariables false
set_option linter.unusedSimpArgs false
namespace Go.Sy

section
variable {P : Program} {tb : Tab} {X : Nat → Prop} {L : Loc} {w : World} {st : St} {ρ : Operand → AV} {ρc : Operand → Value}

theorem run_bound (hρ : OpRel X L w ρ ρc) {q : Operand} {d l y : Nat} (code : BoundsCode) (h : aBound d (some (ρ q)) = some l) (hl : l ≤ y) : (Instr.sliceBound (ρc q) y code).run P w = .ok l w := by
  have hq := hρ q
  generalize ρ q = a at *
  cases a <;> simp only [aBound, reduceCtorEq] at h
  rename_i k n
  cases n with
  | negSucc n => simp at h
  | ofNat n =>
    simp at h
    subst h
    have := hq.int_inv
    simp [Instr.sliceBound, this, asIntOf, hl]

theorem run_bounds (hρ : OpRel X L w ρ ρc) {lo hi mx : Option Operand} {n cap l h m : Nat} (hl : aBound 0 (lo.map ρ) = some l) (hh : aBound n (hi.map ρ) = some h) (hm : aBound cap (mx.map ρ) = some m)
    (h1 : l ≤ h) (h2 : h ≤ n) (h3 : n ≤ cap) (h4 : h ≤ m) (h5 : m ≤ cap) (h6 : mx.isSome = true → hi.isSome = true) :
    (Instr.sliceBounds true n cap (lo.map ρc) (hi.map ρc) (mx.map ρc)).run P w = .ok (l, h, m) w := by
  cases mx with
  | none =>
    have : m = cap := by simp [aBound] at hm; exact hm.symm
    subst this
    cases hi with
    | none =>
      have : h = n := by simp [aBound] at hh; exact hh.symm
      subst this
      cases lo with
      | none =>
        have : l = 0 := by simp [aBound] at hl; exact hl.symm
        subst this
        simp [Instr.sliceBounds]
      | some p => simp [Instr.sliceBounds, run_bound (P := P) hρ _ hl h1]
    | some q =>
      cases lo with
      | none =>
        have : l = 0 := by simp [aBound] at hl; exact hl.symm
        subst this
        simp [Instr.sliceBounds, run_bound (P := P) (y := m) hρ _ hh h4]
      | some p => simp [Instr.sliceBounds, run_bound (P := P) (y := m) hρ _ hh h4, run_bound (P := P) hρ _ hl h1]
  | some r =>
    cases hi with
    | none => simp at h6
    | some q =>
      cases lo with
      | none =>
        have : l = 0 := by simp [aBound] at hl; exact hl.symm
        subst this
        simp [Instr.sliceBounds, run_bound (P := P) (y := cap) hρ _ hm h5, run_bound (P := P) (y := m) hρ _ hh h4]
      | some p => simp [Instr.sliceBounds, run_bound (P := P) (y := cap) hρ _ hm h5, run_bound (P := P) (y := m) hρ _ hh h4, run_bound (P := P) hρ _ hl h1]

theorem run_slice (hT : TabOK P tb) {t e size : Nat} (hu : tb.under t = some (.slice e)) (hs : tb.size e = some size) {A : Option Addr} {n cap l h m : Nat} {lo hi mx : Option Value}
    (hb : (Instr.sliceBounds true n cap lo hi mx).run P w = .ok (l, h, m) w) :
    (Instr.sliceAt t (.slice A n cap) lo hi mx).run P w = .ok (.slice (if m = l then A else A.map (·.add (l * size))) (h - l) (m - l)) w := by
  simp [Instr.sliceAt, Instr.slice, hT.run_under hu, hb, hT.run_size hs]

theorem VRels.sub {es : List AV} {l h : Nat} {sz : Nat} (hsz : ∀ e ∈ es, e.cells.length = sz) {j : Nat} {u : AV} (hj : (((es.drop l).take (h - l)).flatMap AV.cells)[j]? = some u) : (es.flatMap AV.cells)[l * sz + j]? = some u := by
  induction es generalizing l h with
  | nil => simp at hj
  | cons e es ih =>
    cases l with
    | zero =>
      simp only [Nat.sub_zero, List.drop_zero, Nat.zero_mul, Nat.zero_add] at hj ⊢
      have : ∀ (k : Nat) (xs : List AV), (xs.take k).flatMap AV.cells <+: xs.flatMap AV.cells := by
        intro k xs
        refine ⟨(xs.drop k).flatMap AV.cells, ?_⟩
        rw [← List.flatMap_append, List.take_append_drop]
      obtain ⟨t, ht⟩ := this h (e :: es)
      obtain ⟨hl, -⟩ := List.getElem?_eq_some_iff.1 hj
      rw [← ht, List.getElem?_append_left hl]; exact hj
    | succ l =>
      have he := hsz e (by simp)
      simp only [List.drop_succ_cons] at hj
      have := ih (l := l) (h := h - 1) (fun e' h' => hsz e' (by simp [h'])) (by rw [show h - 1 - l = h - (l + 1) by omega]; exact hj)
      simp only [List.flatMap_cons]
      rw [List.getElem?_append_right (by rw [he, Nat.succ_mul]; omega), he, show (l + 1) * sz + j - sz = l * sz + j by rw [Nat.succ_mul]; omega]
      exact this

/-- a part of a slice that is read alone -/
theorem VRel.imm_sub {es : List AV} {clip : Bool} {A : Option Addr} {cap l h m : Nat} {size : Nat} (hx : VRel X L w (.imm size es clip) (.slice A es.length cap)) (h1 : l ≤ h) (h2 : h ≤ es.length) (h3 : h ≤ m) (h4 : m ≤ cap) (clip' : Bool) (hc : clip' = true → m = h) :
    VRel X L w (.imm size ((es.drop l).take (h - l)) clip') (.slice (if m = l then A else A.map (·.add (l * size))) (h - l) (m - l)) := by
  by_cases hlen : h = l
  · subst hlen
    have : (es.drop h).take (h - h) = [] := by simp
    rw [this, Nat.sub_self]
    exact .immE fun hh => by have := hc hh; omega
  · have hml : ¬ m = l := by omega
    rw [if_neg hml]
    generalize hy : Value.slice A es.length cap = y at hx
    cases hx with
    | immE _ => simp at h2; omega
    | @imm _ _ bl oo cap' sz xs g0 g1 g2 g3 g4 g5 g6 g7 g8 g9 =>
      cases hy
      have hl2 : ((es.drop l).take (h - l)).length = h - l := by simp; omega
      have hne : (es.drop l).take (h - l) ≠ [] := by intro e; rw [e] at hl2; simp at hl2; omega
      simp only [Option.map_some, add_none]
      have := VRel.imm (X := X) (L := L) (w := w) (es := (es.drop l).take (h - l)) (clip := clip') (bl := bl) (o := oo + l * size) (cap := m - l) (sz := size) (fun j => xs (l * size + j)) hne g1 g2 g3
        (fun j u hj => by have := g4 _ _ (VRels.sub g8 hj); rw [← Nat.add_assoc] at this; exact this) (fun j u hj => g5 _ _ (VRels.sub g8 hj)) (by rw [hl2]; omega) (fun hh => by rw [hl2]; have := hc hh; omega)
        (fun e he => g8 e (List.mem_of_mem_drop (List.mem_of_mem_take he))) (fun e he => g9 e (List.mem_of_mem_drop (List.mem_of_mem_take he)))
      rw [hl2] at this
      exact this

theorem VRel.imm_len {sz : Nat} {es : List AV} {clip : Bool} {x : Value} (h : VRel X L w (.imm sz es clip) x) : ∃ A cap, x = .slice A es.length cap ∧ es.length ≤ cap ∧ (clip = true → cap = es.length) := by
  cases h with
  | immE h => exact ⟨_, _, rfl, Nat.zero_le _, h⟩
  | imm xs h0 h1 h2 h3 h4 h5 h6 h7 h8 _ => exact ⟨_, _, rfl, h6, h7⟩

theorem ok_slice (hT : TabOK P tb) (hρ : OpRel X L w ρ ρc) {o : Oper} {t : Nat} {x : Operand} {lo hi mx : Option Operand} (ho : o.op = .slice t x lo hi mx) (hm : ∀ e ∈ headBlk (ρ x), MemAt X L w st e) {v : AV} (h : aVal tb st ρ (.slice t x lo hi mx) = some v) : Gives P X L w ρc o v := by
  have hx := hρ x
  simp only [aVal, vPick, vBuild, vLoad, vNil, vConv, vIface, vSlice, vFieldAddr, vField, vIndexAddr, vIndex, vLookup, vAssert, vExtract, vCall] at h
  split at h
  · rename_i e hu
    split at h
    · rename_i size hs
      have fin : ∀ {A : Option Addr} {n cap l h m : Nat}, ρc x = .slice A n cap → (Instr.sliceBounds true n cap (lo.map ρc) (hi.map ρc) (mx.map ρc)).run P w = .ok (l, h, m) w →
          (execOp ρc o).run P w = .ok (.value (.slice (if m = l then A else A.map (·.add (l * size))) (h - l) (m - l))) w := by
        intro A n cap l h m e1 e2
        have := run_slice (w := w) hT hu hs (A := A) e2
        simp [execOp, ho, e1, this]
      unfold aSlice at h
      split at h
      · cases h
      · rename_i n hn
        split at h
        · rename_i l hh hl1 hh1
          split at h
          · rename_i hle
            obtain ⟨hle1, hle2⟩ := hle
            split at h
            · rename_i hx0 hmx
              cases h
              rw [hx0] at hx hn
              have e1 := hx.nils_inv
              simp [lenOf] at hn
              subst hn
              have hmx' : mx = none := by cases mx <;> simp at hmx ⊢
              subst hmx'
              have := run_bounds (P := P) (m := 0) (cap := 0) hρ hl1 hh1 (mx := none) rfl hle1 hle2 (Nat.le_refl _) hle2 (Nat.le_refl _) (by simp)
              refine ⟨_, fin e1 this, ?_⟩
              have a1 : hh = 0 := by omega
              have a2 : l = 0 := by omega
              subst a1; subst a2
              exact .nils
            · rename_i b off nn sz hx0 hmx
              split at h
              · rename_i hsz
                subst hsz
                cases h
                rw [hx0] at hx hn hm
                simp [lenOf] at hn
                subst hn
                have hmx' : mx = none := by cases mx <;> simp at hmx ⊢
                subst hmx'
                obtain ⟨c, oo, cap, dz, hl⟩ := live_of hm (b := b) (n := 1) (by simp [headBlk])
                rcases hx.sl_live hl with ⟨cap', ex, k1, k2⟩ | ⟨rfl, a, ex⟩
                · have := run_bounds (P := P) (m := cap') (cap := cap') hρ hl1 hh1 (mx := none) rfl hle1 hle2 k1 (by omega) (Nat.le_refl _) (by simp)
                  refine ⟨_, fin ex this, ?_⟩
                  by_cases hcl : cap' = l
                  · rw [if_pos hcl]
                    have : hh - l = 0 := by omega
                    rw [this, show cap' - l = 0 by omega]
                    exact .slE (by rw [hl]; simp)
                  · rw [if_neg hcl]
                    simp only [Option.map_some, add_none, Nat.add_assoc]
                    refine .sl hl (by omega) ?_
                    have : l * sz + (cap' - l) * sz = cap' * sz := by rw [← Nat.add_mul]; congr 1; omega
                    omega
                · have := run_bounds (P := P) (m := 0) (cap := 0) hρ hl1 hh1 (mx := none) rfl hle1 hle2 (Nat.le_refl _) hle2 (Nat.le_refl _) (by simp)
                  refine ⟨_, fin ex this, ?_⟩
                  have a1 : hh = 0 := by omega
                  have a2 : l = 0 := by omega
                  subst a1; subst a2
                  exact .slE (by rw [hl]; simp)
              · cases h
            · rename_i sz es c hx0 hmx
              split at h
              · rename_i hsz
                subst hsz
                cases h
                rw [hx0] at hx hn
                simp [lenOf] at hn
                subst hn
                have hmx' : mx = none := by cases mx <;> simp at hmx ⊢
                subst hmx'
                obtain ⟨A, cap, ex, k1, k2⟩ := hx.imm_len
                have := run_bounds (P := P) (m := cap) (cap := cap) hρ hl1 hh1 (mx := none) rfl hle1 hle2 k1 (by omega) (Nat.le_refl _) (by simp)
                rw [ex] at hx
                refine ⟨_, fin ex this, hx.imm_sub hle1 hle2 (by omega) (Nat.le_refl _) _ fun hh2 => ?_⟩
                simp at hh2
                rw [k2 hh2.1, hh2.2]
              · cases h
            · rename_i sz es c k m hx0 hmx
              split at h
              · rename_i hcond
                obtain ⟨hsz, hmh, hhi⟩ := hcond
                subst hsz; subst hmh
                cases h
                rw [hx0] at hx hn
                simp [lenOf] at hn
                subst hn
                obtain ⟨A, cap, ex, k1, k2⟩ := hx.imm_len
                have := run_bounds (P := P) (m := m) (cap := cap) hρ hl1 hh1 (mx := mx) (by rw [hmx]; rfl) hle1 hle2 k1 (Nat.le_refl _) (by omega) (fun _ => by simpa using hhi)
                rw [ex] at hx
                exact ⟨_, fin ex this, hx.imm_sub hle1 hle2 (Nat.le_refl _) (by omega) _ fun _ => rfl⟩
              · cases h
            · rename_i k hx0 hmx
              split at h
              · rename_i hhi
                cases h
                rw [hx0] at hx hn
                have e1 := hx.nils_inv
                simp [lenOf] at hn
                subst hn
                have := run_bounds (P := P) (m := 0) (cap := 0) hρ hl1 hh1 (mx := mx) (by rw [hmx]; rfl) hle1 hle2 (Nat.le_refl _) hle2 (Nat.le_refl _) (fun _ => by simpa using hhi)
                refine ⟨_, fin e1 this, ?_⟩
                have a1 : hh = 0 := by omega
                have a2 : l = 0 := by omega
                subst a1; subst a2
                exact .nils
              · cases h
            · rename_i b off nn sz k m hx0 hmx
              split at h
              · rename_i hcond
                obtain ⟨hmh, hhl, hhi⟩ := hcond
                subst hmh; subst hhl
                cases h
                rw [hx0] at hx hn hm
                simp [lenOf] at hn
                subst hn
                obtain ⟨c, oo, cap, dz, hl⟩ := live_of hm (b := b) (n := 1) (by simp [headBlk])
                rcases hx.sl_live hl with ⟨cap', ex, k1, k2⟩ | ⟨rfl, a, ex⟩
                · have := run_bounds (P := P) (m := m) (cap := cap') hρ hl1 hh1 (mx := mx) (by rw [hmx]; rfl) (Nat.le_refl _) hle2 k1 (Nat.le_refl _) (by omega) (fun _ => by simpa using hhi)
                  refine ⟨_, fin ex this, ?_⟩
                  rw [Nat.sub_self]
                  exact .immE fun _ => rfl
                · have := run_bounds (P := P) (m := m) (cap := 0) hρ hl1 hh1 (mx := mx) (by rw [hmx]; rfl) (Nat.le_refl _) hle2 (Nat.le_refl _) (Nat.le_refl _) (by omega) (fun _ => by simpa using hhi)
                  refine ⟨_, fin ex this, ?_⟩
                  rw [Nat.sub_self]
                  exact .immE fun _ => rfl
              · cases h
            · cases h
          · cases h
        · cases h
    · cases h
  · rename_i hu
    split at h
    · rename_i s k l k' hh hx0 hlo hhi
      split at h
      · rename_i hle
        obtain ⟨hle1, hle2⟩ := hle
        cases h
        rw [hx0] at hx
        have ex := hx.str_inv
        obtain ⟨q1, rfl, hq1⟩ : ∃ q, lo = some q ∧ ρ q = .int k (.ofNat l) := by cases lo with | none => simp at hlo | some q => exact ⟨q, rfl, by simpa using hlo⟩
        obtain ⟨q2, rfl, hq2⟩ : ∃ q, hi = some q ∧ ρ q = .int k' (.ofNat hh) := by cases hi with | none => simp at hhi | some q => exact ⟨q, rfl, by simpa using hhi⟩
        have b1 : ∀ code, (Instr.sliceBound (ρc q1) hh code).run P w = .ok l w := fun code => run_bound (d := 0) hρ code (by rw [hq1]; rfl) hle1
        have b2 : ∀ code, (Instr.sliceBound (ρc q2) s.size code).run P w = .ok hh w := fun code => run_bound (d := 0) hρ code (by rw [hq2]; rfl) hle2
        refine ⟨.string (s.extract l hh), ?_, .str _⟩
        simp [execOp, ho, ex, Instr.sliceAt, Instr.slice, hT.run_under hu, Instr.sliceBounds, b1, b2]
      · cases h
    · cases h
  · cases h
end
end Go.Sy

/- What the abstract reckonings give, the machine's give: all of them. -/
set_option linter.unusedVariables false
set_option linter.unusedSimpArgs false
namespace Go.Sy

section
variable {P : Program} {tb : Tab} {X : Nat → Prop} {L : Loc} {w : World} {st : St} {ρ : Operand → AV} {ρc : Operand → Value}

/-- every field's type is in the table -/
def FieldsOK (tb : Tab) : Prop := ∀ t fs, tb.under t = some (.struct fs) → ∀ f ∈ fs.toList, ∃ n, tb.size f.type = some n

theorem zero_cells {z : Value} {a : AV} (h : a = ofConst z) : VRels X L w a.cells z.cells.toList := by
  subst h
  by_cases hz : ∃ cs, z = .agg cs
  · obtain ⟨cs, rfl⟩ := hz
    obtain ⟨xs, e, h⟩ := (VRel.const X L w (.agg cs)).agg_inv
    cases e
    exact h
  · have e0 : z.cells = #[z] := by cases z <;> first | rfl | exact absurd ⟨_, rfl⟩ hz
    have e1 : ofConst z = ofLeaf z := by cases z <;> first | rfl | exact absurd ⟨_, rfl⟩ hz
    have e2 : (ofLeaf z).cells = [ofLeaf z] := by unfold ofLeaf; split <;> rfl
    rw [e0, e1, e2]
    exact .one (.leafC ..)

theorem run_places (hT : TabOK P tb) {fs : Array Field} (h : ∀ f ∈ fs.toList, ∃ n, tb.size f.type = some n) :
    ∃ ps : Array (Nat × Nat), (fs.mapM fun (f : Field) => (do pure (f.offset, ← sizeOf f.type) : Sem (Nat × Nat))).run P w = .ok ps w ∧ ∀ i : Nat, (fs.toList[i]?.bind fun (f : Field) => (tb.size f.type).map fun s => (f.offset, s)) = ps[i]? := by
  have key : ∀ l : List Field, (∀ f ∈ l, ∃ n, tb.size f.type = some n) → ∃ ps : List (Nat × Nat), (l.mapM fun (f : Field) => (do pure (f.offset, ← sizeOf f.type) : Sem (Nat × Nat))).run P w = .ok ps w ∧ ∀ i : Nat, (l[i]?.bind fun (f : Field) => (tb.size f.type).map fun s => (f.offset, s)) = ps[i]? := by
    intro l
    induction l with
    | nil => intro _; exact ⟨[], rfl, fun i => by simp⟩
    | cons f l ih =>
      intro h
      obtain ⟨n, hn⟩ := h f (by simp)
      obtain ⟨ps, h1, h2⟩ := ih fun g hg => h g (by simp [hg])
      refine ⟨(f.offset, n) :: ps, ?_, fun i => ?_⟩
      · simp only [List.mapM_cons, Sem.run_bind, hT.run_size hn, Result.andThen_ok, Sem.run_pure, h1]
      · cases i with
        | zero => simp [hn]
        | succ i => simpa using h2 i
  obtain ⟨ps, h1, h2⟩ := key fs.toList h
  refine ⟨ps.toArray, ?_, fun i => by rw [h2 i]; simp⟩
  rw [Array.mapM_eq_mapM_toList]
  simp only [Sem.run_map, h1, Result.andThen_ok]

theorem parts_rel (hρ : OpRel X L w ρ ρc) (parts : Array (Nat × Operand)) :
    (parts.toList.map fun (i, x) => (i, ρ x)).length = (parts.map fun (i, x) => (i, ρc x)).toList.length ∧
    ∀ (j : Nat) (p : Nat × AV) (q : Nat × Value), (parts.toList.map fun (i, x) => (i, ρ x))[j]? = some p → (parts.map fun (i, x) => (i, ρc x)).toList[j]? = some q → p.1 = q.1 ∧ VRel X L w p.2 q.2 := by
  refine ⟨by simp, fun j p q hp hq => ?_⟩
  simp only [Array.toList_map, List.getElem?_map, Option.map_eq_some_iff] at hp hq
  obtain ⟨⟨i, x⟩, ha, rfl⟩ := hp
  obtain ⟨⟨i', x'⟩, hb, rfl⟩ := hq
  rw [ha] at hb
  cases hb
  exact ⟨rfl, hρ x⟩

theorem ok_build (hT : TabOK P tb) (hF : FieldsOK tb) (hρ : OpRel X L w ρ ρc) {o : Oper} {t : Nat} {parts : Array (Nat × Operand)} (ho : o.op = .build t parts) {v : AV} (h : aVal tb st ρ (.build t parts) = some v) : Gives P X L w ρc o v := by
  simp only [aVal, vPick, vBuild, vLoad, vNil, vConv, vIface, vSlice, vFieldAddr, vField, vIndexAddr, vIndex, vLookup, vAssert, vExtract, vCall] at h
  have hp := parts_rel hρ parts
  split at h
  · rename_i fs z hu hz
    obtain ⟨z', hz1, hz2⟩ := hT.run_zero hz w
    obtain ⟨ps, hps1, hps2⟩ := run_places (w := w) hT (hF t fs hu)
    simp only [Option.map_eq_some_iff] at h
    obtain ⟨r, hr, rfl⟩ := h
    have : (fun (i : Nat) => fs.toList[i]?.bind fun (f : Field) => (tb.size f.type).map fun s => (f.offset, s)) = fun i => ps[i]? := funext hps2
    rw [this] at hr
    obtain ⟨r', h1, h2⟩ := fill_ok _ _ _ z'.cells _ hp.1 hp.2 (zero_cells hz2) hr
    refine ⟨.agg r', ?_, VRel.agg_mk h2⟩
    simp only [execOp, ho, Instr.build, Sem.run_bind, hz1, Result.andThen_ok, hT.run_under hu, hps1, h1, Sem.run_pure]
  · rename_i n e z hu hz
    obtain ⟨z', hz1, hz2⟩ := hT.run_zero hz w
    split at h
    · rename_i size hs
      simp only [Option.map_eq_some_iff] at h
      obtain ⟨r, hr, rfl⟩ := h
      obtain ⟨r', h1, h2⟩ := fill_ok _ _ _ z'.cells _ hp.1 hp.2 (zero_cells hz2) hr
      refine ⟨.agg r', ?_, VRel.agg_mk h2⟩
      simp only [execOp, ho, Instr.build, Sem.run_bind, hz1, Result.andThen_ok, hT.run_under hu, hT.run_size hs, h1, Sem.run_pure]
    · cases h
  · cases h

/-! maps -/
theorem find_ok {d : TypeDesc} {kd : IntKind} (hd : d = .int kd) (k : Int) : ∀ (es : List (Int × AV)) (fs : List MapEntry) (i : Nat), ERels X L w es fs →
    match findM k es with
    | some v => ∃ j x, Instr.findNow d (.int .i64 k) fs i = some (some (j, x)) ∧ VRel X L w v x
    | none => Instr.findNow d (.int .i64 k) fs i = some none := by
  intro es fs i h
  induction h generalizing i with
  | nil => simp [findM, Instr.findNow]
  | @cons k' v e es fs h1 h2 h3 ih =>
    subst hd
    simp only [findM]
    by_cases hk : k' = k
    · subst hk
      rw [if_pos rfl]
      exact ⟨i, e.val, by simp [Instr.findNow, h1, Instr.sameNow], h2⟩
    · rw [if_neg hk]
      have := ih (i + 1)
      have hne : Instr.findNow (.int kd) (.int .i64 k) (e :: fs) i = Instr.findNow (.int kd) (.int .i64 k) fs (i + 1) := by
        have hb : (k == k') = false := by simp [Ne.symm hk]
        simp [Instr.findNow, h1, Instr.sameNow, hb]
      split <;> rename_i he <;> rw [he] at this <;> rw [hne] <;> exact this

theorem run_checkKey (hT : TabOK P tb) {kt : Nat} {kd : IntKind} (h : tb.under kt = some (.int kd)) (b : Bool) (k : Int) : (Instr.checkKey b 10000 kt (.int .i64 k)).run P w = .ok () w := by
  have : ∀ n, (Instr.checkKey b (n + 1) kt (.int .i64 k)).run P w = .ok () w := by
    intro n
    simp [Instr.checkKey, hT.run_under h]
  exact this 9999

theorem ok_lookup (hT : TabOK P tb) (hρ : OpRel X L w ρ ρc) {o : Oper} {t : Nat} {x ix : Operand} {ok : Bool} (ho : o.op = .lookup t x ix ok) (hm : ∀ e ∈ touches tb ρ (.lookup t x ix ok), MemAt X L w st e) {v : AV} (h : aVal tb st ρ (.lookup t x ix ok) = some v) : Gives P X L w ρc o v := by
  have hx := hρ x
  have hi := hρ ix
  simp only [aVal, vPick, vBuild, vLoad, vNil, vConv, vIface, vSlice, vFieldAddr, vField, vIndexAddr, vIndex, vLookup, vAssert, vExtract, vCall] at h
  split at h
  · rename_i kt e k hu hri
    rw [hri] at hi
    have ei := hi.int_inv
    split at h
    · rename_i kd hkt
      -- what the map holds
      have hes : ∀ es, (match ρ x with | .nilm => some [] | .map b => (match st.get b with | .map es => some es | _ => none) | _ => none : Option (List (Int × AV))) = some es →
          ∃ fs : Array MapEntry, ERels X L w es fs.toList ∧ ((ρc x = .map none ∧ fs = #[]) ∨ ∃ c clock, ρc x = .map (some c) ∧ w.heap[c]? = some (.map fs clock)) := by
        intro es he
        split at he
        · rename_i hr
          cases he
          rw [hr] at hx
          exact ⟨#[], .nil, .inl ⟨hx.nilm_inv, rfl⟩⟩
        · rename_i b hr
          split at he
          · rename_i es' hb
            cases he
            rw [hr] at hx
            simp only [touches, tLoad, tMap, hr] at hm
            obtain ⟨c, oo, cap, sz, hl, hmem⟩ := hm (b, live0, 1) (by simp)
            simp only [hb] at hmem
            obtain ⟨fs, clock, h1, h2⟩ := hmem
            exact ⟨fs, h2, .inr ⟨c, clock, hx.map_live hl, h1⟩⟩
          · cases he
        · cases he
      split at h
      · rename_i es z hes1 hz
        obtain ⟨fs, h1, h2⟩ := hes es hes1
        obtain ⟨z', hz1, hz2⟩ := hT.run_zero hz w
        have hf := find_ok (X := X) (L := L) (w := w) (d := .int kd) rfl k es fs.toList 0 h1
        have base : ∀ r, Instr.findNow (.int kd) (.int .i64 k) fs.toList 0 = some r → (execOp ρc o).run P w =
            .ok (.value (if ok = true then .tuple #[((r.map (·.2)).getD z'), .bool r.isSome] else ((r.map (·.2)).getD z'))) w := by
          intro r hr
          have hfin : ∀ es : Array MapEntry, es = fs → (do
            Instr.checkKey es.isEmpty 10000 kt (.int .i64 k)
            let (v, ok') ← match ← Instr.findKey kt (.int .i64 k) es.toList with
              | some (_, v) => pure (v, true)
              | none => pure (← zeroValue e, false)
            pure (if ok then .tuple #[v, .bool ok'] else v) : Sem Value).run P w = .ok (if ok = true then .tuple #[((r.map (·.2)).getD z'), .bool r.isSome] else ((r.map (·.2)).getD z')) w := by
            rintro es rfl
            simp only [Sem.run_bind, run_checkKey hT hkt, Result.andThen_ok, Instr.findKey, hT.run_under hkt, hr, Sem.run_pure]
            cases r with
            | none => simp only [Sem.run_bind, hz1, Result.andThen_ok, Sem.run_pure]; rfl
            | some p => simp only [Sem.run_pure, Result.andThen_ok]; rfl
          have hl : (Instr.lookup t (ρc x) (.int .i64 k) ok).run P w = .ok (if ok = true then .tuple #[((r.map (·.2)).getD z'), .bool r.isSome] else ((r.map (·.2)).getD z')) w := by
            rcases h2 with ⟨e1, e2⟩ | ⟨c, clock, e1, e2⟩
            · rw [e1]
              have := hfin #[] e2.symm
              simp only [Instr.lookup, Sem.run_bind, hT.run_under hu, Result.andThen_ok, Sem.run_pure] at this ⊢
              exact this
            · rw [e1]
              have := hfin fs rfl
              have hg : (getObj c).run P w = .ok (.map fs clock) w := by simp [getObj, Sem.run, e2]
              simp only [Instr.lookup, Sem.run_bind, hT.run_under hu, Result.andThen_ok, Sem.run_pure, hg] at this ⊢
              exact this
          simp only [execOp, ho, ei, Sem.run_bind, hl, Result.andThen_ok, Sem.run_pure]
        cases hfm : findM k es with
        | some u =>
          rw [hfm] at hf h
          obtain ⟨j, x', hf1, hf2⟩ := hf
          simp only [Option.some.injEq] at h
          subst h
          cases ok with
          | true => exact ⟨.tuple #[x', .bool true], by rw [base _ hf1]; rfl, VRel.tup_mk (by simpa using (VRels.one (VRel.bool true)).cons hf2)⟩
          | false => exact ⟨x', by rw [base _ hf1]; rfl, hf2⟩
        | none =>
          rw [hfm] at hf h
          simp only [Option.some.injEq] at h
          subst h
          cases ok with
          | true => exact ⟨.tuple #[z', .bool false], by rw [base _ hf]; rfl, VRel.tup_mk (by simpa using (VRels.one (VRel.bool false)).cons (hz2 ▸ VRel.const X L w z'))⟩
          | false => exact ⟨z', by rw [base _ hf]; rfl, hz2 ▸ VRel.const X L w z'⟩
      · cases h
    · cases h
  · cases h

/-! lengths, the least, the greatest -/
theorem ok_call (hT : TabOK P tb) (hρ : OpRel X L w ρ ρc) {o : Oper} {c : Call} (ho : o.op = .call c) (hm : ∀ e ∈ touches tb ρ (.call c), MemAt X L w st e) {v : AV} (h : aVal tb st ρ (.call c) = some v) : Gives P X L w ρc o v := by
  have hargs := VRels.map hρ c.args
  simp only [aVal, vPick, vBuild, vLoad, vNil, vConv, vIface, vSlice, vFieldAddr, vField, vIndexAddr, vIndex, vLookup, vAssert, vExtract, vCall] at h
  have base : ∀ b z, c.callee = .builtin b → (∀ cs, (builtin b c.argTypes o.type cs (c.args.map ρc)).run P w = .ok (.value z) w) → VRel X L w v z → Gives P X L w ρc o v := by
    intro b z hb hr hv
    refine ⟨z, ?_, hv⟩
    simp only [execOp, ho, resolve, hb, Sem.run_bind, Sem.run_pure, Result.andThen_ok, invoke, hr]
  split at h
  · rename_i b hc ha
    rw [ha] at hargs
    obtain ⟨x, xs, e1, h1, h2⟩ := hargs.cons_inv
    have e2 : xs = [] := by have := h2.1; simp at this; exact List.eq_nil_of_length_eq_zero this.symm
    subst e2
    have e3 : c.args.map ρc = #[x] := by apply Array.ext'; rw [e1]
    split at h
    · rename_i k e hu
      split at h
      · rename_i es hb
        cases h
        have hmem : MemAt X L w st (b, live0, 1) := hm _ (by
          simp only [touches, tLoad, tMap, ha, List.flatMap_cons, List.flatMap_nil]
          simp)
        obtain ⟨cc, oo, cap, sz, hl, hmem⟩ := hmem
        simp only [hb] at hmem
        obtain ⟨fs, clock, h3, h4⟩ := hmem
        have ex := h1.map_live hl
        have hlen : es.length = fs.size := by
          have : ∀ (es : List (Int × AV)) (fs : List MapEntry), ERels X L w es fs → es.length = fs.length := by
            intro es fs h
            induction h with
            | nil => rfl
            | cons _ _ _ ih => simp [ih]
          simpa using this _ _ h4
        obtain ⟨t0, ht0, hut⟩ : ∃ t, c.argTypes[0]? = some t ∧ tb.under t = some (.map k e) := by
          cases hh : c.argTypes.toList.head? with
          | none => rw [hh] at hu; simp at hu
          | some t => rw [hh] at hu; refine ⟨t, ?_, by simpa using hu⟩; rw [List.head?_eq_getElem?] at hh; rw [← Array.getElem?_toList]; exact hh
        have hg : (getObj cc).run P w = .ok (.map fs clock) w := by simp [getObj, Sem.run, h3]
        refine base .len (goInt fs.size) hc (fun _ => ?_) (by rw [hlen]; exact .int _ _)
        simp [builtin, Builtin.len_, e3, ht0, hT.run_under hut, ex, hg]
      · cases h
    · cases h
  · rename_i x hn hc ha
    rw [ha] at hargs
    obtain ⟨x', xs, e1, h1, h2⟩ := hargs.cons_inv
    have e2 : xs = [] := by have := h2.1; simp at this; exact List.eq_nil_of_length_eq_zero this.symm
    subst e2
    have e3 : c.args.map ρc = #[x'] := by apply Array.ext'; rw [e1]
    have htouch : ∀ e ∈ headBlk x, MemAt X L w st e := by
      intro e he
      apply hm
      simp only [touches, tLoad, tMap, ha, List.flatMap_cons, List.flatMap_nil, List.append_nil]
      exact he
    split at h
    · cases h
    · rename_i x0 e hu hns
      unfold lenV at h
      split at h
      · rename_i n hn1
        cases h
        obtain ⟨t0, ht0, hut⟩ : ∃ t, c.argTypes[0]? = some t ∧ tb.under t = some (.slice e) := by
          cases hh : c.argTypes.toList.head? with
          | none => rw [hh] at hu; simp at hu
          | some t => rw [hh] at hu; refine ⟨t, ?_, by simpa using hu⟩; rw [List.head?_eq_getElem?] at hh; rw [← Array.getElem?_toList]; exact hh
        obtain ⟨A, cap, ex⟩ := h1.len hn1 (fun b off len sz e => by
          subst e
          exact live_of htouch (b := b) (n := 1) (by simp [headBlk])) (fun s e => hns s e)
        refine base .len (goInt n) hc (fun _ => ?_) (.int _ _)
        simp [builtin, Builtin.len_, e3, ht0, hT.run_under hut, ex]
      · cases h
    · rename_i s hu
      cases h
      obtain ⟨t0, ht0, hut⟩ : ∃ t, c.argTypes[0]? = some t ∧ tb.under t = some .string := by
        cases hh : c.argTypes.toList.head? with
        | none => rw [hh] at hu; simp at hu
        | some t => rw [hh] at hu; refine ⟨t, ?_, by simpa using hu⟩; rw [List.head?_eq_getElem?] at hh; rw [← Array.getElem?_toList]; exact hh
      have ex := h1.str_inv
      refine base .len (goInt s.size) hc (fun _ => ?_) (.int _ _)
      simp [builtin, Builtin.len_, e3, ht0, hT.run_under hut, ex]
    · cases h
  · rename_i j a k b hc ha
    split at h
    · rename_i hjk
      subst hjk
      cases h
      rw [ha] at hargs
      obtain ⟨x, xs, e1, h1, h2⟩ := hargs.cons_inv
      obtain ⟨y, ys, e2, h3, h4⟩ := h2.cons_inv
      have e4 : ys = [] := by have := h4.1; simp at this; exact List.eq_nil_of_length_eq_zero this.symm
      subst e4; subst e2
      have e3 : c.args.map ρc = #[x, y] := by apply Array.ext'; rw [e1]
      refine base .min (.int j (if b < a then b else a)) hc (fun _ => ?_) (.int _ _)
      simp [builtin, Builtin.min_, Builtin.min2, e3, h1.int_inv, h3.int_inv]
    · cases h
  · rename_i j a k b hc ha
    split at h
    · rename_i hjk
      subst hjk
      cases h
      rw [ha] at hargs
      obtain ⟨x, xs, e1, h1, h2⟩ := hargs.cons_inv
      obtain ⟨y, ys, e2, h3, h4⟩ := h2.cons_inv
      have e4 : ys = [] := by have := h4.1; simp at this; exact List.eq_nil_of_length_eq_zero this.symm
      subst e4; subst e2
      have e3 : c.args.map ρc = #[x, y] := by apply Array.ext'; rw [e1]
      refine base .max (.int j (if a < b then b else a)) hc (fun _ => ?_) (.int _ _)
      simp [builtin, Builtin.max_, Builtin.max2, e3, h1.int_inv, h3.int_inv]
    · cases h
  · cases h

theorem aVal_ok (hT : TabOK P tb) (hF : FieldsOK tb) (hρ : OpRel X L w ρ ρc) {o : Oper} (hm : ∀ e ∈ touches tb ρ o.op, MemAt X L w st e) {v : AV} (h : aVal tb st ρ o.op = some v) : Gives P X L w ρc o v := by
  cases ho : o.op <;> rw [ho] at h hm
  case move x => simp only [aVal, vPick, vBuild, vLoad, vNil, vConv, vIface, vSlice, vFieldAddr, vField, vIndexAddr, vIndex, vLookup, vAssert, vExtract, vCall, Option.some.injEq] at h; subst h; exact ok_move hρ (.inl ho)
  case assign x => simp only [aVal, vPick, vBuild, vLoad, vNil, vConv, vIface, vSlice, vFieldAddr, vField, vIndexAddr, vIndex, vLookup, vAssert, vExtract, vCall, Option.some.injEq] at h; subst h; exact ok_move hρ (.inr ho)
  case pick c a b =>
    simp only [aVal, vPick, vBuild, vLoad, vNil, vConv, vIface, vSlice, vFieldAddr, vField, vIndexAddr, vIndex, vLookup, vAssert, vExtract, vCall] at h
    split at h
    · rename_i t ht; cases h; exact ok_pick hρ ho ht
    · cases h
  case build t parts => exact ok_build hT hF hρ ho h
  case load t x => exact ok_load hT hρ ho hm h
  case nilCheck x => exact ok_nilCheck hρ ho hm h
  case binOp op t x y u => exact ok_binOp hT hρ ho hm h
  case unOp op t x => exact ok_unOp hρ ho h
  case convert s d x => exact ok_convert hT hρ ho h
  case makeInterface t x => exact ok_makeInterface hT hρ ho h
  case makeFunc fn first cap =>
    cases fn with
    | func g => simp only [aVal, vPick, vBuild, vLoad, vNil, vConv, vIface, vSlice, vFieldAddr, vField, vIndexAddr, vIndex, vLookup, vAssert, vExtract, vCall, Option.some.injEq] at h; subst h; exact ok_makeFunc hρ ho
    | _ => simp [aVal, vPick, vBuild, vLoad, vNil, vConv, vIface, vSlice, vFieldAddr, vField, vIndexAddr, vIndex, vLookup, vAssert, vExtract, vCall] at h
  case slice t x lo hi mx => exact ok_slice hT hρ ho hm h
  case fieldAddr t x i => exact ok_fieldAddr hT hρ ho hm h
  case field t x i => exact ok_field hT hρ ho h
  case indexAddr t x i => exact ok_indexAddr hT hρ ho hm h
  case index t x i => exact ok_index hT hρ ho h
  case lookup t x i ok => exact ok_lookup hT hρ ho hm h
  case typeAssert x s t ok =>
    cases ok with
    | true => exact ok_typeAssert hT hρ ho h
    | false => simp [aVal, vPick, vBuild, vLoad, vNil, vConv, vIface, vSlice, vFieldAddr, vField, vIndexAddr, vIndex, vLookup, vAssert, vExtract, vCall] at h
  case extract t i =>
    simp only [aVal, vPick, vBuild, vLoad, vNil, vConv, vIface, vSlice, vFieldAddr, vField, vIndexAddr, vIndex, vLookup, vAssert, vExtract, vCall] at h
    split at h
    · rename_i vs ht; exact ok_extract hρ ho ht h
    · cases h
  case call c => exact ok_call hT hρ ho hm h
  all_goals simp [aVal, vPick, vBuild, vLoad, vNil, vConv, vIface, vSlice, vFieldAddr, vField, vIndexAddr, vIndex, vLookup, vAssert, vExtract, vCall] at h
end
end Go.Sy

/- The operations that lay a new block. -/
set_option linter.unusedVariables false
set_option linter.unusedSimpArgs false
namespace Go.Sy

section
variable {P : Program} {tb : Tab} {X : Nat → Prop} {L : Loc} {w : World} {st : St} {ρ : Operand → AV} {ρc : Operand → Value}

def NewOK (P : Program) (X : Nat → Prop) (L : Loc) (w : World) (ρc : Operand → Value) (o : Oper) (blk : Blk) (mk : Nat → AV) : Prop :=
  ∃ x obj cap sz, (execOp ρc o).run P w = .ok (.value x) (w.alloc obj) ∧ ∀ (L' : Loc) (b : Nat), L' b = .live w.heap.size 0 cap sz → Ext L w L' (w.alloc obj) → VRel X L' (w.alloc obj) (mk b) x ∧ BRel X L' (w.alloc obj) w.heap.size 0 cap sz blk

theorem alloc_get (w : World) (o : Obj) : (w.alloc o).heap[w.heap.size]? = some o := by
  show (w.heap.push o)[w.heap.size]? = some o
  simp

theorem new_cells {blk : List AV} {cells : Array Value} {e : Nat} (h : VRels X L w blk cells.toList) {L' : Loc} (hE : Ext L w L' (w.alloc (.cells cells e))) {sz : Nat} :
    BRel X L' (w.alloc (.cells cells e)) w.heap.size 0 cells.size sz (.cells blk) := by
  refine ⟨cells, e, alloc_get _ _, by omega, by have := h.1; simp at this; omega, ?_⟩
  have hl : blk.length = cells.toList.length := h.1
  have : (cells.toList.drop 0).take blk.length = cells.toList := by rw [hl, List.drop_zero, List.take_length]
  rw [this]
  exact h.mono hE

theorem ok_alloc (hT : TabOK P tb) {o : Oper} {e : Nat} (ho : o.op = .alloc e) {blk : Blk} {mk : Nat → AV} (h : aNew tb ρ (.alloc e) = some (blk, mk)) : NewOK P X L w ρc o blk mk := by
  simp only [aNew, nAlloc, nBox, nBuild, nMake] at h
  split at h
  · rename_i z hz
    cases h
    obtain ⟨z', hz1, hz2⟩ := hT.run_zero hz w
    refine ⟨.pointer (some ⟨w.heap.size, 0, none⟩), .cells z'.cells e, z'.cells.size, 0, ?_, fun L' b hb hE => ⟨?_, new_cells (zero_cells hz2) hE⟩⟩
    · simp [execOp, ho, Instr.alloc, hz1, newVar, newRow]
    · have := VRel.ptr (X := X) (w := w.alloc (.cells z'.cells e)) (off := 0) hb
      simpa using this
  · cases h

theorem ok_box (hρ : OpRel X L w ρ ρc) {o : Oper} {e : Nat} {x : Operand} (ho : o.op = .box e x) {blk : Blk} {mk : Nat → AV} (h : aNew tb ρ (.box e x) = some (blk, mk)) : NewOK P X L w ρc o blk mk := by
  simp only [aNew, nAlloc, nBox, nBuild, nMake] at h
  split at h
  · rename_i hs
    cases h
    refine ⟨.pointer (some ⟨w.heap.size, 0, none⟩), .cells (ρc x).cells e, (ρc x).cells.size, 0, ?_, fun L' b hb hE => ⟨?_, new_cells ((hρ x).cells hs) hE⟩⟩
    · simp [execOp, ho, Instr.box, newVar, newRow]
    · have := VRel.ptr (X := X) (w := w.alloc (.cells (ρc x).cells e)) (off := 0) hb
      simpa using this
  · cases h

theorem ok_makeMap {o : Oper} {t : Nat} (ho : o.op = .makeMap t none) {blk : Blk} {mk : Nat → AV} (h : aNew tb ρ (.makeMap t none) = some (blk, mk)) : NewOK P X L w ρc o blk mk := by
  simp only [aNew, nAlloc, nBox, nBuild, nMake] at h
  cases h
  refine ⟨.map (some w.heap.size), .map #[] 0, 0, 0, ?_, fun L' b hb hE => ⟨.map hb, #[], 0, alloc_get _ _, .nil⟩⟩
  simp [execOp, ho, Instr.makeMap]

theorem repeatL_length (z : List AV) (n : Nat) : (repeatL z n).length = n * z.length := by
  induction n with
  | zero => simp [repeatL]
  | succ n ih => simp [repeatL, ih, Nat.succ_mul, Nat.add_comm]
theorem repeatL_get (z : List AV) (hz : 0 < z.length) (n j : Nat) (hj : j < n * z.length) : (repeatL z n)[j]? = z[j % z.length]? := by
  induction n generalizing j with
  | zero => simp at hj
  | succ n ih =>
    simp only [repeatL]
    by_cases h : j < z.length
    · rw [List.getElem?_append_left h, Nat.mod_eq_of_lt h]
    · rw [List.getElem?_append_right (by omega), ih _ (by rw [Nat.succ_mul] at hj; omega), ← Nat.mod_eq_sub_mod (by omega)]
theorem zeros_ok {z : List AV} {zc : Array Value} (h : VRels X L w z zc.toList) (hz : 0 < z.length) (n : Nat) : VRels X L w (repeatL z n) ((Array.range (n * zc.size)).map (fun i => zc[i % zc.size]!)).toList := by
  have hl : z.length = zc.size := by simpa using h.1
  refine ⟨by rw [repeatL_length]; simp [hl], fun j v x h1 h2 => ?_⟩
  obtain ⟨hj, -⟩ := List.getElem?_eq_some_iff.1 h1
  rw [repeatL_length] at hj
  rw [repeatL_get z hz n j hj] at h1
  have hm : j % zc.size < zc.size := Nat.mod_lt _ (by omega)
  simp only [Array.toList_map, Array.toList_range, List.getElem?_map, Option.map_eq_some_iff] at h2
  obtain ⟨i, hi, rfl⟩ := h2
  obtain ⟨hr, hr2⟩ := List.getElem?_eq_some_iff.1 hi
  simp at hr2
  subst hr2
  rw [hl] at h1
  exact h.2 _ _ _ h1 (by rw [getElem!_pos zc (j % zc.size) hm]; simp [hm])

theorem ok_buildSlice (hT : TabOK P tb) (hρ : OpRel X L w ρ ρc) {o : Oper} {t len : Nat} {parts : Array (Nat × Operand)} (ho : o.op = .buildSlice t len parts) {blk : Blk} {mk : Nat → AV} (h : aNew tb ρ (.buildSlice t len parts) = some (blk, mk)) : NewOK P X L w ρc o blk mk := by
  simp only [aNew, nAlloc, nBox, nBuild, nMake] at h
  have hp := parts_rel hρ parts
  split at h
  · rename_i e hu
    split at h
    · rename_i size z hs hz
      split at h
      · rename_i hc
        obtain ⟨hc1, hc2⟩ := hc
        split at h
        · rename_i cs hf
          cases h
          obtain ⟨z', hz1, hz2⟩ := hT.run_zero hz w
          have hzc := zero_cells (X := X) (L := L) (w := w) hz2
          have hzl : z'.cells.size = size + 1 := by have := hzc.1; simp at this; omega
          have hzero := zeros_ok hzc (by omega) len
          obtain ⟨r', h1, h2⟩ := fill_ok _ _ _ _ _ hp.1 hp.2 hzero hf
          refine ⟨.slice (some ⟨w.heap.size, 0, none⟩) len len, .cells r' e, r'.size, size + 1, ?_, fun L' b hb hE => ⟨?_, new_cells h2 hE⟩⟩
          · have hlarge : ¬ (2 ^ 24 < len * (size + 1)) := by omega
            by_cases h0 : len * (size + 1) = 0
            · have hl0 : len = 0 := by rcases Nat.mul_eq_zero.1 h0 with h | h <;> omega
              subst hl0
              have hz0 : ∀ f : Nat → Value, (Array.range (0 * (size + 1))).map f = #[] := fun f => by simp
              have hz1' : ∀ f : Nat → Value, (Array.range (0 * z'.cells.size)).map f = #[] := fun f => by simp
              rw [hz1'] at h1
              simp only [execOp, ho, Instr.buildSlice, Sem.run_bind, hT.run_under hu, hT.run_size hs, Result.andThen_ok, gt_iff_lt, hlarge, if_false, h0, if_true, Sem.run_pure]
              have hz2' : ∀ f : Nat → Value, (Array.range 0).map f = #[] := fun f => by simp
              simp only [hz2', h1]
              rfl
            · rw [hzl] at h1
              simp only [execOp, ho, Instr.buildSlice, Sem.run_bind, hT.run_under hu, hT.run_size hs, Result.andThen_ok, gt_iff_lt, hlarge, if_false, h0, hz1, Sem.run_pure, hzl, h1]
              rfl
          · have hlen : r'.size = len * (size + 1) := by
              have e1 := h2.1
              have e2 : ∀ (place : Nat → Option (Nat × Nat)) (cells : List AV) (parts : List (Nat × AV)) (r : List AV), aFill place cells parts = some r → r.length = cells.length := by
                intro place cells parts
                induction parts generalizing cells with
                | nil => intro r h; simp [aFill] at h; subst h; rfl
                | cons p ps ih =>
                  intro r h
                  obtain ⟨i, v⟩ := p
                  simp only [aFill] at h
                  split at h
                  · cases h
                  · split at h
                    · rw [ih _ _ h, setL_length]
                    · cases h
              have e3 := e2 _ _ _ _ hf
              rw [repeatL_length, hc1] at e3
              simp at e1
              omega
            have := VRel.sl (X := X) (w := w.alloc (.cells r' e)) (off := 0) (len := len) (sz := size + 1) (cap' := len) hb (Nat.le_refl _) (by omega)
            simpa using this
        · cases h
      · cases h
    · cases h
  · cases h

theorem ok_makeSlice (hT : TabOK P tb) (hρ : OpRel X L w ρ ρc) {o : Oper} {t : Nat} {l c : Operand} (ho : o.op = .makeSlice t l c) {blk : Blk} {mk : Nat → AV} (h : aNew tb ρ (.makeSlice t l c) = some (blk, mk)) : NewOK P X L w ρc o blk mk := by
  simp only [aNew, nAlloc, nBox, nBuild, nMake] at h
  have hl := hρ l
  have hcc := hρ c
  split at h
  · rename_i e k n k' m hu hr1 hr2
    split at h
    · rename_i z i hz hi
      split at h
      · rename_i hc
        obtain ⟨hc1, hc2, hc3, hc4, hc5⟩ := hc
        subst hc1
        cases h
        rw [hr1] at hl
        rw [hr2] at hcc
        have e1 := hl.int_inv
        have e2 := hcc.int_inv
        obtain ⟨z', hz1, hz2⟩ := hT.run_zero hz w
        have hzc := zero_cells (X := X) (L := L) (w := w) hz2
        have hzl : z'.cells.size = i.size := by have := hzc.1; simp at this; omega
        have hzero := zeros_ok hzc (by omega) n
        have hw : IntKind.i64.wrap (n : Int) = n := by
          rw [← wrapI_eq]
          have blt : Nat.blt n 9223372036854775808 = true := by rw [Nat.blt_eq]; exact hc5
          show (bif Nat.blt n 9223372036854775808 then (Int.ofNat n) else _) = _
          rw [blt]; rfl
        have hsz : (sizeOf e).run P w = .ok i.size w := hT.run_size (by simp [Tab.size, hi]) w
        refine ⟨.slice (some ⟨w.heap.size, 0, none⟩) n n, .cells ((Array.range (n * z'.cells.size)).map (fun i => z'.cells[i % z'.cells.size]!)) e, ((Array.range (n * z'.cells.size)).map (fun i => z'.cells[i % z'.cells.size]!)).size, i.size, ?_, fun L' b hb hE => ⟨?_, new_cells hzero hE⟩⟩
        · have hb1 : ¬ (2 ^ 48 < (i.bytes : Int) * (n : Int)) := by
            have h3 : ((i.bytes * n : Nat) : Int) ≤ ((281474976710656 : Nat) : Int) := Int.ofNat_le.2 hc4
            rw [Int.natCast_mul] at h3
            have h4 : ((281474976710656 : Nat) : Int) = 2 ^ 48 := by decide
            omega
          have hn0 : ¬ ((n : Int) < 0) := by omega
          have hms : (Instr.makeSlice t (.int k (n : Int)) (.int k' (n : Int))).run P w = .ok (.slice (some ⟨w.heap.size, 0, none⟩) n n) (w.alloc (.cells ((Array.range (n * z'.cells.size)).map (fun i => z'.cells[i % z'.cells.size]!)) e)) := by
            unfold Instr.makeSlice
            simp only [Sem.run_bind, hT.run_under hu, Result.andThen_ok, asInt, asIntOf, Sem.run_pure, hT.run_info hi]
            rw [hw]
            have hc : (decide ((n : Int) < 0) || decide ((i.bytes : Int) * (n : Int) > 2 ^ 48)) = false := by rw [decide_eq_false hn0, decide_eq_false hb1]; rfl
            simp only [hc, Bool.false_or]
            have hd : (decide ((n : Int) < 0) || decide ((n : Int) > (n : Int))) = false := by simp
            simp only [hd, Bool.false_eq_true, if_false]
            simp only [Sem.run_bind, run_askRoom, Result.andThen_ok, hsz, Int.toNat_natCast]
            by_cases h0 : n * i.size = 0
            · have hn : n = 0 := by rcases Nat.mul_eq_zero.1 h0 with h | h <;> omega
              subst hn
              have hz2' : ∀ f : Nat → Value, (Array.range 0).map f = #[] := fun f => by simp
              simp only [Nat.zero_mul, if_true, Sem.run_pure, Result.andThen_ok, hz2']
              rfl
            · simp only [h0, if_false, Sem.run_bind, hz1, Result.andThen_ok, Sem.run_pure, hzl]
              rfl
          have e1' : ρc l = .int k (n : Int) := e1
          have e2' : ρc c = .int k' (n : Int) := e2
          simp only [execOp, ho, e1', e2', Sem.run_bind, hms, Result.andThen_ok, Sem.run_pure]
        · have := VRel.sl (X := X) (w := w.alloc (.cells ((Array.range (n * z'.cells.size)).map (fun i => z'.cells[i % z'.cells.size]!)) e)) (off := 0) (len := n) (sz := i.size) (cap' := n) hb (Nat.le_refl _) (by simp [hzl])
          simpa using this
      · cases h
    · cases h
  · cases h

theorem aNew_ok (hT : TabOK P tb) (hρ : OpRel X L w ρ ρc) {o : Oper} {blk : Blk} {mk : Nat → AV} (h : aNew tb ρ o.op = some (blk, mk)) : NewOK P X L w ρc o blk mk := by
  cases ho : o.op <;> rw [ho] at h
  case alloc e => exact ok_alloc hT ho h
  case box e x => exact ok_box hρ ho h
  case buildSlice t len parts => exact ok_buildSlice hT hρ ho h
  case makeMap t r =>
    cases r with
    | none => exact ok_makeMap ho h
    | some r => simp [aNew, nAlloc, nBox, nBuild, nMake] at h
  case makeSlice t l c => exact ok_makeSlice hT hρ ho h
  all_goals simp [aNew, nAlloc, nBox, nBuild, nMake] at h
end
end Go.Sy

/- How the abstract heap and the world go on together. -/
set_option linter.unusedVariables false
set_option linter.unusedSimpArgs false
namespace Go.Sy

def Hp.set (h : Hp) (b : Nat) (x : Blk) : Hp := fun i => if i = b then some x else h i
def Loc.set (L : Loc) (b : Nat) (s : Stat) : Loc := fun i => if i = b then s else L i

theorem St.new_hp (st : St) (x : Blk) : (st.new x).hp = Hp.set st.hp st.next x := by
  have blt (a b : Nat) : Nat.blt a b = decide (a < b) := by rw [Bool.eq_iff_iff]; simp [Nat.blt_eq]
  funext i
  simp only [St.hp, St.new, St.get, Hp.set, T.get?_set, blt]
  by_cases h : i = st.next
  · subst h; simp
  · by_cases h2 : i < st.next
    · have h3 : i < st.next + 1 := by omega
      simp [h, h2, h3]
    · have h3 : ¬ i < st.next + 1 := by omega
      simp [h, h2, h3]
theorem St.put_hp (st : St) (b : Nat) (x : Blk) (o n : Nat) (hb : b < st.next) : (st.put b x o n).hp = Hp.set st.hp b x := by
  have blt (a b : Nat) : Nat.blt a b = decide (a < b) := by rw [Bool.eq_iff_iff]; simp [Nat.blt_eq]
  funext i
  simp only [St.hp, St.put, St.get, Hp.set, T.get?_set, blt]
  by_cases h : i = b
  · subst h; simp [hb]
  · by_cases h2 : i < st.next <;> simp [h, h2]
theorem St.alive_lt {st : St} {b : Nat} (h : (st.get b).alive = true) : b < st.next := by
  have blt (a b : Nat) : Nat.blt a b = decide (a < b) := by rw [Bool.eq_iff_iff]; simp [Nat.blt_eq]
  simp only [St.get, blt] at h
  by_cases h2 : b < st.next
  · exact h2
  · simp [h2, Blk.alive] at h
theorem St.hp_some {st : St} {b : Nat} (h : (st.get b).alive = true) : st.hp b = some (st.get b) := by
  simp [St.hp, St.alive_lt h]

section
variable {X : Nat → Prop} {L : Loc} {h : Hp} {w : World}

theorem HRel.at (H : HRel X L h w) {b : Nat} {x : Blk} (hb : h b = some x) (ha : x.alive = true) : ∃ c o cap sz, L b = .live c o cap sz ∧ BRel X L w c o cap sz x := H.blk b x hb ha

theorem memAt_of {st : St} (H : HRel X L st.hp w) {e : Nat × Nat × Nat} (ha : (st.get e.1).alive = true) : MemAt X L w st e := by
  obtain ⟨c, o, cap, sz, h1, h2⟩ := H.at (St.hp_some ha) ha
  refine ⟨c, o, cap, sz, h1, ?_⟩
  split
  · rename_i cs hcs
    rw [hcs] at h2
    obtain ⟨arr, t, k1, k2, k3, k4⟩ := h2
    refine ⟨arr, t, k1, fun j v hj1 hj2 hv => ?_⟩
    obtain ⟨x, hx1, hx2⟩ := k4.get hv
    rw [List.getElem?_take] at hx1
    split at hx1
    · rw [List.getElem?_drop, Array.getElem?_toList] at hx1
      exact ⟨x, hx1, hx2⟩
    · cases hx1
  · rename_i es hes
    rw [hes] at h2
    exact h2
  · trivial

/-- the world may draw -/
theorem Ext.ofEq {w' : World} (h1 : w'.heap = w.heap) (h2 : w'.os = w.os) (h3 : w'.tape = w.tape) (h4 : w'.output = w.output) : Ext L w L w' :=
  ⟨by rw [h1]; exact Nat.le_refl _, fun c _ _ => by rw [h1], fun b _ => .inl rfl, fun c hc => .inl hc, h2, h3, h4⟩
theorem HRel.same (H : HRel X L h w) {w' : World} (h1 : w'.heap = w.heap) (h2 : w'.os = w.os) (h3 : w'.tape = w.tape) (h4 : w'.output = w.output) : HRel X L h w' := by
  have hE := Ext.ofEq (L := L) h1 h2 h3 h4
  refine ⟨H.out, H.dead, fun b x hb ha => ?_, H.inj, fun c hc => by rw [h1]; exact H.lt c hc, H.far, fun c hc => by rw [h1]; exact H.xlt c hc⟩
  obtain ⟨c, o, cap, sz, k1, k2⟩ := H.blk b x hb ha
  exact ⟨c, o, cap, sz, k1, k2.mono hE (by rw [h1])⟩

/-- a block more -/
theorem Ext.new (H : HRel X L h w) {b : Nat} (hb : h b = none) (o : Obj) {cap sz : Nat} : Ext L w (Loc.set L b (.live w.heap.size 0 cap sz)) (w.alloc o) := by
  have hab := H.out b hb
  refine ⟨by simp, fun c hc _ => heap_alloc_old w o c hc, fun i hi => ?_, fun c hc => ?_, rfl, rfl, rfl⟩
  · by_cases e : i = b
    · subst e; exact absurd hab hi
    · exact .inl (by simp [Loc.set, e])
  · obtain ⟨i, o', cap', sz', hi⟩ := hc
    by_cases e : i = b
    · simp only [Loc.set, e, if_true] at hi
      cases hi
      exact .inr (Nat.le_refl _)
    · simp only [Loc.set, e, if_false] at hi
      exact .inl ⟨i, o', cap', sz', hi⟩
theorem HRel.new (H : HRel X L h w) {b : Nat} (hb : h b = none) {o : Obj} {cap sz : Nat} {x : Blk} (hx : x.alive = true) (hB : BRel X (Loc.set L b (.live w.heap.size 0 cap sz)) (w.alloc o) w.heap.size 0 cap sz x) :
    HRel X (Loc.set L b (.live w.heap.size 0 cap sz)) (Hp.set h b x) (w.alloc o) := by
  have hE := Ext.new H hb o (cap := cap) (sz := sz)
  refine ⟨fun i hi => ?_, fun i hi => ?_, fun i y hi hy => ?_, fun i j c o1 cap1 sz1 o2 cap2 sz2 hi hj => ?_, fun c hc => ?_, fun c hc => ?_, fun c hc => Nat.lt_of_lt_of_le (H.xlt c hc) (by simp)⟩
  · by_cases e : i = b
    · simp [Hp.set, e] at hi
    · simp only [Hp.set, e, if_false] at hi; simp only [Loc.set, e, if_false]; exact H.out i hi
  · by_cases e : i = b
    · simp only [Hp.set, e, if_true, Option.some.injEq] at hi; subst hi; simp [Blk.alive] at hx
    · simp only [Hp.set, e, if_false] at hi; simp only [Loc.set, e, if_false]; exact H.dead i hi
  · by_cases e : i = b
    · simp only [Hp.set, e, if_true, Option.some.injEq] at hi; subst hi; exact ⟨_, _, _, _, by simp [Loc.set, e], hB⟩
    · simp only [Hp.set, e, if_false] at hi
      obtain ⟨c, o1, cap1, sz1, k1, k2⟩ := H.blk i y hi hy
      refine ⟨c, o1, cap1, sz1, by simp only [Loc.set, e, if_false]; exact k1, k2.mono hE (heap_alloc_old w o c (H.lt c ⟨i, _, _, _, k1⟩))⟩
  · by_cases e : i = b <;> by_cases e' : j = b
    · rw [e, e']
    · simp only [Loc.set, e, e', if_true, if_false] at hi hj
      cases hi
      have := H.lt _ ⟨j, _, _, _, hj⟩
      omega
    · simp only [Loc.set, e, e', if_true, if_false] at hi hj
      cases hj
      have := H.lt _ ⟨i, _, _, _, hi⟩
      omega
    · simp only [Loc.set, e, e', if_false] at hi hj
      exact H.inj i j c o1 cap1 sz1 o2 cap2 sz2 hi hj
  · rcases hE.own c hc with k | k
    · have := H.lt c k; simp; omega
    · obtain ⟨i, o1, cap1, sz1, hi⟩ := hc
      by_cases e : i = b
      · simp only [Loc.set, e, if_true] at hi; cases hi; simp
      · simp only [Loc.set, e, if_false] at hi
        have := H.lt c ⟨i, _, _, _, hi⟩; simp; omega
  · obtain ⟨i, o1, cap1, sz1, hi⟩ := hc
    by_cases e : i = b
    · simp only [Loc.set, e, if_true] at hi
      cases hi
      intro hX
      have := H.xlt _ hX
      omega
    · simp only [Loc.set, e, if_false] at hi
      exact H.far c ⟨i, _, _, _, hi⟩

/-- a block written -/
theorem Ext.put {w' : World} {b c o cap sz : Nat} (hL : L b = .live c o cap sz) (hs : w'.heap.size = w.heap.size) (hsame : ∀ k, k ≠ c → w'.heap[k]? = w.heap[k]?) (h2 : w'.os = w.os) (h3 : w'.tape = w.tape) (h4 : w'.output = w.output) : Ext L w L w' :=
  ⟨by omega, fun k _ hk => hsame k (fun e => hk (e ▸ ⟨b, o, cap, sz, hL⟩)), fun _ _ => .inl rfl, fun _ h => .inl h, h2, h3, h4⟩
theorem HRel.put (H : HRel X L h w) {w' : World} {b c o cap sz : Nat} (hL : L b = .live c o cap sz) (hs : w'.heap.size = w.heap.size) (hsame : ∀ k, k ≠ c → w'.heap[k]? = w.heap[k]?) (h2 : w'.os = w.os) (h3 : w'.tape = w.tape) (h4 : w'.output = w.output)
    {x : Blk} (hx : x.alive = true) (hB : BRel X L w' c o cap sz x) : HRel X L (Hp.set h b x) w' := by
  have hE := Ext.put (L := L) hL hs hsame h2 h3 h4
  refine ⟨fun i hi => ?_, fun i hi => ?_, fun i y hi hy => ?_, H.inj, fun c hc => by rw [hs]; exact H.lt c hc, H.far, fun c hc => by rw [hs]; exact H.xlt c hc⟩
  · by_cases e : i = b
    · simp [Hp.set, e] at hi
    · simp only [Hp.set, e, if_false] at hi; exact H.out i hi
  · by_cases e : i = b
    · simp only [Hp.set, e, if_true, Option.some.injEq] at hi; subst hi; simp [Blk.alive] at hx
    · simp only [Hp.set, e, if_false] at hi; exact H.dead i hi
  · by_cases e : i = b
    · simp only [Hp.set, e, if_true, Option.some.injEq] at hi; subst hi; subst e; exact ⟨_, _, _, _, hL, hB⟩
    · simp only [Hp.set, e, if_false] at hi
      obtain ⟨c1, o1, cap1, sz1, k1, k2⟩ := H.blk i y hi hy
      refine ⟨c1, o1, cap1, sz1, k1, k2.mono hE (hsame c1 fun ec => e ?_)⟩
      subst ec
      exact H.inj _ _ _ _ _ _ _ _ _ k1 hL

/-- a block given up -/
theorem Ext.kill {b : Nat} (hb : h b ≠ none) : Ext L w (Loc.set L b .dead) w := by
  refine ⟨Nat.le_refl _, fun _ _ _ => rfl, fun i hi => ?_, fun c hc => .inl ?_, rfl, rfl, rfl⟩
  · by_cases e : i = b
    · exact .inr (by simp [Loc.set, e])
    · exact .inl (by simp [Loc.set, e])
  · obtain ⟨i, o1, cap1, sz1, hi⟩ := hc
    by_cases e : i = b
    · simp [Loc.set, e] at hi
    · simp only [Loc.set, e, if_false] at hi; exact ⟨i, _, _, _, hi⟩
theorem HRel.kill (H : HRel X L h w) {b : Nat} (hb : h b ≠ none) : HRel X (Loc.set L b .dead) (Hp.set h b .dead) w := by
  have hE := Ext.kill (L := L) (w := w) hb
  have own : ∀ c, Owned (Loc.set L b .dead) c → Owned L c := fun c hc => by
    obtain ⟨i, o1, cap1, sz1, hi⟩ := hc
    by_cases e : i = b
    · simp [Loc.set, e] at hi
    · simp only [Loc.set, e, if_false] at hi; exact ⟨i, _, _, _, hi⟩
  refine ⟨fun i hi => ?_, fun i hi => ?_, fun i y hi hy => ?_, fun i j c o1 cap1 sz1 o2 cap2 sz2 hi hj => ?_, fun c hc => H.lt c (own c hc), fun c hc => H.far c (own c hc), H.xlt⟩
  · by_cases e : i = b
    · simp [Hp.set, e] at hi
    · simp only [Hp.set, e, if_false] at hi; simp only [Loc.set, e, if_false]; exact H.out i hi
  · by_cases e : i = b
    · simp [Loc.set, e]
    · simp only [Hp.set, e, if_false] at hi; simp only [Loc.set, e, if_false]; exact H.dead i hi
  · by_cases e : i = b
    · simp only [Hp.set, e, if_true, Option.some.injEq] at hi; subst hi; simp [Blk.alive] at hy
    · simp only [Hp.set, e, if_false] at hi
      obtain ⟨c1, o1, cap1, sz1, k1, k2⟩ := H.blk i y hi hy
      exact ⟨c1, o1, cap1, sz1, by simp only [Loc.set, e, if_false]; exact k1, k2.mono hE rfl⟩
  · by_cases e : i = b
    · simp [Loc.set, e] at hi
    · by_cases e' : j = b
      · simp [Loc.set, e'] at hj
      · simp only [Loc.set, e, e', if_false] at hi hj
        exact H.inj i j c o1 cap1 sz1 o2 cap2 sz2 hi hj
end
end Go.Sy

/- The operations that write. -/
set_option linter.unusedVariables false
set_option linter.unusedSimpArgs false
namespace Go.Sy

def AllObl (l : List Prop) : Prop := ∀ p ∈ l, p

theorem askC_ok {st st' : St} {r : Option (List AV)} {cs : List AV} (h : st.askC r = some (cs, st')) : (AllObl st'.obl → r = some cs) ∧ (AllObl st'.obl → AllObl st.obl) ∧ st'.heap = st.heap ∧ st'.next = st.next ∧ st'.log = st.log ∧ st'.cost = st.cost := by
  unfold St.askC at h
  split at h
  · rw [Bool.cond_eq_ite] at h
    split at h
    · cases h
      exact ⟨fun ho => ho _ (List.mem_cons_self ..), fun ho p hp => ho p (List.mem_cons_of_mem _ hp), rfl, rfl, rfl, rfl⟩
    · cases r with
      | none => simp at h
      | some v => simp at h; obtain ⟨rfl, rfl⟩ := h; exact ⟨fun _ => rfl, fun ho => ho, rfl, rfl, rfl, rfl⟩
  · cases r with
    | none => simp at h
    | some v => simp at h; obtain ⟨rfl, rfl⟩ := h; exact ⟨fun _ => rfl, fun ho => ho, rfl, rfl, rfl, rfl⟩
theorem askV_ok {st st' : St} {r : Option AV} {v : AV} (h : st.askV r = some (v, st')) : (AllObl st'.obl → r = some v) ∧ (AllObl st'.obl → AllObl st.obl) ∧ st'.heap = st.heap ∧ st'.next = st.next ∧ st'.log = st.log ∧ st'.cost = st.cost := by
  unfold St.askV at h
  split at h
  · rw [Bool.cond_eq_ite] at h
    split at h
    · cases h
      exact ⟨fun ho => ho _ (List.mem_cons_self ..), fun ho p hp => ho p (List.mem_cons_of_mem _ hp), rfl, rfl, rfl, rfl⟩
    · cases r with
      | none => simp at h
      | some v => simp at h; obtain ⟨rfl, rfl⟩ := h; exact ⟨fun _ => rfl, fun ho => ho, rfl, rfl, rfl, rfl⟩
  · cases r with
    | none => simp at h
    | some v => simp at h; obtain ⟨rfl, rfl⟩ := h; exact ⟨fun _ => rfl, fun ho => ho, rfl, rfl, rfl, rfl⟩
theorem hp_of_eq {st st' : St} (h1 : st'.heap = st.heap) (h2 : st'.next = st.next) : st'.hp = st.hp := by
  funext b; simp [St.hp, St.get, h1, h2]
theorem get_of_eq {st st' : St} (h1 : st'.heap = st.heap) (h2 : st'.next = st.next) (b : Nat) : st'.get b = st.get b := by
  simp [St.get, h1, h2]

/-! rows of cells written in place -/
theorem setL_row {α : Type} (l : List α) (o off n : Nat) (vs : List α) (h1 : o + n ≤ l.length) (h2 : off + vs.length ≤ n) :
    ((l.take (o + off) ++ vs ++ l.drop (o + off + vs.length)).drop o).take n = setL ((l.drop o).take n) off vs := by
  apply List.ext_getElem?
  intro j
  rw [setL_get _ _ _ _ (by simp; omega), List.getElem?_take]
  by_cases hj : j < n
  · rw [if_pos hj, List.getElem?_drop]
    by_cases h3 : off ≤ j ∧ j < off + vs.length
    · rw [if_pos h3, List.getElem?_append_left (by simp; omega), List.getElem?_append_right (by simp; omega)]
      congr 1; simp; omega
    · rw [if_neg h3, List.getElem?_take, if_pos hj, List.getElem?_drop]
      by_cases h4 : j < off
      · rw [List.getElem?_append_left (by simp; omega), List.getElem?_append_left (by simp; omega), List.getElem?_take, if_pos (by omega)]
      · rw [List.getElem?_append_right (by simp; omega), List.getElem?_drop]
        congr 1; simp; omega
  · rw [if_neg hj, if_neg (by omega), List.getElem?_take, if_neg hj]

section
variable {P : Program} {tb : Tab} {X : Nat → Prop} {L : Loc} {w : World} {st : St} {ρ : Operand → AV} {ρc : Operand → Value}

/-- cells written into a block that is owned -/
theorem store_block {h : Hp} (H : HRel X L h w) {b : Nat} {cs : List AV} (hb : h b = some (.cells cs)) {off : Nat} {vs : List AV} {xs : List Value} (hv : VRels X L w vs xs) {cs' : List AV} (hst : storeC cs off vs = some cs') :
    ∃ c o cap sz, L b = .live c o cap sz ∧ ∃ w', (storeCells ⟨c, o + off, none⟩ xs).run P w = .ok () w' ∧ Ext L w L w' ∧ HRel X L (Hp.set h b (.cells cs')) w' := by
  unfold storeC at hst
  split at hst
  · rename_i hc
    obtain ⟨hc1, hc2⟩ := hc
    cases hst
    obtain ⟨c, o, cap, sz, hl, arr, e, k1, k2, k3, k4⟩ := H.at hb rfl
    have hone : ∀ x ∈ xs, x.oneCell' = true := by
      intro x hx
      obtain ⟨j, hj⟩ := List.getElem?_of_mem hx
      obtain ⟨hjl, -⟩ := List.getElem?_eq_some_iff.1 hj
      have hjv : j < vs.length := by have := hv.1; omega
      exact (hv.2 j vs[j] x (List.getElem?_eq_getElem hjv) hj).one (List.all_eq_true.1 hc1 _ (List.getElem_mem hjv))
    have hlen : vs.length = xs.length := hv.1
    have hrun := run_storeCells_at P c (o + off) e xs 0 arr w k1 (by omega) hone
    simp only [Nat.add_zero] at hrun
    refine ⟨c, o, cap, sz, hl, _, hrun, ?_, ?_⟩
    · exact Ext.put hl (by simp) (fun k hk => setRow_other w c k _ hk) rfl rfl rfl
    · refine H.put hl (by simp) (fun k hk => setRow_other w c k _ hk) rfl rfl rfl rfl ?_
      have hE := Ext.put (w := w) (w' := w.setRow c (arr.toList.take (o + off) ++ xs ++ arr.toList.drop (o + off + xs.length)).toArray) hl (by simp) (fun k hk => setRow_other w c k _ hk) rfl rfl rfl
      refine ⟨_, e, setRow_heap w c arr _ e _ k1, ?_, by rw [setL_length]; exact k3, ?_⟩
      · simp; omega
      · rw [setL_length]
        simp only [List.toList_toArray]
        rw [setL_row _ _ _ _ _ (by simp; omega) (by omega)]
        exact (k4.setL hv off hc2).mono hE
  · cases hst

def EffOK (P : Program) (X : Nat → Prop) (L : Loc) (w : World) (ρc : Operand → Value) (o : Oper) (v : AV) (st' : St) : Prop :=
  ∃ nx x w' L', (execOp ρc o).run P w = .ok nx w' ∧ (nx = .value x ∨ (nx = .skip ∧ x = undef)) ∧ Ext L w L' w' ∧ HRel X L' st'.hp w' ∧ VRel X L' w' v x

theorem undef_rel : VRel X L w undefA undef := VRel.tup_mk (cs := #[]) VRels.nil

theorem eff_store (hT : TabOK P tb) (H : HRel X L st.hp w) (hρ : OpRel X L w ρ ρc) {o : Oper} {t : Nat} {a x : Operand} (ho : o.op = .store t a x) {v : AV} {st' : St} (h : aEff tb st ρ (.store t a x) = .val v st') (hobl : AllObl st'.obl) : EffOK P X L w ρc o v st' := by
  have ha := hρ a
  have hx := hρ x
  simp only [aEff, eStore, eMap, eCall, eDefer, ePanic] at h
  split at h
  · rename_i b off size hr hs
    split at h
    · rename_i cs hb
      split at h
      · rename_i hc
        obtain ⟨hc1, hc2⟩ := hc
        split at h
        · rename_i cs' st1 hask
          cases h
          obtain ⟨q1, q2, q3, q4, q5, q6⟩ := askC_ok hask
          have hal : (st.get b).alive = true := by rw [hb]; rfl
          have hbn := St.alive_lt hal
          have hhp : st.hp b = some (.cells cs) := by rw [St.hp_some hal, hb]
          have hcells := hx.cells hc1
          obtain ⟨c, oo, cap, sz, hl, w', hrun, hE, hH⟩ := store_block (P := P) H hhp hcells (q1 hobl)
          rw [hr] at ha
          have e := ha.ptr_live hl
          refine ⟨.skip, undef, w', L, ?_, .inr ⟨rfl, rfl⟩, hE, ?_, undef_rel⟩
          · have hsz : (ρc x).cells.size = size := by have := hcells.1; simp at this; omega
            simp only [execOp, ho, e, Instr.storeAt, Instr.sureAddr, storeVar, Sem.run_bind, Sem.run_pure, Result.andThen_ok, hT.run_size hs, hsz, ne_eq, not_true_eq_false, if_false, hrun]
          · rw [St.put_hp _ _ _ _ _ (by rw [q4]; exact hbn), hp_of_eq q3 q4]
            exact hH
        · cases h
      · cases h
    · cases h
  · cases h

/-! maps -/
theorem ERels.set {k : Int} {v : AV} {x : Value} (hv : VRel X L w v x) : ∀ (es : List (Int × AV)) (fs : List MapEntry) (kd : IntKind), ERels X L w es fs → ∀ (i clock : Nat),
    (∀ j y, Instr.findNow (.int kd) (.int .i64 k) fs i = some (some (j, y)) → i ≤ j ∧ j - i < fs.length ∧ ((fs[j - i]?).map (·.key)) = some (.int .i64 k) ∧ ERels X L w (setM k v es) (fs.modify (j - i) fun e => { e with key := .int .i64 k, val := x })) ∧
    (Instr.findNow (.int kd) (.int .i64 k) fs i = some none → ERels X L w (setM k v es) (fs ++ [{ key := .int .i64 k, val := x, born := clock }])) ∧
    (∃ r, Instr.findNow (.int kd) (.int .i64 k) fs i = some r) := by
  intro es fs kd h
  induction h with
  | nil =>
    intro i clock
    exact ⟨fun j y hj => by simp [Instr.findNow] at hj, fun _ => .cons rfl hv .nil, none, by simp [Instr.findNow]⟩
  | @cons k' u e es fs h1 h2 h3 ih =>
    intro i clock
    by_cases hk : k' = k
    · subst hk
      have hf : Instr.findNow (.int kd) (.int .i64 k') (e :: fs) i = some (some (i, e.val)) := by simp [Instr.findNow, h1, Instr.sameNow]
      refine ⟨fun j y hj => ?_, fun hn => by rw [hf] at hn; simp at hn, _, hf⟩
      rw [hf] at hj
      simp at hj
      obtain ⟨rfl, rfl⟩ := hj
      refine ⟨Nat.le_refl _, by simp, by simp [h1], ?_⟩
      simp only [setM, if_true, Nat.sub_self, List.modify_zero_cons]
      exact .cons rfl hv h3
    · have hb : (k == k') = false := by simp [Ne.symm hk]
      have hf : Instr.findNow (.int kd) (.int .i64 k) (e :: fs) i = Instr.findNow (.int kd) (.int .i64 k) fs (i + 1) := by simp [Instr.findNow, h1, Instr.sameNow, hb]
      obtain ⟨a1, a2, a3⟩ := ih (i + 1) clock
      refine ⟨fun j y hj => ?_, fun hn => ?_, by rw [hf]; exact a3⟩
      · rw [hf] at hj
        obtain ⟨b1, b2, b3, b4⟩ := a1 j y hj
        have hji : j - i = (j - (i + 1)) + 1 := by omega
        refine ⟨by omega, by simp; omega, by rw [hji]; simpa using b3, ?_⟩
        rw [hji]
        simp only [setM, hk, if_false, List.modify_succ_cons]
        exact .cons h1 h2 b4
      · rw [hf] at hn
        simp only [setM, hk, if_false, List.cons_append]
        exact .cons h1 h2 (a2 hn)

theorem run_setObj {r : Nat} {o1 o2 : Obj} (h : w.heap[r]? = some o1) (hc : ∀ a b c, o1 ≠ .cells a b c) : (setObj r o2).run P w = .ok () { w with heap := w.heap.setIfInBounds r o2 } := by
  simp only [setObj, Sem.run, h]

theorem eff_map (hT : TabOK P tb) (H : HRel X L st.hp w) (hρ : OpRel X L w ρ ρc) {o : Oper} {t : Nat} {m k x : Operand} (ho : o.op = .mapUpdate t m k x ∨ o.op = .insert t m k x) {v : AV} {st' : St} (h : aEff tb st ρ (.mapUpdate t m k x) = .val v st') : EffOK P X L w ρc o v st' := by
  have hm := hρ m
  have hk := hρ k
  have hx := hρ x
  simp only [aEff, eStore, eMap, eCall, eDefer, ePanic] at h
  split at h
  · rename_i kt e hu
    split at h
    · rename_i kd b kk hkt hr hrk
      split at h
      · rename_i es hb
        cases h
        have hal : (st.get b).alive = true := by rw [hb]; rfl
        have hbn := St.alive_lt hal
        have hhp : st.hp b = some (.map es) := by rw [St.hp_some hal, hb]
        obtain ⟨c, oo, cap, sz, hl, fs, clock, k1, k2⟩ := H.at hhp rfl
        rw [hr] at hm
        rw [hrk] at hk
        have em := hm.map_live hl
        have ek := hk.int_inv
        obtain ⟨a1, a2, r, hr3⟩ := ERels.set hx es fs.toList kd k2 0 clock
        have hg : (getObj c).run P w = .ok (.map fs clock) w := by simp [getObj, Sem.run, k1]
        have main : ∀ fs' clock', (Instr.mapUpdate t (.map (some c)) (.int .i64 kk) (ρc x)).run P w = .ok () { w with heap := w.heap.setIfInBounds c (.map fs' clock') } → ERels X L w (setM kk (ρ x) es) fs'.toList → EffOK P X L w ρc o undefA (st.put b (.map (setM kk (ρ x) es)) 0 whole) := by
          intro fs' clock' hrun hE'
          have hsz : ({ w with heap := w.heap.setIfInBounds c (.map fs' clock') } : World).heap.size = w.heap.size := by simp
          have hoth : ∀ j, j ≠ c → ({ w with heap := w.heap.setIfInBounds c (.map fs' clock') } : World).heap[j]? = w.heap[j]? := by
            intro j hj; simp [Array.getElem?_setIfInBounds, Ne.symm hj]
          have hE := Ext.put (w := w) (w' := { w with heap := w.heap.setIfInBounds c (.map fs' clock') }) hl hsz hoth rfl rfl rfl
          refine ⟨.skip, undef, _, L, ?_, .inr ⟨rfl, rfl⟩, hE, ?_, undef_rel⟩
          · rcases ho with ho | ho <;> simp only [execOp, ho, em, ek, Sem.run_bind, hrun, Result.andThen_ok, Sem.run_pure]
          · rw [St.put_hp _ _ _ _ _ hbn]
            refine H.put hl hsz hoth rfl rfl rfl rfl ⟨fs', clock', ?_, hE'.mono hE⟩
            obtain ⟨hcl, -⟩ := Array.getElem?_eq_some_iff.1 k1
            simp [hcl]
        have hpre : ∀ K, (Instr.mapUpdate t (.map (some c)) (.int .i64 kk) (ρc x)).run P w = K → K = K := fun _ _ => rfl
        cases r with
        | none =>
          refine main (fs.push { key := .int .i64 kk, val := ρc x, born := clock }) (clock + 1) ?_ (by simpa using a2 hr3)
          simp only [Instr.mapUpdate, Sem.run_bind, hT.run_under hu, Result.andThen_ok, hg, run_checkKey hT hkt, Instr.findKey, hT.run_under hkt, hr3, Sem.run_pure]
          exact run_setObj k1 (by simp)
        | some p =>
          obtain ⟨j, y⟩ := p
          obtain ⟨b1, b2, b3, b4⟩ := a1 j y hr3
          simp only [Nat.sub_zero] at b2 b3 b4
          refine main (fs.modify j fun e => { e with key := .int .i64 kk, val := ρc x }) clock ?_ (by rw [Array.toList_modify]; exact b4)
          have hkey : ((fs[j]?).map (·.key)) = some (.int .i64 kk) := by rw [← Array.getElem?_toList]; exact b3
          have hsame : ∀ n, Instr.sameBits (n + 1) (.int .i64 kk) (.int .i64 kk) = true := fun n => by simp [Instr.sameBits]
          have hstay : (Instr.keyThatStays (.int .i64 kk) (.int .i64 kk)).run P w = .ok (.int .i64 kk) w := by
            unfold Instr.keyThatStays
            rw [if_pos (hsame 9999)]
            rfl
          simp only [Instr.mapUpdate, Sem.run_bind, hT.run_under hu, Result.andThen_ok, hg, run_checkKey hT hkt, Instr.findKey, hT.run_under hkt, hr3, Sem.run_pure, hkey, Option.getD_some, hstay]
          exact run_setObj k1 (by simp)
      · cases h
    · cases h
  · cases h
end
end Go.Sy
