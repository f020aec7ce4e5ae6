/- An operation looks at nothing but its operands. -/
import Derived.Test.YtapfloegpaadgaaGreatSyLin
set_option linter.unusedVariables false
set_option linter.unusedSimpArgs false
namespace Go.Sy

section
variable {tb : Tab} {st : St} {ρ ρ' : Operand → AV}
theorem map_ops {xs : Array Operand} (h : ∀ x ∈ xs, ρ x = ρ' x) : xs.toList.map ρ = xs.toList.map ρ' :=
  List.map_congr_left fun x hx => h x (Array.mem_toList_iff.1 hx)
theorem map_parts {ps : Array (Nat × Operand)} (h : ∀ x ∈ (ps.toList.map (·.2)).toArray, ρ x = ρ' x) : (ps.toList.map fun (i, x) => (i, ρ x)) = ps.toList.map fun (i, x) => (i, ρ' x) := by
  refine List.map_congr_left fun p hp => ?_
  obtain ⟨i, x⟩ := p
  have : ρ x = ρ' x := h x (by simp; exact ⟨i, by simpa using hp⟩)
  simp [this]
theorem map_opt {x : Option Operand} (h : ∀ y ∈ x.toArray, ρ y = ρ' y) : x.map ρ = x.map ρ' := by
  cases x with
  | none => rfl
  | some y => simp [h y (by simp)]

theorem aVal_congr {op : Op} (h : ∀ x ∈ op.operands, ρ x = ρ' x) : aVal tb st ρ op = aVal tb st ρ' op := by
  cases op <;> simp only [aVal]
  case move x => simp [h x (by simp [Op.operands])]
  case assign x => simp [h x (by simp [Op.operands])]
  case pick c a b => simp [vPick, h c (by simp [Op.operands]), h a (by simp [Op.operands]), h b (by simp [Op.operands])]
  case build t ps => simp only [vBuild, map_parts (ρ := ρ) (ρ' := ρ') (ps := ps) (by simpa [Op.operands] using h)]
  case load t x => simp only [vLoad, h x (by simp [Op.operands])]
  case nilCheck x => simp only [vNil, h x (by simp [Op.operands])]
  case binOp op t x y u => simp only [h x (by simp [Op.operands]), h y (by simp [Op.operands])]
  case unOp op t x => simp only [h x (by simp [Op.operands])]
  case convert s d x => simp only [vConv, h x (by simp [Op.operands])]
  case makeInterface t x => simp only [vIface, h x (by simp [Op.operands])]
  case makeFunc f first cap =>
    cases f <;> simp only [aVal]
    rw [map_ops (xs := first) (fun x hx => h x (by simp [Op.operands, hx])), map_ops (xs := cap) (fun x hx => h x (by simp [Op.operands, hx]))]
  case slice t x lo hi mx =>
    have h1 : ρ x = ρ' x := h x (by simp [Op.operands])
    have h2 := map_opt (ρ := ρ) (ρ' := ρ') (x := lo) (fun y hy => h y (by simp only [Op.operands, Array.mem_append]; exact .inl (.inl (.inr hy))))
    have h3 := map_opt (ρ := ρ) (ρ' := ρ') (x := hi) (fun y hy => h y (by simp only [Op.operands, Array.mem_append]; exact .inl (.inr hy)))
    have h4 := map_opt (ρ := ρ) (ρ' := ρ') (x := mx) (fun y hy => h y (by simp only [Op.operands, Array.mem_append]; exact .inr hy))
    simp only [vSlice, h1, h2, h3, h4]
  case fieldAddr t x i => simp only [vFieldAddr, h x (by simp [Op.operands])]
  case field t x i => simp only [vField, h x (by simp [Op.operands])]
  case indexAddr t x i => simp only [vIndexAddr, h x (by simp [Op.operands]), h i (by simp [Op.operands])]
  case index t x i => simp only [vIndex, h x (by simp [Op.operands]), h i (by simp [Op.operands])]
  case lookup t x i ok => simp only [vLookup, h x (by simp [Op.operands]), h i (by simp [Op.operands])]
  case typeAssert x s t ok =>
    cases ok <;> simp only [aVal]
    simp only [vAssert, h x (by simp [Op.operands])]
  case extract t i => simp only [vExtract, h t (by simp [Op.operands])]
  case call c =>
    have : c.args.toList.map ρ = c.args.toList.map ρ' := map_ops fun x hx => h x (by simp [Op.operands, Call.operands, hx])
    simp only [vCall, this]
theorem touches_congr {op : Op} (h : ∀ x ∈ op.operands, ρ x = ρ' x) : touches tb ρ op = touches tb ρ' op := by
  cases op <;> simp only [touches]
  case load t x => simp only [tLoad, h x (by simp [Op.operands])]
  case nilCheck x => simp only [h x (by simp [Op.operands])]
  case binOp op t x y u => simp only [h x (by simp [Op.operands]), h y (by simp [Op.operands])]
  case slice t x lo hi mx => simp only [h x (by simp [Op.operands])]
  case fieldAddr t x i => simp only [h x (by simp [Op.operands])]
  case indexAddr t x i => simp only [h x (by simp [Op.operands])]
  case lookup t x i ok => simp only [h x (by simp [Op.operands])]
  case call c =>
    have : c.args.toList.map ρ = c.args.toList.map ρ' := map_ops fun x hx => h x (by simp [Op.operands, Call.operands, hx])
    simp only [this]
theorem aNew_congr {op : Op} (h : ∀ x ∈ op.operands, ρ x = ρ' x) : aNew tb ρ op = aNew tb ρ' op := by
  cases op <;> simp only [aNew]
  case box t x => simp only [h x (by simp [Op.operands])]
  case buildSlice t n ps => simp only [nBuild, map_parts (ρ := ρ) (ρ' := ρ') (ps := ps) (by simpa [Op.operands] using h)]
  case makeSlice t l c => simp only [nMake, h l (by simp [Op.operands]), h c (by simp [Op.operands])]
  case makeMap t r => cases r <;> simp only [aNew]
theorem aEff_congr {op : Op} (h : ∀ x ∈ op.operands, ρ x = ρ' x) : aEff tb st ρ op = aEff tb st ρ' op := by
  cases op <;> simp only [aEff]
  case store t a x => simp only [eStore, h a (by simp [Op.operands]), h x (by simp [Op.operands])]
  case mapUpdate t m k x => simp only [eMap, h m (by simp [Op.operands]), h k (by simp [Op.operands]), h x (by simp [Op.operands])]
  case insert t m k x => simp only [eMap, h m (by simp [Op.operands]), h k (by simp [Op.operands]), h x (by simp [Op.operands])]
  case panic x => simp only [h x (by simp [Op.operands])]
  case call c =>
    have h1 : c.args.toList.map ρ = c.args.toList.map ρ' := map_ops fun x hx => h x (by simp [Op.operands, Call.operands, hx])
    unfold eCall
    split
    · rename_i f hf
      rw [h1, h f (by simp [Op.operands, Call.operands, hf])]
    · rw [h1]
    · rfl
  case defer c =>
    have h1 : c.args.toList.map ρ = c.args.toList.map ρ' := map_ops fun x hx => h x (by simp [Op.operands, Call.operands, hx])
    unfold eDefer
    split
    · rename_i f hf
      rw [h1, h f (by simp [Op.operands, Call.operands, hf])]
    · rfl
end

section
variable {tb : Tab} {rec : Cmd → St → Ex}
/-- an effect in a frame with other temporaries -/
def Eff.withT (e : Eff) (t : T AV) : Eff :=
  match e with
  | .val v fr bel st => .val v { fr with tmps := t } bel st
  | e => e
theorem evEff_tmps {o : Oper} {fr : Fr} {bel : Below} {st : St} {t : T AV} (h : ∀ x ∈ o.op.operands, fr.eval x = ({ fr with tmps := t } : Fr).eval x) :
    evEff tb rec o { fr with tmps := t } bel st = (evEff tb rec o fr bel st).withT t := by
  have hc : ∀ (f : Nat) (args : List AV) (st : St), evCall rec f args { fr with tmps := t } bel st = (evCall rec f args fr bel st).withT t := by
    intro f args st
    unfold evCall
    split <;> rfl
  have hy : ∀ (l : Nat) (args : List AV) (st : St), evYield tb rec l args { fr with tmps := t } bel st = (evYield tb rec l args fr bel st).withT t := by
    intro l args st
    unfold evYield
    repeat' split
    all_goals rfl
  unfold evEff
  rw [← aEff_congr h]
  split
  · rfl
  · split
    · rw [Bool.cond_eq_ite, Bool.cond_eq_ite]
      split
      · unfold toldCall
        split
        · split <;> rfl
        · rfl
      · exact hc _ _ _
    · exact hc _ _ _
  · exact hy _ _ _
  · obtain ⟨ffn, ftm, fde, fro⟩ := fr
    cases fro <;> rfl
  · obtain ⟨ffn, ftm, fde, fro⟩ := fr
    cases fro
    · cases bel with
      | panicking v r => cases r <;> rfl
      | _ => rfl
    · rfl
  · rfl
  · rfl
end
end Go.Sy
