import Derived.Test.YtapfloegpaadgaaGreatSyU19
/- PROVED HERE: Rows.ConditionImpliesSaid (theorem conditionImplies_holds). -/
set_option linter.unusedVariables false
namespace Go.Proofs.YtapfloegpaadgaaGreat
open Go.ChangeShapes Go.WideShapes Go.ChangeAt Go.RowKit Go.Sy
set_option maxRecDepth 100000 in
theorem conditionImplies_lifted (os : Os) (started : os.Started) (H : Type) (enc : TypeId × Value → H) :
    ReturnsInHanded {} Tryz.checked os 6 .any (Rows.conditionImpliesSpec.pre6 enc Tryz.prog Tryz.f6 Rows.conditionImpliesRow.domain false) (Rows.conditionImpliesSpec.post enc Tryz.prog Tryz.f6 false true false false) := by
  refine returnsInHanded_of_change (C := Tryz.checked) Tryz.own started (by kernel_rfl) Tryz.func6
    (ChangeSpec.witness6 (enc := enc) (C := Tryz.checked) false ⟨#[], #[.agg #[.int .i64 0, .slice none 0 0, .slice none 0 0, .int .i64 0, .slice none 0 0, .slice none 0 0, .int .i64 0, .slice none 0 0, .slice none 0 0], .agg #[.int .i8 0, .int .i8 0], .agg #[.int .u8 0, .int .u8 0, .int .u8 0, .int .u8 0]], []⟩ 8 (by kernel_rfl) (by kernel_rfl) (by kernel_rfl) (by kernel_rfl)) ?_
  intro W base args ds gs before hval0 hW hcnd _
  have hval : ∀ (j : Nat) t v, Tryz.f6.params[j]? = some t → args[j]? = some v → Value.okWide Tryz.prog W .any base t v := hval0
  have hW' := hW
  obtain ⟨p, q, hA0, hV, rfl, hfz, hnd⟩ := hW
  have hA : DataW.TrodAll enc Tryz.prog W 0 (fun _ => true) true Tryz.f6.params.toList args.toList ds p := hA0
  rw [Tryz.params6] at hA hval
  obtain ⟨v0, v1, v2, d0, d1, d2, p0, p1, p2, rfl, rfl, rfl, h0, h1, h2⟩ := trodAll_three hA
  obtain ⟨rfl, rfl⟩ := trodVars_none hV
  have k0 := hval 0 59 v0 rfl rfl
  have k1 := hval 1 61 v1 rfl rfl
  have k2 := hval 2 62 v2 rfl rfl
  simp only [Value.okWide, Tryz.underlying59] at k0
  simp only [Value.okWide, Tryz.underlying61] at k1
  simp only [Value.okWide, Tryz.underlying62] at k2
  obtain ⟨cs0, rfl, _, _⟩ := k0
  obtain ⟨cs1, rfl, _, _⟩ := k1
  obtain ⟨cs2, rfl, _, _⟩ := k2
  clear hA0 hval0
  simp only [List.append_nil] at hW'
  refine (implies_any W cs0 cs1 cs2 h0 h1 h2).mono fun e W' ⟨he, hb⟩ => ?_
  subst he
  have hlt : ∀ x ∈ p0 ++ p1 ++ p2, x.block < W.heap.size := fun x hx => hW'.lt x hx
  have a0 := Below.trod Tryz.laidOut (by kernel_rfl) (of_decide_eq_true (by kernel_rfl)) h0 hb (fun x hx => hlt x (by simp [hx]))
  have a1 := Below.trod Tryz.laidOut (by kernel_rfl) (of_decide_eq_true (by kernel_rfl)) h1 hb (fun x hx => hlt x (by simp [hx]))
  have a2 := Below.trod Tryz.laidOut (by kernel_rfl) (of_decide_eq_true (by kernel_rfl)) h2 hb (fun x hx => hlt x (by simp [hx]))
  have hargs : DataW.TrodAll enc Tryz.prog W' 0 (fun b => decide (b < W.heap.size)) true Tryz.f6.params.toList [.agg cs0, .agg cs1, .agg cs2] [d0, d1, d2] (p0 ++ p1 ++ p2) := by
    rw [List.append_assoc]
    exact trodAll_mk3 a0 a1 a2
  have hres : ∀ (b : Nat) (sp : Nat → Bool) (hd : Bool), DataW.TrodAll enc Tryz.prog W' b sp hd Tryz.f6.resultTypes.toList ((Value.bool true).resultList Tryz.f6.resultTypes.size) [.lit (.bool true)] [] :=
    fun _ _ _ => trodAll_mk1 (shut_bool Tryz.underlying4 true)
  exact ⟨.bool true, rfl, post_reads rfl hW' hres hargs rfl hb⟩

theorem conditionImplies_holds : Rows.ConditionImpliesSaid :=
  OpenClaim.holds_of_wide 6 Tryz.f6 rfl rfl rfl rfl rfl rfl rfl ⟨rfl, rfl, rfl, rfl, rfl⟩ rfl rfl rfl rfl rfl (by kernel_rfl) Tryz.func6 (by kernel_rfl)
    (of_decide_eq_true (by kernel_rfl)) (by unfold Func.isWrapper; rw [if_neg (by decide +kernel)]; exact ⟨rfl, rfl⟩)
    (fun os started H enc _ => conditionImplies_lifted os started H enc)

#print axioms conditionImplies_holds
end Go.Proofs.YtapfloegpaadgaaGreat
