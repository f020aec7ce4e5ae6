/- PROVED HERE: Rows.ConditionRefusesSaid (theorem conditionRefuses_holds). -/
import Derived.Test.YtapfloegpaadgaaGreatRows
import Derived.ProofKit
import Derived.Test.YtapfloegpaadgaaGreatSyY19
import Derived.Test.YtapfloegpaadgaaGreatSyBr
set_option linter.unusedVariables false
namespace Go.Sy
open Go.ChangeShapes Go.WideShapes Go.RowKit
/-- what a law leaves whose arguments hold no memory -/
theorem post_plain {H : Type} {enc : TypeId × Value → H} {P : Program} {f : Func} {s : ChangeSpec} {apart fresh handsOn again : Bool} {W W' : World} {args : Array Value} {v : Value} {ds : List (DataW H)}
    (hv : s.vars = []) (hW : DataW.Whole enc P f.params.toList s.vars apart W args.toList ds [] [])
    (hres : ∀ (b : Nat) (sp : Nat → Bool) (hd : Bool), DataW.TrodAll enc P W' b sp hd f.resultTypes.toList (v.resultList f.resultTypes.size) (s.fn H ds).results [])
    (hargs : ∀ sp : Nat → Bool, DataW.TrodAll enc P W' 0 sp true f.params.toList args.toList (s.fn H ds).args []) (hvs : (s.fn H ds).vars = [])
    (hb : RowKit.Below W.heap.size W W')
    (hok : ∀ (j : Nat) (t : TypeId) (r : Value), f.resultTypes[j]? = some t → (v.resultList f.resultTypes.size)[j]? = some r → Value.okWide P W' .any 0 t r) :
    s.post enc P f apart fresh handsOn again W args v W' := by
  have hvars : ∀ sp : Nat → Bool, DataW.TrodVars enc P W' sp s.vars (s.fn H (ds ++ [])).vars [] := by
    intro sp
    rw [List.append_nil, hvs, hv]
    exact rfl
  refine ⟨ds, [], [], [], [], [], hW, by rw [List.append_nil]; exact hres _ _ _, by rw [List.append_nil]; exact hargs _, hvars _, World.keptBut_mono (fun p hp => ⟨hp, (nomatch hp)⟩) (hb.frame (· ∈ [])), fun _ => ?_⟩
  exact ⟨hok, _, _, [], ⟨[], [], trodAll_append (hargs _) (hres _ _ _), hvars _, rfl, fun b off hp => (nomatch hp), fun _ => List.nodup_nil⟩, fun p hp => (nomatch hp)⟩
end Go.Sy
namespace Go.Proofs.YtapfloegpaadgaaGreat
open Go.ChangeShapes Go.WideShapes Go.ChangeAt Go.RowKit Go.Sy

theorem Tryz.own : ownKnob Tryz.prog.godebug = none := by kernel_rfl

set_option maxRecDepth 100000 in
theorem conditionRefuses_lifted (os : Os) (started : os.Started) (H : Type) (enc : TypeId × Value → H) :
    ReturnsInHanded {} Tryz.checked os 7 .any (Rows.conditionRefusesSpec.pre6 enc Tryz.prog Tryz.f7 Rows.conditionRefusesRow.domain false) (Rows.conditionRefusesSpec.post enc Tryz.prog Tryz.f7 false true false false) := by
  refine returnsInHanded_of_change (C := Tryz.checked) Tryz.own started (by kernel_rfl) Tryz.func7
    (ChangeSpec.witness6 (enc := enc) (C := Tryz.checked) false ⟨#[], #[.int .i64 0, .int .i64 0, .int .u16 0], []⟩ 8 (by kernel_rfl) (by kernel_rfl) (by kernel_rfl) (by kernel_rfl)) ?_
  intro W base args ds gs before hval0 hW hcnd _
  have hval : ∀ (j : Nat) t v, Tryz.f7.params[j]? = some t → args[j]? = some v → Value.okWide Tryz.prog W .any base t v := hval0
  have hW' := hW
  obtain ⟨p, q, hA0, hV, rfl, hfz, hnd⟩ := hW
  have hA : DataW.TrodAll enc Tryz.prog W 0 (fun _ => true) true Tryz.f7.params.toList args.toList ds p := hA0
  rw [Tryz.params7] at hA hval
  obtain ⟨v0, v1, v2, d0, d1, d2, p0, p1, p2, rfl, rfl, rfl, h0, h1, h2⟩ := trodAll_three hA
  obtain ⟨rfl, rfl⟩ := trodVars_none hV
  obtain ⟨a, rfl, rfl, rfl, wa⟩ := open_int Tryz.underlying3 (hval 0 3 v0 rfl rfl) h0
  obtain ⟨b, rfl, rfl, rfl, wb⟩ := open_int Tryz.underlying3 (hval 1 3 v1 rfl rfl) h1
  obtain ⟨c, rfl, rfl, rfl, wc⟩ := open_int Tryz.underlying71 (hval 2 71 v2 rfl rfl) h2
  clear hA0 hval0
  simp only [List.append_nil] at hW'
  have c0 : 0 ≤ c := by
    have hm : IntKind.u16.min = 0 := rfl
    simp only [Lit.wf, hm, Bool.and_eq_true, decide_eq_true_eq] at wc
    exact wc.1
  refine (calls_plain (refuses_call a b c c0) #[.int .i64 a, .int .i64 b, .int .u16 c] W (.cons (.int _ _) (.cons (.int _ _) (.cons (.int _ _) .nil)))).mono fun e W' ⟨x, he, ⟨L', hx⟩, hb⟩ => ?_
  subst he
  cases hx
  have hok : ∀ (j : Nat) (t : TypeId) (r : Value), Tryz.f7.resultTypes[j]? = some t → ((Value.bool true).resultList Tryz.f7.resultTypes.size)[j]? = some r → Value.okWide Tryz.prog W' .any 0 t r :=
    ok_one (t := 4) (by kernel_rfl) rfl (by simp [Value.okWide, Tryz.underlying4, Cell.okWide, Cell.ok])
  have hargs : ∀ sp : Nat → Bool, DataW.TrodAll enc Tryz.prog W' 0 sp true Tryz.f7.params.toList [.int .i64 a, .int .i64 b, .int .u16 c] [.lit (.int .i64 a), .lit (.int .i64 b), .lit (.int .u16 c)] [] :=
    fun sp => trodAll_mk3 (shut_int Tryz.underlying3 wa) (shut_int Tryz.underlying3 wb) (shut_int Tryz.underlying71 wc)
  have hres : ∀ (b : Nat) (sp : Nat → Bool) (hd : Bool), DataW.TrodAll enc Tryz.prog W' b sp hd Tryz.f7.resultTypes.toList ((Value.bool true).resultList Tryz.f7.resultTypes.size) [.lit (.bool true)] [] :=
    fun _ _ _ => trodAll_mk1 (shut_bool Tryz.underlying4 true)
  exact ⟨.bool true, rfl, post_plain rfl hW' hres hargs rfl hb hok⟩

theorem conditionRefuses_holds : Rows.ConditionRefusesSaid :=
  OpenClaim.holds_of_wide 7 Tryz.f7 rfl rfl rfl rfl rfl rfl rfl ⟨rfl, rfl, rfl, rfl, rfl⟩ rfl rfl rfl rfl rfl (by kernel_rfl) Tryz.func7 (by kernel_rfl)
    (of_decide_eq_true (by kernel_rfl)) (by unfold Func.isWrapper; rw [if_neg (by decide +kernel)]; exact ⟨rfl, rfl⟩)
    (fun os started H enc _ => conditionRefuses_lifted os started H enc)

#print axioms conditionRefuses_holds
end Go.Proofs.YtapfloegpaadgaaGreat
