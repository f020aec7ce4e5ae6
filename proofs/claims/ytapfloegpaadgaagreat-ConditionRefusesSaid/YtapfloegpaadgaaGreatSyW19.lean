/- Seat 19: small contracts. -/
import Derived.Test.YtapfloegpaadgaaGreatSyI19T
set_option linter.unusedVariables false
namespace Go.Sy
open Go.Proofs
theorem unchAll {n : Nat} {wr : List Nat} {pre : List Blk} : Unch n wr pre pre := fun _ _ _ => rfl
theorem mkSpec {f : Nat} {args : List AV} {pre : List Blk} {r : End} {post : List Blk} (h : CallSpec Tryz.prog f args pre r post) (hf : (match tfuncs.get? f with | some fn => fn.body.isSome | none => false) = true) : tb.spec f args pre r post := by
  refine ⟨?_, h⟩
  split at hf
  · rename_i fn hfn; exact ⟨fn, hfn, hf⟩
  · cases hf
noncomputable def exC : Nat × Ask := (1, .call [] [] [] (.ret (.bool true)) [])
theorem holdsT (v0 v1 : Int) : tb.spec 12 [.agg condT, vv v0 v1, .nils] [] (.ret (.bool true)) [] := by
  have h : callOut (ev tb 1000 (.call 12 [.agg condT, vv v0 v1, .nils] .none) (stOf [] [])) 0 [] [] = some ([], .ret (.bool true), []) := by kernel_rfl
  exact mkSpec (call_spec seat_ok h (fun p hp => by cases hp)) (by kernel_rfl)
theorem srch_top (l1 h0 h1 : Int) : ∀ (n : Nat) (v0 v1 : Int), srch (fun _ _ => true) (fun _ _ => true) l1 h0 h1 n v0 v1 = false := by
  intro n
  induction n with
  | zero => intro v0 v1; rfl
  | succ n ih =>
    intro v0 v1
    simp only [srch, ih]
    simp
theorem implied17 (l0 h0 m0 l1 h1 m1 : Int) (b : Bool) (e : Int) (h : CallSpec Tryz.prog 41 [.sl 0 0 2 3, .agg condT, .agg condT] [.cells (rn l0 h0 m0 l1 h1 m1)] (.ret (.tup [.bool b, .int .i64 e])) [.cells (rn l0 h0 m0 l1 h1 m1)]) :
    tb.spec 17 [.sl 0 0 2 3, .agg condT, .agg condT] [.cells (rn l0 h0 m0 l1 h1 m1)] (.ret (.agg [.bool b, .int .i64 e])) [.cells (rn l0 h0 m0 l1 h1 m1)] := by
  have h1 : callOut (ev tb 1000 (.call 17 [.sl 0 0 2 3, .agg condT, .agg condT] .none) (stOf [.cells (rn l0 h0 m0 l1 h1 m1)] [(6, .call [0] [] [] (.ret (.tup [.bool b, .int .i64 e])) [.cells (rn l0 h0 m0 l1 h1 m1)])])) 1 [0] [] =
      some ([tb.spec 41 [.sl 0 0 2 3, .agg condT, .agg condT] [.cells (rn l0 h0 m0 l1 h1 m1)] (.ret (.tup [.bool b, .int .i64 e])) [.cells (rn l0 h0 m0 l1 h1 m1)], Unch 1 [] [.cells (rn l0 h0 m0 l1 h1 m1)] [.cells (rn l0 h0 m0 l1 h1 m1)]], .ret (.agg [.bool b, .int .i64 e]), [.cells (rn l0 h0 m0 l1 h1 m1)]) := by kernel_rfl
  refine mkSpec (call_spec seat_ok h1 ?_) (by kernel_rfl)
  intro p hp
  simp only [List.mem_cons, List.not_mem_nil, or_false] at hp
  rcases hp with rfl | rfl
  · exact mkSpec h (by kernel_rfl)
  · exact unchAll
end Go.Sy
