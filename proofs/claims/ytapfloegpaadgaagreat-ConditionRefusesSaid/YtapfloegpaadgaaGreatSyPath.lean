/- Pieces of code by their place. -/
import Derived.Test.YtapfloegpaadgaaGreatSySpec
set_option linter.unusedVariables false
namespace Go.Sy
/-- the outermost loops' bodies, in order -/
def loopsOf : Code → List Code
  | .loop b => [b]
  | .seq a b => loopsOf a ++ loopsOf b
  | .cond _ a b => loopsOf a ++ loopsOf b
  | .block _ b => loopsOf b
  | .scope b => loopsOf b
  | .rangeFunc _ _ a b => loopsOf a ++ loopsOf b
  | _ => []
/-- the outermost ranges over functions -/
def rangesOf : Code → List (Array Tmp × Code × Code)
  | .rangeFunc _ ps a b => [(ps, a, b)]
  | .loop b => rangesOf b
  | .seq a b => rangesOf a ++ rangesOf b
  | .cond _ a b => rangesOf a ++ rangesOf b
  | .block _ b => rangesOf b
  | .scope b => rangesOf b
  | _ => []
def nth {α : Type} (d : α) : List α → Nat → α
  | [], _ => d
  | x :: _, 0 => x
  | _ :: r, n + 1 => nth d r n
noncomputable def bodyIn (fs : T Func) (f : Nat) : Code := match fs.get? f with
  | some fn => fn.body.getD .skip
  | none => .skip
noncomputable def loopIn (fs : T Func) (f k : Nat) : Code := nth .skip (loopsOf (bodyIn fs f)) k
noncomputable def rangeIn (fs : T Func) (f k : Nat) : Array Tmp × Code × Code := nth (#[], .skip, .skip) (rangesOf (bodyIn fs f)) k
end Go.Sy
