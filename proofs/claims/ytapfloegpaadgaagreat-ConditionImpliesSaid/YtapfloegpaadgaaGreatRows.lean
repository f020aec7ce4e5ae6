/-
  NARROWER THAN 'FOR EVERY INPUT', by the rows' own cells (each row's printed sentence says how): ConditionImplies: loops.
  DERIVED. THE GIVEN ROWS OF THIS SEAT. 5 by the template 'for every input the law returns true; each argument reads behind the call as it read before'; 0 by the template 'total and deterministic' (their statements: YtapfloegpaadgaaGreatTotals.lean).
  GIVEN WITH THE SEED: the statements are not yours to turn. If you find one false, say at which input.
  Laid BY PROGRAM, IN A SANDBOX (cutbox-rows.mjs): the forced cells as the released guide's own fill.sh prints them over the translation 11d64232d4bfdb3a… (all of the seat's roots in one cut). By AI agents, Wed Nov 11 2026. No macro, syntax, notation, axiom, sorry.
-/
import Derived.Test.YtapfloegpaadgaaGreatChecked
import GoSem.Claim
import GoSem.ClaimJoined
import GoSem.ClaimMapViews
import Derived.JoinedTies
import Derived.KernelRfl
namespace Go.Proofs.YtapfloegpaadgaaGreat
/- THE CELL 'sum', in the pinned program and in every row, IS THE sha256 OF THE DUMP (.gsa) THAT YtapfloegpaadgaaGreatProg.lean LOADS. Nothing in Lean hashes anything: it is a label: what it is worth is what the hold of that sum in a sandbox is worth. -/
noncomputable def Tryz.pinned : Pinned := { name := "ytapfloegpaadgaagreat", sum := "11d64232d4bfdb3a8e52c3f8d63d212d58e99587db5fda0b97a177e509601a5c", checked := Tryz.checked }
namespace Rows
def none {H : Type} : Left H := { results := [], args := [] }

/-- 'parolelaw19.ConditionSuffices': WHATEVER THE INPUT: true; the input reads as it did. -/
def conditionSufficesSpec : ChangeSpec := { name := "conditionSuffices", fn := fun _ => fun
  | [d1, d2] => { results := [.lit (.bool true)], args := [d1, d2] }
  | _ => none }
def conditionSufficesRow : OpenClaim := { program := "ytapfloegpaadgaagreat", sum := "11d64232d4bfdb3a8e52c3f8d63d212d58e99587db5fda0b97a177e509601a5c", func := "parole/parolelaw19.ConditionSuffices", spec := "conditionSuffices", unfollowed := true, recurses := true, apart := false }
def ConditionSufficesSaid : Prop := conditionSufficesRow.holds Tryz.pinned (OpenSpec.ofChange conditionSufficesSpec)

/-- ITS FALSE NEIGHBOUR: 'it returns false'. Refute it at one input. -/
def conditionSufficesWrong : ChangeSpec := { name := "conditionSuffices", fn := fun _ => fun
  | [d1, d2] => { results := [.lit (.bool false)], args := [d1, d2] }
  | _ => none }
def ConditionSufficesWrongFalsely : Prop := conditionSufficesRow.holds Tryz.pinned (OpenSpec.ofChange conditionSufficesWrong)

/-- 'parolelaw19.ConditionItself': WHATEVER THE INPUT: true; the input reads as it did. -/
def conditionItselfSpec : ChangeSpec := { name := "conditionItself", fn := fun _ => fun
  | [d] => { results := [.lit (.bool true)], args := [d] }
  | _ => none }
def conditionItselfRow : OpenClaim := { program := "ytapfloegpaadgaagreat", sum := "11d64232d4bfdb3a8e52c3f8d63d212d58e99587db5fda0b97a177e509601a5c", func := "parole/parolelaw19.ConditionItself", spec := "conditionItself", unfollowed := true, recurses := true, apart := false }
def ConditionItselfSaid : Prop := conditionItselfRow.holds Tryz.pinned (OpenSpec.ofChange conditionItselfSpec)

/-- ITS FALSE NEIGHBOUR: 'it returns false'. Refute it at one input. -/
def conditionItselfWrong : ChangeSpec := { name := "conditionItself", fn := fun _ => fun
  | [d] => { results := [.lit (.bool false)], args := [d] }
  | _ => none }
def ConditionItselfWrongFalsely : Prop := conditionItselfRow.holds Tryz.pinned (OpenSpec.ofChange conditionItselfWrong)

/-- 'parolelaw19.ConditionConstants': WHATEVER THE INPUT: true; the input reads as it did. -/
def conditionConstantsSpec : ChangeSpec := { name := "conditionConstants", fn := fun _ => fun
  | [d] => { results := [.lit (.bool true)], args := [d] }
  | _ => none }
def conditionConstantsRow : OpenClaim := { program := "ytapfloegpaadgaagreat", sum := "11d64232d4bfdb3a8e52c3f8d63d212d58e99587db5fda0b97a177e509601a5c", func := "parole/parolelaw19.ConditionConstants", spec := "conditionConstants", unfollowed := true, recurses := true, apart := false }
def ConditionConstantsSaid : Prop := conditionConstantsRow.holds Tryz.pinned (OpenSpec.ofChange conditionConstantsSpec)

/-- ITS FALSE NEIGHBOUR: 'it returns false'. Refute it at one input. -/
def conditionConstantsWrong : ChangeSpec := { name := "conditionConstants", fn := fun _ => fun
  | [d] => { results := [.lit (.bool false)], args := [d] }
  | _ => none }
def ConditionConstantsWrongFalsely : Prop := conditionConstantsRow.holds Tryz.pinned (OpenSpec.ofChange conditionConstantsWrong)

/-- 'parolelaw19.ConditionImplies': WHATEVER THE INPUT: true; the input reads as it did. -/
def conditionImpliesSpec : ChangeSpec := { name := "conditionImplies", fn := fun _ => fun
  | [d1, d2, d3] => { results := [.lit (.bool true)], args := [d1, d2, d3] }
  | _ => none }
def conditionImpliesRow : OpenClaim := { program := "ytapfloegpaadgaagreat", sum := "11d64232d4bfdb3a8e52c3f8d63d212d58e99587db5fda0b97a177e509601a5c", func := "parole/parolelaw19.ConditionImplies", spec := "conditionImplies", unfollowed := true, recurses := true, loops := true, apart := false }
def ConditionImpliesSaid : Prop := conditionImpliesRow.holds Tryz.pinned (OpenSpec.ofChange conditionImpliesSpec)

/-- ITS FALSE NEIGHBOUR: 'it returns false'. Refute it at one input. -/
def conditionImpliesWrong : ChangeSpec := { name := "conditionImplies", fn := fun _ => fun
  | [d1, d2, d3] => { results := [.lit (.bool false)], args := [d1, d2, d3] }
  | _ => none }
def ConditionImpliesWrongFalsely : Prop := conditionImpliesRow.holds Tryz.pinned (OpenSpec.ofChange conditionImpliesWrong)

/-- 'parolelaw19.ConditionRefuses': WHATEVER THE INPUT: true; the input reads as it did. -/
def conditionRefusesSpec : ChangeSpec := { name := "conditionRefuses", fn := fun _ => fun
  | [d1, d2, d3] => { results := [.lit (.bool true)], args := [d1, d2, d3] }
  | _ => none }
def conditionRefusesRow : OpenClaim := { program := "ytapfloegpaadgaagreat", sum := "11d64232d4bfdb3a8e52c3f8d63d212d58e99587db5fda0b97a177e509601a5c", func := "parole/parolelaw19.ConditionRefuses", spec := "conditionRefuses", unfollowed := true, recurses := true, apart := false }
def ConditionRefusesSaid : Prop := conditionRefusesRow.holds Tryz.pinned (OpenSpec.ofChange conditionRefusesSpec)

/-- ITS FALSE NEIGHBOUR: 'it returns false'. Refute it at one input. -/
def conditionRefusesWrong : ChangeSpec := { name := "conditionRefuses", fn := fun _ => fun
  | [d1, d2, d3] => { results := [.lit (.bool false)], args := [d1, d2, d3] }
  | _ => none }
def ConditionRefusesWrongFalsely : Prop := conditionRefusesRow.holds Tryz.pinned (OpenSpec.ofChange conditionRefusesWrong)

/- THE SECOND FORM. 'bulk': how many values and letters a reading holds, each counted each time it is reached (what is shared counts as often as it is met; a slice's spare places count too). A statement '..UptoSaid' is the law's where the arguments, and the package variables that the reading takes, are together of bulk at most 1048576: NARROWER than '..Said'. Prove '..Said' where nothing that the law and all that it calls make is longer than what came in: it says more and counts as full. Else prove '..UptoSaid'. A law counts once. -/
mutual
def uptoBulk {H : Type} : DataW H → Nat
  | .lit (.string bytes) => bytes.length + 1
  | .lit _ => 1
  | .nil => 1
  | .ptr d => uptoBulk d + 1
  | .slice elems spare => uptoBulkAll elems + uptoBulkAll spare + 1
  | .agg parts => uptoBulkAll parts + 1
  | .iface _ d => uptoBulk d + 1
  | .map entries => uptoBulkEntries entries + 1
  | .held _ => 1
def uptoBulkAll {H : Type} : List (DataW H) → Nat
  | [] => 0
  | d :: r => uptoBulk d + uptoBulkAll r
def uptoBulkEntries {H : Type} : List (Lit × DataW H) → Nat
  | [] => 0
  | x :: r => uptoBulkEntry x + uptoBulkEntries r
def uptoBulkEntry {H : Type} : Lit × DataW H → Nat
  | (.string bytes, d) => bytes.length + uptoBulk d + 1
  | (_, d) => uptoBulk d + 1
 end
def uptoSmall : (H : Type) → List (DataW H) → Bool := fun _ ds => decide (uptoBulkAll ds ≤ 1048576)
def OpenSpec.upto (s : _root_.Go.ChangeSpec) : _root_.Go.OpenSpec := { _root_.Go.OpenSpec.ofChange s with cond := some uptoSmall }

/-- 'parolelaw19.ConditionSuffices', WHERE WHAT IT READS IS OF BULK AT MOST 1048576: true; the input reads as it did. -/
def conditionSufficesUptoRow : OpenClaim := { program := "ytapfloegpaadgaagreat", sum := "11d64232d4bfdb3a8e52c3f8d63d212d58e99587db5fda0b97a177e509601a5c", func := "parole/parolelaw19.ConditionSuffices", spec := "conditionSuffices", unfollowed := true, recurses := true, apart := false, narrowed := true }
def ConditionSufficesUptoSaid : Prop := conditionSufficesUptoRow.holds Tryz.pinned (OpenSpec.upto conditionSufficesSpec)

/-- 'parolelaw19.ConditionItself', WHERE WHAT IT READS IS OF BULK AT MOST 1048576: true; the input reads as it did. -/
def conditionItselfUptoRow : OpenClaim := { program := "ytapfloegpaadgaagreat", sum := "11d64232d4bfdb3a8e52c3f8d63d212d58e99587db5fda0b97a177e509601a5c", func := "parole/parolelaw19.ConditionItself", spec := "conditionItself", unfollowed := true, recurses := true, apart := false, narrowed := true }
def ConditionItselfUptoSaid : Prop := conditionItselfUptoRow.holds Tryz.pinned (OpenSpec.upto conditionItselfSpec)

/-- 'parolelaw19.ConditionConstants', WHERE WHAT IT READS IS OF BULK AT MOST 1048576: true; the input reads as it did. -/
def conditionConstantsUptoRow : OpenClaim := { program := "ytapfloegpaadgaagreat", sum := "11d64232d4bfdb3a8e52c3f8d63d212d58e99587db5fda0b97a177e509601a5c", func := "parole/parolelaw19.ConditionConstants", spec := "conditionConstants", unfollowed := true, recurses := true, apart := false, narrowed := true }
def ConditionConstantsUptoSaid : Prop := conditionConstantsUptoRow.holds Tryz.pinned (OpenSpec.upto conditionConstantsSpec)

/-- 'parolelaw19.ConditionImplies', WHERE WHAT IT READS IS OF BULK AT MOST 1048576: true; the input reads as it did. -/
def conditionImpliesUptoRow : OpenClaim := { program := "ytapfloegpaadgaagreat", sum := "11d64232d4bfdb3a8e52c3f8d63d212d58e99587db5fda0b97a177e509601a5c", func := "parole/parolelaw19.ConditionImplies", spec := "conditionImplies", unfollowed := true, recurses := true, loops := true, apart := false, narrowed := true }
def ConditionImpliesUptoSaid : Prop := conditionImpliesUptoRow.holds Tryz.pinned (OpenSpec.upto conditionImpliesSpec)

/-- 'parolelaw19.ConditionRefuses', WHERE WHAT IT READS IS OF BULK AT MOST 1048576: true; the input reads as it did. -/
def conditionRefusesUptoRow : OpenClaim := { program := "ytapfloegpaadgaagreat", sum := "11d64232d4bfdb3a8e52c3f8d63d212d58e99587db5fda0b97a177e509601a5c", func := "parole/parolelaw19.ConditionRefuses", spec := "conditionRefuses", unfollowed := true, recurses := true, apart := false, narrowed := true }
def ConditionRefusesUptoSaid : Prop := conditionRefusesUptoRow.holds Tryz.pinned (OpenSpec.upto conditionRefusesSpec)

end Rows
end Go.Proofs.YtapfloegpaadgaaGreat
