/- From a contract to the kit's `Calls`: a call that reads no caller's block. -/
import Derived.Test.YtapfloegpaadgaaGreatSySpec
import Derived.Below
set_option linter.unusedVariables false
namespace Go.Sy
theorem calls_plain {P : Program} {f : Nat} {args : List AV} {e : AV} (h : CallSpecF P f args [] (.ret e) []) (xs : Array Value) (w : World)
    (hx : VRels (fun _ => False) (fun _ => .absent) w args xs.toList) :
    Calls P f xs w (fun en w' => ∃ x, en = .returned x ∧ (∃ L', VRel (fun _ => False) L' w' e x) ∧ _root_.Go.RowKit.Below w.heap.size w w') := by
  intro cs
  have H : HRel (fun _ => False) (fun _ => .absent) (hpL []) w := by
    refine ⟨fun _ _ => rfl, fun b hb => by simp [hpL] at hb, fun b x hb => by simp [hpL] at hb, fun b b' c o cap sz o' cap' sz' hb => by simp at hb, fun c hc => ?_, fun c _ hc => hc.elim, fun c hc => hc.elim⟩
    obtain ⟨b, o, cap, sz, hb⟩ := hc
    exact nomatch hb
  obtain ⟨L', w', F', s, E, HR, hfn, hkd, hl⟩ := h (fun _ => False) (fun _ => .absent) w xs cs H hx
  obtain ⟨h1, h2, _, fn, h3, x, h4, h5⟩ := hl
  refine ⟨.returned x, w', F', ⟨x, rfl, ⟨L', h5⟩, E.os, E.tape, E.output, E.size, fun k hk => E.same k hk ?_⟩, s, hfn, h1, h2, hkd, fn, h3, h4⟩
  rintro ⟨b, o, cap, sz, hb⟩
  exact nomatch hb
end Go.Sy
