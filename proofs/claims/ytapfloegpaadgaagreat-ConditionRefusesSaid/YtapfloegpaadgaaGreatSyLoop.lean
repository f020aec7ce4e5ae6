/- Loops. -/
import Derived.Test.YtapfloegpaadgaaGreatSyUnwind
set_option linter.unusedVariables false
set_option linter.unusedSimpArgs false
namespace Go.Sy

theorem lone_frame {F G : Frame} {cs ds : List Frame} {w v : World} (h : lone F cs w = lone G ds v) : F = G := by
  simp only [lone, Machine.mk.injEq] at h
  have h2 := h.2.1
  simp at h2
  exact h2.1
/-- a run that begins one step later -/
theorem steps_later {P : Program} {A B Z : Machine} (h : Steps P A Z) (s : step P A = .next B) (hne : A ≠ Z) : Steps P B Z := by
  obtain ⟨n, hn⟩ := h
  cases n with
  | zero => simp [runN] at hn; exact absurd hn hne
  | succ n => exact ⟨n, by simpa [runN, s] using hn⟩

section
variable {P : Program} {rec : Cmd → St → Ex}
theorem loop_ok (ih : RecOK P rec) {b : Code} {fr : Fr} {bel : Below} {st : St} {r : Res}
    (h : evLoop' rec b fr bel st = .ok r) {X : Nat → Prop} {L : Loc} {w : World} {F : Frame} {k : List Item} {cs : List Frame}
    (H : HRel X L st.hp w) (ho : AllObl r.st.obl) (hf : FRel X L w fr F) (hm : F.mode = .run) (ht : F.todo = .code (.loop b) :: k) (hc : codeOK F.tmps.size (.loop b) = true) (hb : BelR X L w bel F.kind cs) :
    ∃ L' w' F' cs', Lands P X L w F cs r.st L' w' F' cs' ∧ FRel X L' w' r.fr F' ∧ BelR X L' w' r.bel F.kind cs' ∧ OutR X L' w' F' k r.out := by
  have s0 := st_loop (P := P) (cs := cs) (w := w) hm ht
  have hc' : codeOK F.tmps.size b = true := by simpa only [codeOK] using hc
  unfold evLoop' at h
  split at h
  · rename_i fr1 bel1 st1 h1
    obtain ⟨L1, w1, F1, cs1, l1, hf1, hb1, o1⟩ := ih.code _ _ _ _ _ h1 X L w { F with todo := .code b :: .inLoop b :: k } (.inLoop b :: k) cs H ((ih.adv _ _ _ h).all ho) (hf.todo _ _) hm rfl hc' hb
    obtain ⟨om, ot⟩ := o1
    obtain ⟨L2, w2, F2, cs2, l2, hf2, hb2, o2⟩ := ih.code _ _ _ _ _ h X L1 w1 { F1 with todo := .code (.loop b) :: k } k cs1 l1.heap ho (hf1.todo _ _) om rfl (by show codeOK F1.tmps.size (.loop b) = true; rw [l1.size]; exact hc) (by show BelR X L1 w1 bel1 F1.kind cs1; rw [l1.kind]; exact hb1)
    have hne : lone { F1 with todo := .code (.loop b) :: k } cs1 w1 ≠ lone F2 cs2 w2 := by
      intro e
      have e := lone_frame e
      rw [← e] at o2
      obtain ⟨out, fr', bel', st'⟩ := r
      cases out with
      | norm => have := congrArg List.length o2.2; simp at this
      | exit i => obtain ⟨_, j, q, _⟩ := o2; cases q
      | ret => obtain ⟨_, j, q⟩ := o2; cases q
      | pan v => obtain ⟨ch, q, _⟩ := o2; rw [show ({ F1 with todo := .code (.loop b) :: k } : Frame).mode = F1.mode from rfl, om] at q; cases q
      | done v => exact o2
    have sA := st_loop (P := P) (F := { F1 with todo := .code (.loop b) :: k }) (cs := cs1) (w := w1) om rfl
    have sB := st_inLoop (P := P) (cs := cs1) (w := w1) om ot
    have steps2 : Steps P (lone F1 cs1 w1) (lone F2 cs2 w2) := .head sB (steps_later l2.steps sA hne)
    have hk : F1.kind = F.kind := l1.kind
    have l3 : Lands P X L1 w1 F1 cs1 r.st L2 w2 F2 cs2 := ⟨steps2, l2.ext, l2.heap, l2.fn, l2.kind, l2.round, l2.size, l2.und⟩
    exact ⟨L2, w2, F2, cs2, (Lands.head s0 l1).trans l3, hf2, hk ▸ hb2, o2⟩
  · rename_i hne
    obtain ⟨L1, w1, F1, cs1, l1, hf1, hb1, o1⟩ := ih.code _ _ _ _ _ h X L w { F with todo := .code b :: .inLoop b :: k } (.inLoop b :: k) cs H ho (hf.todo _ _) hm rfl hc' hb
    refine ⟨L1, w1, F1, cs1, Lands.head s0 l1, hf1, hb1, ?_⟩
    obtain ⟨out, fr', bel', st'⟩ := r
    cases out with
    | norm => exact absurd h (by intro hh; exact hne _ _ _ hh)
    | exit i =>
      obtain ⟨q1, j, q2, q3⟩ := o1
      exact ⟨q1, j ++ [.inLoop b], by rw [q2]; simp, fun k => by rw [List.append_assoc, q3]; simp [exitTo]⟩
    | ret => exact o1
    | pan v => exact o1
    | done v => exact o1
end
end Go.Sy
