/- From one relation of values to another: what is not owned may be narrowed, what is absent may be laid. -/
import Derived.Test.YtapfloegpaadgaaGreatSyStep
set_option linter.unusedVariables false
set_option linter.unusedSimpArgs false
namespace Go.Sy

structure Lift (X : Nat → Prop) (L : Loc) (w : World) (X' : Nat → Prop) (L' : Loc) (w' : World) : Prop where
  loc : ∀ b, L b ≠ .absent → L' b = L b ∨ L' b = .dead
  out : ∀ c, c < w.heap.size → ¬ Owned L c → ¬ X c → ¬ Owned L' c ∧ ¬ X' c ∧ c < w'.heap.size ∧ w'.heap[c]? = w.heap[c]?

section
variable {X X' X'' : Nat → Prop} {L L' L'' : Loc} {w w' w'' : World}
theorem Lift.refl : Lift X L w X L w := ⟨fun _ _ => .inl rfl, fun c h1 h2 h3 => ⟨h2, h3, h1, rfl⟩⟩
theorem Lift.trans (h : Lift X L w X' L' w') (k : Lift X' L' w' X'' L'' w'') : Lift X L w X'' L'' w'' := by
  refine ⟨fun b hb => ?_, fun c h1 h2 h3 => ?_⟩
  · rcases h.loc b hb with e | e
    · rcases k.loc b (by rw [e]; exact hb) with e' | e'
      · exact .inl (e'.trans e)
      · exact .inr e'
    · rcases k.loc b (by rw [e]; simp) with e' | e'
      · exact .inr (e'.trans e)
      · exact .inr e'
  · obtain ⟨a1, a2, a3, a4⟩ := h.out c h1 h2 h3
    obtain ⟨b1, b2, b3, b4⟩ := k.out c a3 a1 a2
    exact ⟨b1, b2, b3, b4.trans a4⟩
theorem Ext.lift (h : Ext L w L' w') : Lift X L w X L' w' := by
  refine ⟨h.loc, fun c h1 h2 h3 => ⟨fun h4 => ?_, h3, Nat.lt_of_lt_of_le h1 h.size, h.same c h1 h2⟩⟩
  rcases h.own c h4 with h5 | h5
  · exact h2 h5
  · omega
theorem Lift.shrink (h : ∀ c, X' c → X c) : Lift X L w X' L w := ⟨fun _ _ => .inl rfl, fun c h1 h2 h3 => ⟨h2, fun hh => h3 (h c hh), h1, rfl⟩⟩

theorem Lift.absent (h : Lift X L w X' L' w') : ∀ b, L b ≠ .absent → L' b ≠ .absent := by
  intro b hb
  rcases h.loc b hb with h1 | h1 <;> rw [h1]
  · exact hb
  · simp
theorem Lift.dead (h : Lift X L w X' L' w') : ∀ b, L b = .dead → L' b = .dead := by
  intro b hb
  rcases h.loc b (by rw [hb]; simp) with h1 | h1
  · exact h1.trans hb
  · exact h1
theorem Lift.live (h : Lift X L w X' L' w') {b c o cap sz : Nat} (hb : L b = .live c o cap sz) : L' b = .live c o cap sz ∨ L' b = .dead := by
  rcases h.loc b (by rw [hb]; simp) with h1 | h1
  · exact .inl (h1.trans hb)
  · exact .inr h1

theorem VRel.lift (h : Lift X L w X' L' w') {v : AV} {x : Value} (hv : VRel X L w v x) : VRel X' L' w' v x := by
  have cell : ∀ bl o, bl < w.heap.size → ¬ Owned L bl → ¬ X bl → w'.cell? ⟨bl, o, none⟩ = w.cell? ⟨bl, o, none⟩ := by
    intro bl o h1 h2 h3
    unfold World.cell?
    rw [(h.out bl h1 h2 h3).2.2.2]
  induction hv with
  | bool b => exact .bool b
  | int k n => exact .int k n
  | str s => exact .str s
  | nilp => exact .nilp
  | ptr h1 =>
    rcases h.live h1 with h2 | h2
    · exact .ptr h2
    · exact .ptrD h2 rfl
  | ptrD h1 h2 => exact .ptrD (h.dead _ h1) h2
  | iptr xs h1 h2 h3 h4 h5 h6 ih =>
    obtain ⟨a1, a2, a3, a4⟩ := h.out _ h3 h1 h2
    exact .iptr xs a1 a2 a3 (fun j v hj => (cell _ _ h3 h1 h2).trans (h4 j v hj)) ih h6
  | nils => exact .nils
  | sl h1 h2 h3 =>
    rcases h.live h1 with h4 | h4
    · exact .sl h4 h2 h3
    · exact .slD h4 rfl
  | slE h1 => exact .slE (h.absent _ h1)
  | slD h1 h2 => exact .slD (h.dead _ h1) h2
  | immE h1 => exact .immE h1
  | imm xs h0 h1 h2 h3 h4 h5 h6 h7 h8 h9 ih =>
    obtain ⟨a1, a2, a3, a4⟩ := h.out _ h3 h1 h2
    exact .imm xs h0 a1 a2 a3 (fun j v hj => (cell _ _ h3 h1 h2).trans (h4 j v hj)) ih h6 h7 h8 h9
  | nilm => exact .nilm
  | map h1 =>
    rcases h.live h1 with h2 | h2
    · exact .map h2
    · exact .mapD h2 rfl
  | mapD h1 h2 => exact .mapD (h.dead _ h1) h2
  | nilf => exact .nilf
  | fn h1 h2 h3 h4 ih1 ih2 => exact .fn h1 h2 ih1 ih2
  | fnY h1 =>
    rcases h.live h1 with h2 | h2
    · exact .fnY h2
    · exact .fnD h2 rfl
  | fnD h1 h2 => exact .fnD (h.dead _ h1) h2
  | nili => exact .nili
  | iface h1 ih => exact .iface ih
  | agg h1 h2 ih => exact .agg h1 ih
  | tup h1 h2 ih => exact .tup h1 ih
  | junk x => exact .junk x
theorem VRels.lift (h : Lift X L w X' L' w') {vs : List AV} {xs : List Value} (hv : VRels X L w vs xs) : VRels X' L' w' vs xs :=
  ⟨hv.1, fun j v x h1 h2 => (hv.2 j v x h1 h2).lift h⟩
theorem ERels.lift (h : Lift X L w X' L' w') {es : List (Int × AV)} {fs : List MapEntry} (hv : ERels X L w es fs) : ERels X' L' w' es fs := by
  induction hv with
  | nil => exact .nil
  | cons h1 h2 h3 ih => exact .cons h1 (h2.lift h) ih
theorem TRel.lift (h : Lift X L w X' L' w') {t : T AV} {ts : Array Value} (hv : TRel X L w t ts) : TRel X' L' w' t ts :=
  fun i v hi => let ⟨x, h1, h2⟩ := hv i v hi; ⟨x, h1, h2.lift h⟩
theorem DRel.lift (h : Lift X L w X' L' w') {d : ADef} {d' : Deferred} (hv : DRel X L w d d') : DRel X' L' w' d d' := by
  cases hv with
  | call h1 h2 => exact .call (h1.lift h) (h2.lift h)
  | coll h1 =>
    rcases h.live h1 with h2 | h2
    · exact .coll h2
    · exact .collD h2
  | collD h1 => exact .collD (h.dead _ h1)
theorem DRels.lift (h : Lift X L w X' L' w') {d : List ADef} {d' : List Deferred} (hv : DRels X L w d d') : DRels X' L' w' d d' := by
  induction hv with
  | nil => exact .nil
  | cons h1 h2 ih => exact .cons (h1.lift h) ih
theorem ChainR.lift (h : Lift X L w X' L' w') {v : AV} {r : Bool} {ch : List PanicEntry} (k : ChainR X L w v r ch) : ChainR X' L' w' v r ch := by
  obtain ⟨x, older, h1, h2, h3⟩ := k
  exact ⟨x, older, h1, h2, h3.lift h⟩
theorem BelR.lift (h : Lift X L w X' L' w') {b : Below} {k : CallKind} {cs : List Frame} (hb : BelR X L w b k cs) : BelR X' L' w' b k cs := by
  cases b with
  | none => exact hb
  | returning => exact hb
  | panicking v r =>
    obtain ⟨h1, c, rest, ch, h2, h3, h4⟩ := hb
    exact ⟨h1, c, rest, ch, h2, h3, h4.lift h⟩
def RoundR (L : Loc) (r : Option Nat) (F : Frame) : Prop :=
  match r with
  | none => F.roundOf = none
  | some l => ∃ c, F.roundOf = some c ∧ ((∃ o cap sz, L l = .live c o cap sz) ∨ L l = .dead)
theorem RoundR.lift (h : Lift X L w X' L' w') {r : Option Nat} {F : Frame} (hr : RoundR L r F) : RoundR L' r F := by
  cases r with
  | none => exact hr
  | some l =>
    obtain ⟨c, h1, h2⟩ := hr
    refine ⟨c, h1, ?_⟩
    rcases h2 with ⟨o, cap, sz, h2⟩ | h2
    · rcases h.live h2 with h3 | h3
      · exact .inl ⟨o, cap, sz, h3⟩
      · exact .inr h3
    · exact .inr (h.dead _ h2)
theorem FRel.lift (h : Lift X L w X' L' w') {fr : Fr} {F : Frame} (hf : FRel X L w fr F) : FRel X' L' w' fr F :=
  ⟨hf.fn, hf.tmps.lift h, hf.defs.lift h, RoundR.lift h (r := fr.round) hf.round⟩
theorem BRel.lift (h : Lift X L w X' L' w') {c o cap sz : Nat} {x : Blk} (hc : w'.heap[c]? = w.heap[c]?) (hv : BRel X L w c o cap sz x) : BRel X' L' w' c o cap sz x := by
  cases x with
  | cells cs =>
    obtain ⟨arr, e, h1, h2, h3, h4⟩ := hv
    exact ⟨arr, e, hc.trans h1, h2, h3, h4.lift h⟩
  | map es =>
    obtain ⟨fs, k, h1, h2⟩ := hv
    exact ⟨fs, k, hc.trans h1, h2.lift h⟩
  | loop s p f t ps a b d =>
    obtain ⟨r, h1, h2, h3, h4, h5, h6, h7, h8, ⟨o', cap', sz', h9⟩, h10⟩ := hv
    refine ⟨r, hc.trans h1, h2, h3, h4, h5, h6, h7, h8.lift h, ⟨o', cap', sz', ?_⟩, h10⟩
    rcases h9 with h9 | h9
    · exact h.live h9
    · exact .inr (h.dead _ h9)
  | defd t => exact hc.trans hv
  | dead => exact hv
theorem HRel.shrink {h : Hp} (H : HRel X L h w) (hX : ∀ c, X' c → X c) : HRel X' L h w :=
  ⟨H.out, H.dead, fun b x h1 h2 => let ⟨c, o, cap, sz, h3, h4⟩ := H.blk b x h1 h2; ⟨c, o, cap, sz, h3, h4.lift (.shrink hX) rfl⟩, H.inj, H.lt, fun c hc hx => H.far c hc (hX c hx), fun c hc => H.xlt c (hX c hc)⟩
end
end Go.Sy
