/- The orders in which a region that draws its order may run. -/
import Derived.Test.YtapfloegpaadgaaGreatSyRange
import Derived.Orders
set_option linter.unusedVariables false
set_option linter.unusedSimpArgs false
namespace Go.Sy

theorem binds_any (e : Edge) : Region.binds .any e = (match e.ground with | .textOnly _ | .gcOnly _ => false | _ => true) := by
  unfold Region.binds
  cases e.ground <;> rfl
theorem mem_edges {o : Oper} {j : Nat} : j ∈ edgesOf o ↔ ∃ e ∈ o.after, Region.binds .any e = true ∧ e.on = j := by
  unfold edgesOf
  simp only [List.mem_map, List.mem_filter, Array.mem_toList_iff]
  constructor
  · rintro ⟨e, ⟨h1, h2⟩, h3⟩; exact ⟨e, h1, by rw [binds_any]; exact h2, h3⟩
  · rintro ⟨e, h1, h2, h3⟩; exact ⟨e, ⟨h1, by rw [binds_any] at h2; exact h2⟩, h3⟩

theorem countP_lt {α : Type} {p q : α → Bool} : ∀ (l : List α), (∀ x, q x = true → p x = true) → (∃ x ∈ l, p x = true ∧ q x = false) → l.countP q < l.countP p := by
  intro l
  induction l with
  | nil => rintro _ ⟨x, hx, _⟩; cases hx
  | cons a l ih =>
    intro h ⟨x, hx, h1, h2⟩
    have hle : l.countP q ≤ l.countP p := List.countP_mono_left fun x _ => h x
    simp only [List.countP_cons]
    rcases List.mem_cons.1 hx with rfl | hx
    · rw [h1, h2]; simp; omega
    · have := ih h ⟨x, hx, h1, h2⟩
      by_cases hq : q a = true
      · rw [hq, h a hq]; simp; omega
      · have : (if q a = true then 1 else 0) ≤ (if p a = true then 1 else 0) := by rw [if_neg hq]; exact Nat.zero_le _
        omega

section
variable {ops : Array Oper} {an : List Nat}
def unl (ops : Array Oper) (listed : Array Bool) : Nat := (List.range ops.size).countP fun j => !listed.getD j true

theorem sched_go (h1 : ∀ i o, ops[i]? = some o → ∀ e ∈ edgesOf o, e < i) (h2 : ∀ i o j, ops[i]? = some o → j < ops.size → bit an i j = true → ∃ e ∈ edgesOf o, e = j ∨ bit an e j = true) :
    ∀ (fuel t : Nat) (listed : Array Bool), listed.size = ops.size → (∀ i j, listed.getD i false = true → j < ops.size → bit an i j = true → listed.getD j false = true) → unl ops listed ≤ fuel →
      (Region.linearise.go .any ops fuel t listed []).Nodup ∧ (Region.linearise.go .any ops fuel t listed []).Pairwise (fun a b => bit an a b = false) ∧
      ∀ j, j ∈ Region.linearise.go .any ops fuel t listed [] ↔ j < ops.size ∧ listed.getD j false = false := by
  have flip : ∀ (listed : Array Bool) (j : Nat), listed.size = ops.size → (listed.getD j true = false ↔ j < ops.size ∧ listed.getD j false = false) := by
    intro listed j hs
    by_cases hj : j < listed.size
    · simp [hj]; omega
    · simp [Array.getElem?_eq_none (Nat.le_of_not_lt hj)]; omega
  have none_ready : ∀ (listed : Array Bool), listed.size = ops.size → Region.ready .any ops listed = [] → ∀ j, j < ops.size → listed.getD j false = true := by
    intro listed hs hr j
    induction j using Nat.strongRecOn with
    | _ j ih =>
      intro hj
      cases hl : listed.getD j false with
      | true => rfl
      | false =>
        exfalso
        have : j ∈ Region.ready .any ops listed := by
          rw [mem_ready]
          refine ⟨(flip listed j hs).2 ⟨hj, hl⟩, ops[j], by simp [hj], fun e he hb => ?_⟩
          have hlt := h1 j ops[j] (by simp [hj]) e.on (mem_edges.2 ⟨e, he, hb, rfl⟩)
          exact ih _ hlt (by omega)
        rw [hr] at this
        cases this
  intro fuel
  induction fuel with
  | zero =>
    intro t listed hs hc hu
    have hall : ∀ j, j < ops.size → listed.getD j false = true := by
      intro j hj
      cases hl : listed.getD j false with
      | true => rfl
      | false =>
        exfalso
        have : 0 < unl ops listed := List.countP_pos_iff.2 ⟨j, List.mem_range.2 hj, by rw [(flip listed j hs).2 ⟨hj, hl⟩]; rfl⟩
        omega
    refine ⟨by simp [Region.linearise.go], by simp [Region.linearise.go], fun j => ?_⟩
    simp only [Region.linearise.go, List.reverse_nil, List.not_mem_nil, false_iff]
    rintro ⟨hj, hl⟩
    rw [hall j hj] at hl
    cases hl
  | succ fuel ih =>
    intro t listed hs hc hu
    have e : Region.linearise.go .any ops (fuel + 1) t listed [] = (match (Region.ready .any ops listed)[t % (Region.ready .any ops listed).length]? with
      | some i => Region.linearise.go .any ops fuel (t / (Region.ready .any ops listed).length) (listed.setIfInBounds i true) [i]
      | none => [].reverse) := rfl
    rw [e]
    cases hi : (Region.ready .any ops listed)[t % (Region.ready .any ops listed).length]? with
    | none =>
      have hnil : Region.ready .any ops listed = [] := by
        cases hr : Region.ready .any ops listed with
        | nil => rfl
        | cons x xs =>
          rw [hr] at hi
          have hlt : t % (x :: xs).length < (x :: xs).length := Nat.mod_lt _ (by simp)
          simp at hi
          simp at hlt
          omega
      have hall := none_ready listed hs hnil
      refine ⟨by simp, by simp, fun j => ?_⟩
      simp only [List.reverse_nil, List.not_mem_nil, false_iff]
      rintro ⟨hj, hl⟩
      rw [hall j hj] at hl
      cases hl
    | some i =>
      have hir := List.mem_of_getElem? hi
      rw [mem_ready] at hir
      obtain ⟨hi0, o, ho, hedge⟩ := hir
      obtain ⟨hi1, hi2⟩ := (flip listed i hs).1 hi0
      simp only []
      rw [linearise_go_acc, List.reverse_singleton, List.singleton_append]
      have hs' : (listed.setIfInBounds i true).size = ops.size := by simp [hs]
      have anc : ∀ j, j < ops.size → bit an i j = true → listed.getD j false = true := by
        intro j hj hb
        obtain ⟨e, he, hh⟩ := h2 i o j ho hj hb
        obtain ⟨ed, hed, hbd, rfl⟩ := mem_edges.1 he
        have hl := hedge ed hed hbd
        rcases hh with rfl | hh
        · exact hl
        · exact hc _ _ hl hj hh
      have gset : ∀ j, (listed.setIfInBounds i true).getD j false = true ↔ j = i ∨ listed.getD j false = true := by
        intro j
        by_cases hj : j = i
        · subst hj; simp [hs, hi1]
        · rw [getD_set_ne false (Ne.symm hj)]; simp [hj]
      have hc' : ∀ a b, (listed.setIfInBounds i true).getD a false = true → b < ops.size → bit an a b = true → (listed.setIfInBounds i true).getD b false = true := by
        intro a b ha hb hab
        rw [gset] at ha ⊢
        rcases ha with rfl | ha
        · exact .inr (anc b hb hab)
        · exact .inr (hc a b ha hb hab)
      have hu' : unl ops (listed.setIfInBounds i true) ≤ fuel := by
        have : unl ops (listed.setIfInBounds i true) < unl ops listed := by
          refine countP_lt _ (fun x hx => ?_) ⟨i, List.mem_range.2 hi1, by rw [hi0]; rfl, by simp [hs, hi1]⟩
          simp only [Bool.not_eq_true'] at hx ⊢
          rw [flip _ _ hs'] at hx
          rw [flip _ _ hs]
          refine ⟨hx.1, ?_⟩
          have := hx.2
          cases hl : listed.getD x false with
          | false => rfl
          | true => rw [(gset x).2 (.inr hl)] at this; cases this
        omega
      obtain ⟨q1, q2, q3⟩ := ih (t / (Region.ready .any ops listed).length) _ hs' hc' hu'
      refine ⟨List.nodup_cons.2 ⟨fun hm => ?_, q1⟩, List.pairwise_cons.2 ⟨fun b hb => ?_, q2⟩, fun j => ?_⟩
      · have := (q3 i).1 hm
        rw [(gset i).2 (.inl rfl)] at this
        cases this.2
      · cases hbb : bit an i b with
        | false => rfl
        | true =>
          have := (q3 b).1 hb
          rw [(gset b).2 (.inr (anc b this.1 hbb))] at this
          cases this.2
      · rw [List.mem_cons, q3]
        constructor
        · rintro (rfl | ⟨h, h'⟩)
          · exact ⟨hi1, hi2⟩
          · refine ⟨h, ?_⟩
            cases hl : listed.getD j false with
            | false => rfl
            | true => rw [(gset j).2 (.inr hl)] at h'; cases h'
        · rintro ⟨h, h'⟩
          by_cases hj : j = i
          · exact .inl hj
          · refine .inr ⟨h, ?_⟩
            cases hl : (listed.setIfInBounds i true).getD j false with
            | false => rfl
            | true =>
              rcases (gset j).1 hl with hh | hh
              · exact absurd hh hj
              · rw [hh] at h'; cases h'

theorem sched_ok (h1 : ∀ i o, ops[i]? = some o → ∀ e ∈ edgesOf o, e < i) (h2 : ∀ i o j, ops[i]? = some o → j < ops.size → bit an i j = true → ∃ e ∈ edgesOf o, e = j ∨ bit an e j = true) (t : Nat) :
    (Region.linearise .any ops t).Nodup ∧ (Region.linearise .any ops t).Pairwise (fun a b => bit an a b = false) ∧ ∀ j, j ∈ Region.linearise .any ops t ↔ j < ops.size := by
  have hu : unl ops (Array.replicate ops.size false) ≤ ops.size := by
    have := List.countP_le_length (p := fun j => !(Array.replicate ops.size false).getD j true) (l := List.range ops.size)
    simpa [unl] using this
  have hf : ∀ i, (Array.replicate ops.size false).getD i false = false := by
    intro i
    by_cases h : i < ops.size <;> simp [Array.getElem?_replicate, h]
  obtain ⟨q1, q2, q3⟩ := sched_go h1 h2 ops.size t (Array.replicate ops.size false) (by simp) (fun i j hi => by rw [hf] at hi; cases hi) hu
  exact ⟨q1, q2, fun j => by rw [Region.linearise, q3, hf]; simp⟩
end
end Go.Sy
