/- How abstract states and the machine's worlds belong together. -/
import Derived.Test.YtapfloegpaadgaaGreatSyDefs
import Derived.Calls
import Derived.Laws.World
import Derived.Laws.Sem
import Derived.Laws.Cells
set_option linter.unusedVariables false
set_option linter.unusedSimpArgs false
namespace Go.Sy

/-! ### Tries -/
theorem beq_dec (a b : Nat) : Nat.beq a b = decide (a = b) := by
  rw [Bool.eq_iff_iff]; simp [Nat.beq_eq]

theorem T.get?_nil {α : Type} (n : Nat) : (T.nil : T α).get? n = none := rfl
theorem T.get?_node {α : Type} (l r : T α) (v : Option α) (n : Nat) : (T.node l v r).get? n = if n = 0 then v else if n % 2 = 1 then l.get? (n / 2) else r.get? (n / 2 - 1) := by
  have h : (T.node l v r).get? n = bif Nat.beq n 0 then v else bif Nat.beq (n % 2) 1 then l.get? (n / 2) else r.get? (n / 2 - 1) := by
    show Bool.rec (motive := fun _ => Option α) _ _ (Nat.beq n 0) = _
    cases h0 : Nat.beq n 0 <;> simp only [cond_true, cond_false]
    show Bool.rec (motive := fun _ => Option α) _ _ (Nat.beq (n % 2) 1) = _
    cases h1 : Nat.beq (n % 2) 1 <;> rfl
  rw [h]
  simp [beq_dec, Bool.cond_eq_ite]
theorem T.path_get? {α : Type} (x : Option α) : ∀ (f n m : Nat), n + 1 < 2 ^ f → (T.path f n x).get? m = if m = n then x else none := by
  intro f
  induction f with
  | zero => intro n m h; simp at h
  | succ f ih =>
    intro n m h
    have h2 : n + 1 < 2 * 2 ^ f := by rw [Nat.pow_succ] at h; omega
    have e : T.path (f + 1) n x = bif Nat.beq n 0 then .node .nil x .nil else bif Nat.beq (n % 2) 1 then .node (T.path f (n / 2) x) none .nil else .node .nil none (T.path f (n / 2 - 1) x) := rfl
    rw [e]
    simp only [beq_dec, Bool.cond_eq_ite, decide_eq_true_eq]
    split
    · rename_i h0
      subst h0
      rw [T.get?_node]
      split
      · rename_i h1; simp [h1]
      · rename_i h1; simp [T.get?_nil, h1]
    · rename_i h0
      split
      · rename_i h1
        rw [T.get?_node, ih _ _ (by omega)]
        split
        · rename_i hm; rw [if_neg (by omega)]
        · split
          · by_cases hh : m = n
            · subst hh; simp
            · rw [if_neg (by omega), if_neg hh]
          · rw [T.get?_nil, if_neg (by intro hh; subst hh; omega)]
      · rename_i h1
        rw [T.get?_node, ih _ _ (by omega)]
        split
        · rename_i hm; rw [if_neg (by omega)]
        · split
          · rw [T.get?_nil, if_neg (by intro hh; subst hh; omega)]
          · by_cases hh : m = n
            · subst hh; simp
            · rw [if_neg (by omega), if_neg hh]
theorem T.get?_set {α : Type} (t : T α) (n m : Nat) (x : Option α) : (t.set n x).get? m = if m = n then x else t.get? m := by
  induction t generalizing n m with
  | nil =>
    have e : (T.nil : T α).set n x = T.path (Nat.log2 n + 2) n x := rfl
    rw [e, T.path_get? x _ n m (by have := @Nat.lt_log2_self n; rw [Nat.pow_succ]; omega), T.get?_nil]
  | node l v r ihl ihr =>
    have e : (T.node l v r).set n x = bif Nat.beq n 0 then .node l x r else bif Nat.beq (n % 2) 1 then .node (l.set (n / 2) x) v r else .node l v (r.set (n / 2 - 1) x) := by
      show Bool.rec (motive := fun _ => T α) _ _ (Nat.beq n 0) = _
      cases h0 : Nat.beq n 0 <;> simp only [cond_true, cond_false]
      show Bool.rec (motive := fun _ => T α) _ _ (Nat.beq (n % 2) 1) = _
      cases h1 : Nat.beq (n % 2) 1 <;> rfl
    rw [e]
    simp only [beq_dec, Bool.cond_eq_ite, decide_eq_true_eq]
    split
    · rename_i h0
      subst h0
      rw [T.get?_node, T.get?_node]
      split
      · rename_i h1; simp [h1]
      · rename_i h1; simp [h1]
    · rename_i h0
      split
      · rename_i h1
        rw [T.get?_node, T.get?_node, ihl]
        split
        · rename_i hm; rw [if_neg (by omega)]
        · split
          · by_cases hh : m = n
            · subst hh; simp
            · rw [if_neg (by omega), if_neg hh]
          · rw [if_neg (by intro hh; subst hh; omega)]
      · rename_i h1
        rw [T.get?_node, T.get?_node, ihr]
        split
        · rename_i hm; rw [if_neg (by omega)]
        · split
          · rw [if_neg (by intro hh; subst hh; omega)]
          · by_cases hh : m = n
            · subst hh; simp
            · rw [if_neg (by omega), if_neg hh]

/-! ### Values -/
inductive Stat where
  | absent
  | dead
  | live (c o cap sz : Nat)
abbrev Loc := Nat → Stat
def Owned (L : Loc) (c : Nat) : Prop := ∃ b o cap sz, L b = .live c o cap sz

/-- no block is named in it -/
inductive Free : AV → Prop where
  | bool (b : Bool) : Free (.bool b)
  | int (k : IntKind) (n : Int) : Free (.int k n)
  | str (s : ByteArray) : Free (.str s)
  | nilp : Free .nilp
  | nils : Free .nils
  | nilm : Free .nilm
  | nilf : Free .nilf
  | nili : Free .nili
  | junk : Free .junk
  | iptr {cs : List AV} (off : Nat) (h : ∀ v ∈ cs, Free v) : Free (.iptr cs off)
  | imm {es : List AV} (sz : Nat) (clip : Bool) (h : ∀ v ∈ es, Free v) : Free (.imm sz es clip)
  | fn {fs cs : List AV} (g : Nat) (h1 : ∀ v ∈ fs, Free v) (h2 : ∀ v ∈ cs, Free v) : Free (.fn (.func g) fs cs)
  | iface {v : AV} (t : Nat) (h : Free v) : Free (.iface t v)
  | agg {cs : List AV} (h : ∀ v ∈ cs, Free v) : Free (.agg cs)
  | tup {cs : List AV} (h : ∀ v ∈ cs, Free v) : Free (.tup cs)
theorem Free.cells {v : AV} (h : Free v) : ∀ u ∈ v.cells, Free u := by
  intro u hu
  cases h with
  | agg h => exact h u hu
  | _ => simp [AV.cells] at hu; subst hu; constructor <;> assumption

/-- X: blocks that others own. -/
inductive VRel (X : Nat → Prop) (L : Loc) (w : World) : AV → Value → Prop where
  | bool (b : Bool) : VRel X L w (.bool b) (.bool b)
  | int (k : IntKind) (n : Int) : VRel X L w (.int k n) (.int k n)
  | str (s : ByteArray) : VRel X L w (.str s) (.string s)
  | nilp : VRel X L w .nilp (.pointer none)
  | ptr {b off c o cap sz : Nat} (h : L b = .live c o cap sz) : VRel X L w (.ptr b off) (.pointer (some ⟨c, o + off, none⟩))
  | ptrD {b off : Nat} {x : Value} (h : L b = .dead) (h1 : x.oneCell' = true) : VRel X L w (.ptr b off) x
  | iptr {cs : List AV} {off bl o : Nat} (xs : Nat → Value) (h1 : ¬ Owned L bl) (h2 : ¬ X bl) (h3 : bl < w.heap.size)
      (h4 : ∀ j v, cs[j]? = some v → w.cell? ⟨bl, o + j, none⟩ = some (xs j)) (h5 : ∀ j v, cs[j]? = some v → VRel X L w v (xs j)) (h6 : ∀ v ∈ cs, Free v) :
      VRel X L w (.iptr cs off) (.pointer (some ⟨bl, o + off, none⟩))
  | nils : VRel X L w .nils (.slice none 0 0)
  | sl {b off len sz c o cap dz cap' : Nat} (h : L b = .live c o cap dz) (h1 : len ≤ cap') (h2 : off + cap' * sz ≤ cap) : VRel X L w (.sl b off len sz) (.slice (some ⟨c, o + off, none⟩) len cap')
  | slE {b off sz : Nat} {a : Addr} (h : L b ≠ .absent) : VRel X L w (.sl b off 0 sz) (.slice (some a) 0 0)
  | slD {b off len sz : Nat} {x : Value} (h : L b = .dead) (h1 : x.oneCell' = true) : VRel X L w (.sl b off len sz) x
  | immE {sz : Nat} {A : Option Addr} {cap : Nat} {clip : Bool} (h : clip = true → cap = 0) : VRel X L w (.imm sz [] clip) (.slice A 0 cap)
  | imm {es : List AV} {clip : Bool} {bl o cap sz : Nat} (xs : Nat → Value) (h0 : es ≠ []) (h1 : ¬ Owned L bl) (h2 : ¬ X bl) (h3 : bl < w.heap.size)
      (h4 : ∀ j v, (es.flatMap AV.cells)[j]? = some v → w.cell? ⟨bl, o + j, none⟩ = some (xs j)) (h5 : ∀ j v, (es.flatMap AV.cells)[j]? = some v → VRel X L w v (xs j))
      (h6 : es.length ≤ cap) (h7 : clip = true → cap = es.length) (h8 : ∀ e ∈ es, e.cells.length = sz) (h9 : ∀ e ∈ es, Free e) :
      VRel X L w (.imm sz es clip) (.slice (some ⟨bl, o, none⟩) es.length cap)
  | nilm : VRel X L w .nilm (.map none)
  | map {b c o cap sz : Nat} (h : L b = .live c o cap sz) : VRel X L w (.map b) (.map (some c))
  | mapD {b : Nat} {x : Value} (h : L b = .dead) (h1 : x.oneCell' = true) : VRel X L w (.map b) x
  | nilf : VRel X L w .nilf .nilFunc
  | fn {g : Nat} {fs cs : List AV} {fs' cs' : Array Value} (h1 : fs.length = fs'.size) (h2 : cs.length = cs'.size)
      (h3 : ∀ (j : Nat) (v : AV) (x : Value), fs[j]? = some v → fs'[j]? = some x → VRel X L w v x) (h4 : ∀ (j : Nat) (v : AV) (x : Value), cs[j]? = some v → cs'[j]? = some x → VRel X L w v x) :
      VRel X L w (.fn (.func g) fs cs) (.func (.func g) fs' cs')
  | fnY {l c o cap sz : Nat} (h : L l = .live c o cap sz) : VRel X L w (.fn (.yield l) [] []) (.func (.yield c) #[] #[])
  | fnD {l : Nat} {x : Value} (h : L l = .dead) (h1 : x.oneCell' = true) : VRel X L w (.fn (.yield l) [] []) x
  | nili : VRel X L w .nili .nilIface
  | iface {t : Nat} {v : AV} {x : Value} (h : VRel X L w v x) : VRel X L w (.iface t v) (.iface t x)
  | agg {cs : List AV} {xs : Array Value} (h1 : cs.length = xs.size) (h2 : ∀ (j : Nat) (v : AV) (x : Value), cs[j]? = some v → xs[j]? = some x → VRel X L w v x) : VRel X L w (.agg cs) (.agg xs)
  | tup {cs : List AV} {xs : Array Value} (h1 : cs.length = xs.size) (h2 : ∀ (j : Nat) (v : AV) (x : Value), cs[j]? = some v → xs[j]? = some x → VRel X L w v x) : VRel X L w (.tup cs) (.tuple xs)
  | junk (x : Value) : VRel X L w .junk x

/-- From one world to a later one: whatever is not owned lies as it lay. -/
structure Ext (L : Loc) (w : World) (L' : Loc) (w' : World) : Prop where
  size : w.heap.size ≤ w'.heap.size
  same : ∀ c, c < w.heap.size → ¬ Owned L c → w'.heap[c]? = w.heap[c]?
  loc : ∀ b, L b ≠ .absent → L' b = L b ∨ L' b = .dead
  own : ∀ c, Owned L' c → Owned L c ∨ w.heap.size ≤ c
  os : w'.os = w.os
  tape : w'.tape = w.tape
  output : w'.output = w.output

theorem Ext.refl (L : Loc) (w : World) : Ext L w L w := ⟨Nat.le_refl _, fun _ _ _ => rfl, fun _ _ => .inl rfl, fun _ h => .inl h, rfl, rfl, rfl⟩
theorem Ext.trans {L L' L'' : Loc} {w w' w'' : World} (h : Ext L w L' w') (k : Ext L' w' L'' w'') : Ext L w L'' w'' := by
  refine ⟨Nat.le_trans h.size k.size, fun c hc ho => ?_, fun b hb => ?_, fun c hc => ?_, k.os.trans h.os, k.tape.trans h.tape, k.output.trans h.output⟩
  · rw [k.same c (Nat.lt_of_lt_of_le hc h.size), h.same c hc ho]
    intro ho'
    rcases h.own c ho' with h1 | h1
    · exact ho h1
    · omega
  · rcases h.loc b hb with h1 | h1
    · rcases k.loc b (by rw [h1]; exact hb) with h2 | h2
      · exact .inl (h2.trans h1)
      · exact .inr h2
    · rcases k.loc b (by rw [h1]; simp) with h2 | h2
      · exact .inr (h2.trans h1)
      · exact .inr h2
  · rcases k.own c hc with h1 | h1
    · exact h.own c h1
    · exact .inr (Nat.le_trans h.size h1)

theorem Ext.cell {L L' : Loc} {w w' : World} (h : Ext L w L' w') {bl o : Nat} (h1 : ¬ Owned L bl) (h2 : bl < w.heap.size) : w'.cell? ⟨bl, o, none⟩ = w.cell? ⟨bl, o, none⟩ := by
  unfold World.cell?
  rw [h.same bl h2 h1]

theorem VRel.mono {X : Nat → Prop} {L L' : Loc} {w w' : World} (h : Ext L w L' w') {v : AV} {x : Value} (hv : VRel X L w v x) : VRel X L' w' v x := by
  have nown : ∀ bl, ¬ Owned L bl → bl < w.heap.size → ¬ Owned L' bl := by
    intro bl h1 h2 h3
    rcases h.own bl h3 with h4 | h4
    · exact h1 h4
    · omega
  have nab : ∀ b, L b ≠ .absent → L' b ≠ .absent := by
    intro b hb
    rcases h.loc b hb with h1 | h1 <;> rw [h1]
    · exact hb
    · simp
  have dead : ∀ b, L b = .dead → L' b = .dead := by
    intro b hb
    rcases h.loc b (by rw [hb]; simp) with h1 | h1
    · exact h1.trans hb
    · exact h1
  induction hv with
  | bool b => exact .bool b
  | int k n => exact .int k n
  | str s => exact .str s
  | nilp => exact .nilp
  | @ptr b off c o cap sz h1 =>
    rcases h.loc b (by rw [h1]; simp) with h2 | h2
    · exact .ptr (h2.trans h1)
    · exact .ptrD h2 rfl
  | ptrD h1 h2 => exact .ptrD (dead _ h1) h2
  | iptr xs h1 h2 h3 h4 h5 h6 ih => exact .iptr xs (nown _ h1 h3) h2 (Nat.lt_of_lt_of_le h3 h.size) (fun j v hj => (h.cell h1 h3).trans (h4 j v hj)) ih h6
  | nils => exact .nils
  | @sl b off len sz c o cap dz cap' h1 h2 h3 =>
    rcases h.loc b (by rw [h1]; simp) with h4 | h4
    · exact .sl (h4.trans h1) h2 h3
    · exact .slD h4 rfl
  | slE h1 => exact .slE (nab _ h1)
  | slD h1 h2 => exact .slD (dead _ h1) h2
  | immE h1 => exact .immE h1
  | imm xs h0 h1 h2 h3 h4 h5 h6 h7 h8 h9 ih => exact .imm xs h0 (nown _ h1 h3) h2 (Nat.lt_of_lt_of_le h3 h.size) (fun j v hj => (h.cell h1 h3).trans (h4 j v hj)) ih h6 h7 h8 h9
  | nilm => exact .nilm
  | @map b c o cap sz h1 =>
    rcases h.loc b (by rw [h1]; simp) with h2 | h2
    · exact .map (h2.trans h1)
    · exact .mapD h2 rfl
  | mapD h1 h2 => exact .mapD (dead _ h1) h2
  | nilf => exact .nilf
  | fn h1 h2 h3 h4 ih1 ih2 => exact .fn h1 h2 ih1 ih2
  | @fnY l c o cap sz h1 =>
    rcases h.loc l (by rw [h1]; simp) with h2 | h2
    · exact .fnY (h2.trans h1)
    · exact .fnD h2 rfl
  | fnD h1 h2 => exact .fnD (dead _ h1) h2
  | nili => exact .nili
  | iface h1 ih => exact .iface ih
  | agg h1 h2 ih => exact .agg h1 ih
  | tup h1 h2 ih => exact .tup h1 ih
  | junk x => exact .junk x

/-- a value of one cell -/
theorem VRel.one {X : Nat → Prop} {L : Loc} {w : World} {v : AV} {x : Value} (hv : VRel X L w v x) (h : v.leaf = true) : x.oneCell' = true := by
  cases hv <;> first | rfl | assumption | (simp [AV.leaf] at h)

/-- rows of values -/
def VRels (X : Nat → Prop) (L : Loc) (w : World) (vs : List AV) (xs : List Value) : Prop := vs.length = xs.length ∧ ∀ (j : Nat) (v : AV) (x : Value), vs[j]? = some v → xs[j]? = some x → VRel X L w v x
theorem VRels.mono {X : Nat → Prop} {L L' : Loc} {w w' : World} (h : Ext L w L' w') {vs : List AV} {xs : List Value} (hv : VRels X L w vs xs) : VRels X L' w' vs xs :=
  ⟨hv.1, fun j v x h1 h2 => (hv.2 j v x h1 h2).mono h⟩
theorem VRels.nil {X : Nat → Prop} {L : Loc} {w : World} : VRels X L w [] [] := ⟨rfl, fun j v x h => by simp at h⟩
theorem VRels.cons {X : Nat → Prop} {L : Loc} {w : World} {v : AV} {x : Value} {vs : List AV} {xs : List Value} (h : VRel X L w v x) (hs : VRels X L w vs xs) : VRels X L w (v :: vs) (x :: xs) :=
  ⟨by simp [hs.1], fun j u y h1 h2 => by
    cases j with
    | zero => simp at h1 h2; subst h1; subst h2; exact h
    | succ j => exact hs.2 j u y (by simpa using h1) (by simpa using h2)⟩
theorem VRels.cons_inv {X : Nat → Prop} {L : Loc} {w : World} {v : AV} {vs : List AV} {ys : List Value} (h : VRels X L w (v :: vs) ys) : ∃ x xs, ys = x :: xs ∧ VRel X L w v x ∧ VRels X L w vs xs := by
  cases ys with
  | nil => have := h.1; simp at this
  | cons x xs =>
    refine ⟨x, xs, rfl, h.2 0 v x rfl rfl, by have := h.1; simpa using this, fun j u y h1 h2 => h.2 (j + 1) u y (by simpa using h1) (by simpa using h2)⟩
theorem VRels.append {X : Nat → Prop} {L : Loc} {w : World} {vs us : List AV} {xs ys : List Value} (h : VRels X L w vs xs) (k : VRels X L w us ys) : VRels X L w (vs ++ us) (xs ++ ys) := by
  induction vs generalizing xs with
  | nil =>
    have : xs = [] := by have := h.1; simp at this; exact List.eq_nil_of_length_eq_zero this.symm
    subst this; simpa using k
  | cons v vs ih =>
    obtain ⟨x, xs, rfl, h1, h2⟩ := h.cons_inv
    exact (ih h2).cons h1
theorem VRels.get {X : Nat → Prop} {L : Loc} {w : World} {vs : List AV} {xs : List Value} (h : VRels X L w vs xs) {j : Nat} {v : AV} (hj : vs[j]? = some v) : ∃ x, xs[j]? = some x ∧ VRel X L w v x := by
  obtain ⟨hl, -⟩ := List.getElem?_eq_some_iff.1 hj
  have hx : j < xs.length := by have := h.1; omega
  exact ⟨xs[j], List.getElem?_eq_getElem hx, h.2 j v _ hj (List.getElem?_eq_getElem hx)⟩
theorem VRels.drop {X : Nat → Prop} {L : Loc} {w : World} {vs : List AV} {xs : List Value} (h : VRels X L w vs xs) (n : Nat) : VRels X L w (vs.drop n) (xs.drop n) :=
  ⟨by simp [h.1], fun j v x h1 h2 => h.2 (n + j) v x (by simpa using h1) (by simpa using h2)⟩
theorem VRels.take {X : Nat → Prop} {L : Loc} {w : World} {vs : List AV} {xs : List Value} (h : VRels X L w vs xs) (n : Nat) : VRels X L w (vs.take n) (xs.take n) :=
  ⟨by simp [h.1], fun j v x h1 h2 => by
    rw [List.getElem?_take] at h1 h2
    split at h1
    · rename_i hj; rw [if_pos hj] at h2; exact h.2 j v x h1 h2
    · simp at h1⟩

theorem cells_one {x : Value} (h : x.oneCell' = true) : x.cells = #[x] := by
  cases x <;> first | rfl | (simp [Value.oneCell'] at h)
theorem VRels.one {X : Nat → Prop} {L : Loc} {w : World} {v : AV} {x : Value} (h : VRel X L w v x) : VRels X L w [v] [x] := VRels.nil.cons h
/-- the cells of a value -/
theorem VRel.cells {X : Nat → Prop} {L : Loc} {w : World} {v : AV} {x : Value} (hv : VRel X L w v x) (h : v.solid = true) : VRels X L w v.cells x.cells.toList := by
  by_cases hl : v.leaf = true
  · rw [cells_one (hv.one hl)]
    have : v.cells = [v] := by cases v <;> first | rfl | (simp [AV.leaf] at hl)
    rw [this]
    exact .one hv
  · cases hv with
    | agg h1 h2 => exact ⟨by simpa [AV.cells, Value.cells] using h1, fun j v x hj hx => h2 j v x hj (by simpa [Value.cells] using hx)⟩
    | tup h1 h2 => exact .one (.tup h1 h2)
    | junk x => simp [AV.solid] at h
    | _ => simp [AV.leaf] at hl

/-! ### Blocks, worlds, frames -/
inductive ERels (X : Nat → Prop) (L : Loc) (w : World) : List (Int × AV) → List MapEntry → Prop where
  | nil : ERels X L w [] []
  | cons {k : Int} {v : AV} {e : MapEntry} {es : List (Int × AV)} {fs : List MapEntry} (h1 : e.key = .int .i64 k) (h2 : VRel X L w v e.val) (h3 : ERels X L w es fs) : ERels X L w ((k, v) :: es) (e :: fs)
theorem ERels.mono {X : Nat → Prop} {L L' : Loc} {w w' : World} (h : Ext L w L' w') {es : List (Int × AV)} {fs : List MapEntry} (hv : ERels X L w es fs) : ERels X L' w' es fs := by
  induction hv with
  | nil => exact .nil
  | cons h1 h2 h3 ih => exact .cons h1 (h2.mono h) ih

/-- temporaries -/
def TRel (X : Nat → Prop) (L : Loc) (w : World) (t : T AV) (ts : Array Value) : Prop := ∀ (i : Nat) (v : AV), t.get? i = some v → ∃ x, ts[i]? = some x ∧ VRel X L w v x
theorem TRel.mono {X : Nat → Prop} {L L' : Loc} {w w' : World} (h : Ext L w L' w') {t : T AV} {ts : Array Value} (hv : TRel X L w t ts) : TRel X L' w' t ts :=
  fun i v hi => let ⟨x, h1, h2⟩ := hv i v hi; ⟨x, h1, h2.mono h⟩

/-- what a block is in the world: at c, from cell o on, cap cells of it -/
def BRel (X : Nat → Prop) (L : Loc) (w : World) (c o cap sz : Nat) : Blk → Prop
  | .cells cs => ∃ arr e, w.heap[c]? = some (.cells arr e (0, 0)) ∧ o + cap ≤ arr.size ∧ cs.length ≤ cap ∧ VRels X L w cs ((arr.toList.drop o).take cs.length)
  | .map es => ∃ fs clock, w.heap[c]? = some (.map fs clock) ∧ ERels X L w es fs.toList
  | .loop s p f t ps a b d => ∃ r : Loop, w.heap[c]? = some (.loop r) ∧ r.state = s ∧ r.pending = p ∧ r.fn = f ∧ r.params = ps.toArray ∧ r.assign = a ∧ r.body = b ∧ TRel X L w t r.tmps ∧ (∃ o' cap' sz', L d = .live r.defers o' cap' sz' ∨ L d = .dead) ∧ codeOK r.tmps.size a = true ∧ codeOK r.tmps.size b = true ∧ ∀ p ∈ ps, p < r.tmps.size
  | .defd taken => w.heap[c]? = some (.deferred (if taken then none else some []))
  | .dead => False

/-- an abstract heap: what is laid, and what is not yet -/
abbrev Hp := Nat → Option Blk
noncomputable def St.hp (st : St) : Hp := fun b => if b < st.next then some (st.get b) else none

structure HRel (X : Nat → Prop) (L : Loc) (h : Hp) (w : World) : Prop where
  out : ∀ b, h b = none → L b = .absent
  dead : ∀ b, h b = some .dead → L b = .dead
  blk : ∀ b x, h b = some x → x.alive = true → ∃ c o cap sz, L b = .live c o cap sz ∧ BRel X L w c o cap sz x
  inj : ∀ b b' c o cap sz o' cap' sz', L b = .live c o cap sz → L b' = .live c o' cap' sz' → b = b'
  lt : ∀ c, Owned L c → c < w.heap.size
  far : ∀ c, Owned L c → ¬ X c
  xlt : ∀ c, X c → c < w.heap.size
abbrev WRel (X : Nat → Prop) (L : Loc) (st : St) (w : World) : Prop := HRel X L st.hp w

inductive DRel (X : Nat → Prop) (L : Loc) (w : World) : ADef → Deferred → Prop where
  | call {g : Nat} {cap args : List AV} {cap' args' : Array Value} (h1 : VRels X L w cap cap'.toList) (h2 : VRels X L w args args'.toList) :
      DRel X L w { f := .fn (.func g) [] cap, args, coll := none } { target := .fn (.func g) cap', args := args' }
  | coll {f : AV} {args : List AV} {b c o cap sz : Nat} (h : L b = .live c o cap sz) : DRel X L w { f, args, coll := some b } { target := .collected c, args := #[] }
  | collD {f : AV} {args : List AV} {b : Nat} {d : Deferred} (h : L b = .dead) : DRel X L w { f, args, coll := some b } d
theorem DRel.mono {X : Nat → Prop} {L L' : Loc} {w w' : World} (h : Ext L w L' w') {d : ADef} {d' : Deferred} (hv : DRel X L w d d') : DRel X L' w' d d' := by
  cases hv with
  | call h1 h2 => exact .call (h1.mono h) (h2.mono h)
  | @coll f args b c o cap sz h1 =>
    rcases h.loc b (by rw [h1]; simp) with h2 | h2
    · exact .coll (h2.trans h1)
    · exact .collD h2
  | collD h1 =>
    rcases h.loc _ (by rw [h1]; simp) with h2 | h2
    · exact .collD (h2.trans h1)
    · exact .collD h2
inductive DRels (X : Nat → Prop) (L : Loc) (w : World) : List ADef → List Deferred → Prop where
  | nil : DRels X L w [] []
  | cons {d : ADef} {e : Deferred} {ds : List ADef} {es : List Deferred} (h1 : DRel X L w d e) (h2 : DRels X L w ds es) : DRels X L w (d :: ds) (e :: es)
theorem DRels.mono {X : Nat → Prop} {L L' : Loc} {w w' : World} (h : Ext L w L' w') {d : List ADef} {d' : List Deferred} (hv : DRels X L w d d') : DRels X L' w' d d' := by
  induction hv with
  | nil => exact .nil
  | cons h1 h2 ih => exact .cons (h1.mono h) ih

structure FRel (X : Nat → Prop) (L : Loc) (w : World) (fr : Fr) (F : Frame) : Prop where
  fn : F.fn = fr.fn
  tmps : TRel X L w fr.tmps F.tmps
  defs : DRels X L w fr.defs F.defers
  round : match fr.round with
    | none => F.roundOf = none
    | some l => ∃ c, F.roundOf = some c ∧ ((∃ o cap sz, L l = .live c o cap sz) ∨ L l = .dead)

theorem BRel.mono {X : Nat → Prop} {L L' : Loc} {w w' : World} (h : Ext L w L' w') {c o cap sz : Nat} {x : Blk} (hc : w'.heap[c]? = w.heap[c]?) (hv : BRel X L w c o cap sz x) : BRel X L' w' c o cap sz x := by
  cases x with
  | cells cs =>
    obtain ⟨arr, e, h1, h2, h3, h4⟩ := hv
    exact ⟨arr, e, hc.trans h1, h2, h3, h4.mono h⟩
  | map es =>
    obtain ⟨fs, k, h1, h2⟩ := hv
    exact ⟨fs, k, hc.trans h1, h2.mono h⟩
  | loop s p f t ps a b d =>
    obtain ⟨r, h1, h2, h3, h4, h5, h6, h7, h8, ⟨o', cap', sz', h9⟩, h10⟩ := hv
    refine ⟨r, hc.trans h1, h2, h3, h4, h5, h6, h7, h8.mono h, ⟨o', cap', sz', ?_⟩, h10⟩
    rcases h9 with h9 | h9
    · rcases h.loc d (by rw [h9]; simp) with k | k
      · exact .inl (k.trans h9)
      · exact .inr k
    · rcases h.loc d (by rw [h9]; simp) with k | k
      · exact .inr (k.trans h9)
      · exact .inr k
  | defd t => exact hc.trans hv
  | dead => exact hv

end Go.Sy
