/- The operations that lay a new block. -/
import Derived.Test.YtapfloegpaadgaaGreatSyVal4
set_option linter.unusedVariables false
set_option linter.unusedSimpArgs false
namespace Go.Sy

section
variable {P : Program} {tb : Tab} {X : Nat → Prop} {L : Loc} {w : World} {st : St} {ρ : Operand → AV} {ρc : Operand → Value}

def NewOK (P : Program) (X : Nat → Prop) (L : Loc) (w : World) (ρc : Operand → Value) (o : Oper) (blk : Blk) (mk : Nat → AV) : Prop :=
  ∃ x obj cap sz, (execOp ρc o).run P w = .ok (.value x) (w.alloc obj) ∧ ∀ (L' : Loc) (b : Nat), L' b = .live w.heap.size 0 cap sz → Ext L w L' (w.alloc obj) → VRel X L' (w.alloc obj) (mk b) x ∧ BRel X L' (w.alloc obj) w.heap.size 0 cap sz blk

theorem alloc_get (w : World) (o : Obj) : (w.alloc o).heap[w.heap.size]? = some o := by
  show (w.heap.push o)[w.heap.size]? = some o
  simp

theorem new_cells {blk : List AV} {cells : Array Value} {e : Nat} (h : VRels X L w blk cells.toList) {L' : Loc} (hE : Ext L w L' (w.alloc (.cells cells e))) {sz : Nat} :
    BRel X L' (w.alloc (.cells cells e)) w.heap.size 0 cells.size sz (.cells blk) := by
  refine ⟨cells, e, alloc_get _ _, by omega, by have := h.1; simp at this; omega, ?_⟩
  have hl : blk.length = cells.toList.length := h.1
  have : (cells.toList.drop 0).take blk.length = cells.toList := by rw [hl, List.drop_zero, List.take_length]
  rw [this]
  exact h.mono hE

theorem ok_alloc (hT : TabOK P tb) {o : Oper} {e : Nat} (ho : o.op = .alloc e) {blk : Blk} {mk : Nat → AV} (h : aNew tb ρ (.alloc e) = some (blk, mk)) : NewOK P X L w ρc o blk mk := by
  simp only [aNew, nAlloc, nBox, nBuild, nMake] at h
  split at h
  · rename_i z hz
    cases h
    obtain ⟨z', hz1, hz2⟩ := hT.run_zero hz w
    refine ⟨.pointer (some ⟨w.heap.size, 0, none⟩), .cells z'.cells e, z'.cells.size, 0, ?_, fun L' b hb hE => ⟨?_, new_cells (zero_cells hz2) hE⟩⟩
    · simp [execOp, ho, Instr.alloc, hz1, newVar, newRow]
    · have := VRel.ptr (X := X) (w := w.alloc (.cells z'.cells e)) (off := 0) hb
      simpa using this
  · cases h

theorem ok_box (hρ : OpRel X L w ρ ρc) {o : Oper} {e : Nat} {x : Operand} (ho : o.op = .box e x) {blk : Blk} {mk : Nat → AV} (h : aNew tb ρ (.box e x) = some (blk, mk)) : NewOK P X L w ρc o blk mk := by
  simp only [aNew, nAlloc, nBox, nBuild, nMake] at h
  split at h
  · rename_i hs
    cases h
    refine ⟨.pointer (some ⟨w.heap.size, 0, none⟩), .cells (ρc x).cells e, (ρc x).cells.size, 0, ?_, fun L' b hb hE => ⟨?_, new_cells ((hρ x).cells hs) hE⟩⟩
    · simp [execOp, ho, Instr.box, newVar, newRow]
    · have := VRel.ptr (X := X) (w := w.alloc (.cells (ρc x).cells e)) (off := 0) hb
      simpa using this
  · cases h

theorem ok_makeMap {o : Oper} {t : Nat} (ho : o.op = .makeMap t none) {blk : Blk} {mk : Nat → AV} (h : aNew tb ρ (.makeMap t none) = some (blk, mk)) : NewOK P X L w ρc o blk mk := by
  simp only [aNew, nAlloc, nBox, nBuild, nMake] at h
  cases h
  refine ⟨.map (some w.heap.size), .map #[] 0, 0, 0, ?_, fun L' b hb hE => ⟨.map hb, #[], 0, alloc_get _ _, .nil⟩⟩
  simp [execOp, ho, Instr.makeMap]

theorem repeatL_length (z : List AV) (n : Nat) : (repeatL z n).length = n * z.length := by
  induction n with
  | zero => simp [repeatL]
  | succ n ih => simp [repeatL, ih, Nat.succ_mul, Nat.add_comm]
theorem repeatL_get (z : List AV) (hz : 0 < z.length) (n j : Nat) (hj : j < n * z.length) : (repeatL z n)[j]? = z[j % z.length]? := by
  induction n generalizing j with
  | zero => simp at hj
  | succ n ih =>
    simp only [repeatL]
    by_cases h : j < z.length
    · rw [List.getElem?_append_left h, Nat.mod_eq_of_lt h]
    · rw [List.getElem?_append_right (by omega), ih _ (by rw [Nat.succ_mul] at hj; omega), ← Nat.mod_eq_sub_mod (by omega)]
theorem zeros_ok {z : List AV} {zc : Array Value} (h : VRels X L w z zc.toList) (hz : 0 < z.length) (n : Nat) : VRels X L w (repeatL z n) ((Array.range (n * zc.size)).map (fun i => zc[i % zc.size]!)).toList := by
  have hl : z.length = zc.size := by simpa using h.1
  refine ⟨by rw [repeatL_length]; simp [hl], fun j v x h1 h2 => ?_⟩
  obtain ⟨hj, -⟩ := List.getElem?_eq_some_iff.1 h1
  rw [repeatL_length] at hj
  rw [repeatL_get z hz n j hj] at h1
  have hm : j % zc.size < zc.size := Nat.mod_lt _ (by omega)
  simp only [Array.toList_map, Array.toList_range, List.getElem?_map, Option.map_eq_some_iff] at h2
  obtain ⟨i, hi, rfl⟩ := h2
  obtain ⟨hr, hr2⟩ := List.getElem?_eq_some_iff.1 hi
  simp at hr2
  subst hr2
  rw [hl] at h1
  exact h.2 _ _ _ h1 (by rw [getElem!_pos zc (j % zc.size) hm]; simp [hm])

theorem ok_buildSlice (hT : TabOK P tb) (hρ : OpRel X L w ρ ρc) {o : Oper} {t len : Nat} {parts : Array (Nat × Operand)} (ho : o.op = .buildSlice t len parts) {blk : Blk} {mk : Nat → AV} (h : aNew tb ρ (.buildSlice t len parts) = some (blk, mk)) : NewOK P X L w ρc o blk mk := by
  simp only [aNew, nAlloc, nBox, nBuild, nMake] at h
  have hp := parts_rel hρ parts
  split at h
  · rename_i e hu
    split at h
    · rename_i size z hs hz
      split at h
      · rename_i hc
        obtain ⟨hc1, hc2⟩ := hc
        split at h
        · rename_i cs hf
          cases h
          obtain ⟨z', hz1, hz2⟩ := hT.run_zero hz w
          have hzc := zero_cells (X := X) (L := L) (w := w) hz2
          have hzl : z'.cells.size = size + 1 := by have := hzc.1; simp at this; omega
          have hzero := zeros_ok hzc (by omega) len
          obtain ⟨r', h1, h2⟩ := fill_ok _ _ _ _ _ hp.1 hp.2 hzero hf
          refine ⟨.slice (some ⟨w.heap.size, 0, none⟩) len len, .cells r' e, r'.size, size + 1, ?_, fun L' b hb hE => ⟨?_, new_cells h2 hE⟩⟩
          · have hlarge : ¬ (2 ^ 24 < len * (size + 1)) := by omega
            by_cases h0 : len * (size + 1) = 0
            · have hl0 : len = 0 := by rcases Nat.mul_eq_zero.1 h0 with h | h <;> omega
              subst hl0
              have hz0 : ∀ f : Nat → Value, (Array.range (0 * (size + 1))).map f = #[] := fun f => by simp
              have hz1' : ∀ f : Nat → Value, (Array.range (0 * z'.cells.size)).map f = #[] := fun f => by simp
              rw [hz1'] at h1
              simp only [execOp, ho, Instr.buildSlice, Sem.run_bind, hT.run_under hu, hT.run_size hs, Result.andThen_ok, gt_iff_lt, hlarge, if_false, h0, if_true, Sem.run_pure]
              have hz2' : ∀ f : Nat → Value, (Array.range 0).map f = #[] := fun f => by simp
              simp only [hz2', h1]
              rfl
            · rw [hzl] at h1
              simp only [execOp, ho, Instr.buildSlice, Sem.run_bind, hT.run_under hu, hT.run_size hs, Result.andThen_ok, gt_iff_lt, hlarge, if_false, h0, hz1, Sem.run_pure, hzl, h1]
              rfl
          · have hlen : r'.size = len * (size + 1) := by
              have e1 := h2.1
              have e2 : ∀ (place : Nat → Option (Nat × Nat)) (cells : List AV) (parts : List (Nat × AV)) (r : List AV), aFill place cells parts = some r → r.length = cells.length := by
                intro place cells parts
                induction parts generalizing cells with
                | nil => intro r h; simp [aFill] at h; subst h; rfl
                | cons p ps ih =>
                  intro r h
                  obtain ⟨i, v⟩ := p
                  simp only [aFill] at h
                  split at h
                  · cases h
                  · split at h
                    · rw [ih _ _ h, setL_length]
                    · cases h
              have e3 := e2 _ _ _ _ hf
              rw [repeatL_length, hc1] at e3
              simp at e1
              omega
            have := VRel.sl (X := X) (w := w.alloc (.cells r' e)) (off := 0) (len := len) (sz := size + 1) (cap' := len) hb (Nat.le_refl _) (by omega)
            simpa using this
        · cases h
      · cases h
    · cases h
  · cases h

theorem ok_makeSlice (hT : TabOK P tb) (hρ : OpRel X L w ρ ρc) {o : Oper} {t : Nat} {l c : Operand} (ho : o.op = .makeSlice t l c) {blk : Blk} {mk : Nat → AV} (h : aNew tb ρ (.makeSlice t l c) = some (blk, mk)) : NewOK P X L w ρc o blk mk := by
  simp only [aNew, nAlloc, nBox, nBuild, nMake] at h
  have hl := hρ l
  have hcc := hρ c
  split at h
  · rename_i e k n k' m hu hr1 hr2
    split at h
    · rename_i z i hz hi
      split at h
      · rename_i hc
        obtain ⟨hc1, hc2, hc3, hc4, hc5⟩ := hc
        subst hc1
        cases h
        rw [hr1] at hl
        rw [hr2] at hcc
        have e1 := hl.int_inv
        have e2 := hcc.int_inv
        obtain ⟨z', hz1, hz2⟩ := hT.run_zero hz w
        have hzc := zero_cells (X := X) (L := L) (w := w) hz2
        have hzl : z'.cells.size = i.size := by have := hzc.1; simp at this; omega
        have hzero := zeros_ok hzc (by omega) n
        have hw : IntKind.i64.wrap (n : Int) = n := by
          rw [← wrapI_eq]
          have blt : Nat.blt n 9223372036854775808 = true := by rw [Nat.blt_eq]; exact hc5
          show (bif Nat.blt n 9223372036854775808 then (Int.ofNat n) else _) = _
          rw [blt]; rfl
        have hsz : (sizeOf e).run P w = .ok i.size w := hT.run_size (by simp [Tab.size, hi]) w
        refine ⟨.slice (some ⟨w.heap.size, 0, none⟩) n n, .cells ((Array.range (n * z'.cells.size)).map (fun i => z'.cells[i % z'.cells.size]!)) e, ((Array.range (n * z'.cells.size)).map (fun i => z'.cells[i % z'.cells.size]!)).size, i.size, ?_, fun L' b hb hE => ⟨?_, new_cells hzero hE⟩⟩
        · have hb1 : ¬ (2 ^ 48 < (i.bytes : Int) * (n : Int)) := by
            have h3 : ((i.bytes * n : Nat) : Int) ≤ ((281474976710656 : Nat) : Int) := Int.ofNat_le.2 hc4
            rw [Int.natCast_mul] at h3
            have h4 : ((281474976710656 : Nat) : Int) = 2 ^ 48 := by decide
            omega
          have hn0 : ¬ ((n : Int) < 0) := by omega
          have hms : (Instr.makeSlice t (.int k (n : Int)) (.int k' (n : Int))).run P w = .ok (.slice (some ⟨w.heap.size, 0, none⟩) n n) (w.alloc (.cells ((Array.range (n * z'.cells.size)).map (fun i => z'.cells[i % z'.cells.size]!)) e)) := by
            unfold Instr.makeSlice
            simp only [Sem.run_bind, hT.run_under hu, Result.andThen_ok, asInt, asIntOf, Sem.run_pure, hT.run_info hi]
            rw [hw]
            have hc : (decide ((n : Int) < 0) || decide ((i.bytes : Int) * (n : Int) > 2 ^ 48)) = false := by rw [decide_eq_false hn0, decide_eq_false hb1]; rfl
            simp only [hc, Bool.false_or]
            have hd : (decide ((n : Int) < 0) || decide ((n : Int) > (n : Int))) = false := by simp
            simp only [hd, Bool.false_eq_true, if_false]
            simp only [Sem.run_bind, run_askRoom, Result.andThen_ok, hsz, Int.toNat_natCast]
            by_cases h0 : n * i.size = 0
            · have hn : n = 0 := by rcases Nat.mul_eq_zero.1 h0 with h | h <;> omega
              subst hn
              have hz2' : ∀ f : Nat → Value, (Array.range 0).map f = #[] := fun f => by simp
              simp only [Nat.zero_mul, if_true, Sem.run_pure, Result.andThen_ok, hz2']
              rfl
            · simp only [h0, if_false, Sem.run_bind, hz1, Result.andThen_ok, Sem.run_pure, hzl]
              rfl
          have e1' : ρc l = .int k (n : Int) := e1
          have e2' : ρc c = .int k' (n : Int) := e2
          simp only [execOp, ho, e1', e2', Sem.run_bind, hms, Result.andThen_ok, Sem.run_pure]
        · have := VRel.sl (X := X) (w := w.alloc (.cells ((Array.range (n * z'.cells.size)).map (fun i => z'.cells[i % z'.cells.size]!)) e)) (off := 0) (len := n) (sz := i.size) (cap' := n) hb (Nat.le_refl _) (by simp [hzl])
          simpa using this
      · cases h
    · cases h
  · cases h

theorem aNew_ok (hT : TabOK P tb) (hρ : OpRel X L w ρ ρc) {o : Oper} {blk : Blk} {mk : Nat → AV} (h : aNew tb ρ o.op = some (blk, mk)) : NewOK P X L w ρc o blk mk := by
  cases ho : o.op <;> rw [ho] at h
  case alloc e => exact ok_alloc hT ho h
  case box e x => exact ok_box hρ ho h
  case buildSlice t len parts => exact ok_buildSlice hT hρ ho h
  case makeMap t r =>
    cases r with
    | none => exact ok_makeMap ho h
    | some r => simp [aNew, nAlloc, nBox, nBuild, nMake] at h
  case makeSlice t l c => exact ok_makeSlice hT hρ ho h
  all_goals simp [aNew, nAlloc, nBox, nBuild, nMake] at h
end
end Go.Sy
