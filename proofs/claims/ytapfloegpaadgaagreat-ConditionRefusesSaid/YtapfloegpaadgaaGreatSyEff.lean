/- The operations that write. -/
import Derived.Test.YtapfloegpaadgaaGreatSyHeap
import Derived.Laws.CopyRow
import Derived.Laws.Append
set_option linter.unusedVariables false
set_option linter.unusedSimpArgs false
namespace Go.Sy

def AllObl (l : List Prop) : Prop := ∀ p ∈ l, p

theorem askC_ok {st st' : St} {r : Option (List AV)} {cs : List AV} (h : st.askC r = some (cs, st')) : (AllObl st'.obl → r = some cs) ∧ (AllObl st'.obl → AllObl st.obl) ∧ st'.heap = st.heap ∧ st'.next = st.next ∧ st'.log = st.log ∧ st'.cost = st.cost := by
  unfold St.askC at h
  split at h
  · rw [Bool.cond_eq_ite] at h
    split at h
    · cases h
      exact ⟨fun ho => ho _ (List.mem_cons_self ..), fun ho p hp => ho p (List.mem_cons_of_mem _ hp), rfl, rfl, rfl, rfl⟩
    · cases r with
      | none => simp at h
      | some v => simp at h; obtain ⟨rfl, rfl⟩ := h; exact ⟨fun _ => rfl, fun ho => ho, rfl, rfl, rfl, rfl⟩
  · cases r with
    | none => simp at h
    | some v => simp at h; obtain ⟨rfl, rfl⟩ := h; exact ⟨fun _ => rfl, fun ho => ho, rfl, rfl, rfl, rfl⟩
theorem askV_ok {st st' : St} {r : Option AV} {v : AV} (h : st.askV r = some (v, st')) : (AllObl st'.obl → r = some v) ∧ (AllObl st'.obl → AllObl st.obl) ∧ st'.heap = st.heap ∧ st'.next = st.next ∧ st'.log = st.log ∧ st'.cost = st.cost := by
  unfold St.askV at h
  split at h
  · rw [Bool.cond_eq_ite] at h
    split at h
    · cases h
      exact ⟨fun ho => ho _ (List.mem_cons_self ..), fun ho p hp => ho p (List.mem_cons_of_mem _ hp), rfl, rfl, rfl, rfl⟩
    · cases r with
      | none => simp at h
      | some v => simp at h; obtain ⟨rfl, rfl⟩ := h; exact ⟨fun _ => rfl, fun ho => ho, rfl, rfl, rfl, rfl⟩
  · cases r with
    | none => simp at h
    | some v => simp at h; obtain ⟨rfl, rfl⟩ := h; exact ⟨fun _ => rfl, fun ho => ho, rfl, rfl, rfl, rfl⟩
theorem hp_of_eq {st st' : St} (h1 : st'.heap = st.heap) (h2 : st'.next = st.next) : st'.hp = st.hp := by
  funext b; simp [St.hp, St.get, h1, h2]
theorem get_of_eq {st st' : St} (h1 : st'.heap = st.heap) (h2 : st'.next = st.next) (b : Nat) : st'.get b = st.get b := by
  simp [St.get, h1, h2]

/-! rows of cells written in place -/
theorem setL_row {α : Type} (l : List α) (o off n : Nat) (vs : List α) (h1 : o + n ≤ l.length) (h2 : off + vs.length ≤ n) :
    ((l.take (o + off) ++ vs ++ l.drop (o + off + vs.length)).drop o).take n = setL ((l.drop o).take n) off vs := by
  apply List.ext_getElem?
  intro j
  rw [setL_get _ _ _ _ (by simp; omega), List.getElem?_take]
  by_cases hj : j < n
  · rw [if_pos hj, List.getElem?_drop]
    by_cases h3 : off ≤ j ∧ j < off + vs.length
    · rw [if_pos h3, List.getElem?_append_left (by simp; omega), List.getElem?_append_right (by simp; omega)]
      congr 1; simp; omega
    · rw [if_neg h3, List.getElem?_take, if_pos hj, List.getElem?_drop]
      by_cases h4 : j < off
      · rw [List.getElem?_append_left (by simp; omega), List.getElem?_append_left (by simp; omega), List.getElem?_take, if_pos (by omega)]
      · rw [List.getElem?_append_right (by simp; omega), List.getElem?_drop]
        congr 1; simp; omega
  · rw [if_neg hj, if_neg (by omega), List.getElem?_take, if_neg hj]

section
variable {P : Program} {tb : Tab} {X : Nat → Prop} {L : Loc} {w : World} {st : St} {ρ : Operand → AV} {ρc : Operand → Value}

/-- cells written into a block that is owned -/
theorem store_block {h : Hp} (H : HRel X L h w) {b : Nat} {cs : List AV} (hb : h b = some (.cells cs)) {off : Nat} {vs : List AV} {xs : List Value} (hv : VRels X L w vs xs) {cs' : List AV} (hst : storeC cs off vs = some cs') :
    ∃ c o cap sz, L b = .live c o cap sz ∧ ∃ w', (storeCells ⟨c, o + off, none⟩ xs).run P w = .ok () w' ∧ Ext L w L w' ∧ HRel X L (Hp.set h b (.cells cs')) w' := by
  unfold storeC at hst
  split at hst
  · rename_i hc
    obtain ⟨hc1, hc2⟩ := hc
    cases hst
    obtain ⟨c, o, cap, sz, hl, arr, e, k1, k2, k3, k4⟩ := H.at hb rfl
    have hone : ∀ x ∈ xs, x.oneCell' = true := by
      intro x hx
      obtain ⟨j, hj⟩ := List.getElem?_of_mem hx
      obtain ⟨hjl, -⟩ := List.getElem?_eq_some_iff.1 hj
      have hjv : j < vs.length := by have := hv.1; omega
      exact (hv.2 j vs[j] x (List.getElem?_eq_getElem hjv) hj).one (List.all_eq_true.1 hc1 _ (List.getElem_mem hjv))
    have hlen : vs.length = xs.length := hv.1
    have hrun := run_storeCells_at P c (o + off) e xs 0 arr w k1 (by omega) hone
    simp only [Nat.add_zero] at hrun
    refine ⟨c, o, cap, sz, hl, _, hrun, ?_, ?_⟩
    · exact Ext.put hl (by simp) (fun k hk => setRow_other w c k _ hk) rfl rfl rfl
    · refine H.put hl (by simp) (fun k hk => setRow_other w c k _ hk) rfl rfl rfl rfl ?_
      have hE := Ext.put (w := w) (w' := w.setRow c (arr.toList.take (o + off) ++ xs ++ arr.toList.drop (o + off + xs.length)).toArray) hl (by simp) (fun k hk => setRow_other w c k _ hk) rfl rfl rfl
      refine ⟨_, e, setRow_heap w c arr _ e _ k1, ?_, by rw [setL_length]; exact k3, ?_⟩
      · simp; omega
      · rw [setL_length]
        simp only [List.toList_toArray]
        rw [setL_row _ _ _ _ _ (by simp; omega) (by omega)]
        exact (k4.setL hv off hc2).mono hE
  · cases hst

def EffOK (P : Program) (X : Nat → Prop) (L : Loc) (w : World) (ρc : Operand → Value) (o : Oper) (v : AV) (st' : St) : Prop :=
  ∃ nx x w' L', (execOp ρc o).run P w = .ok nx w' ∧ (nx = .value x ∨ (nx = .skip ∧ x = undef)) ∧ Ext L w L' w' ∧ HRel X L' st'.hp w' ∧ VRel X L' w' v x

theorem undef_rel : VRel X L w undefA undef := VRel.tup_mk (cs := #[]) VRels.nil

theorem eff_store (hT : TabOK P tb) (H : HRel X L st.hp w) (hρ : OpRel X L w ρ ρc) {o : Oper} {t : Nat} {a x : Operand} (ho : o.op = .store t a x) {v : AV} {st' : St} (h : aEff tb st ρ (.store t a x) = .val v st') (hobl : AllObl st'.obl) : EffOK P X L w ρc o v st' := by
  have ha := hρ a
  have hx := hρ x
  simp only [aEff, eStore, eMap, eCall, eDefer, ePanic] at h
  split at h
  · rename_i b off size hr hs
    split at h
    · rename_i cs hb
      split at h
      · rename_i hc
        obtain ⟨hc1, hc2⟩ := hc
        split at h
        · rename_i cs' st1 hask
          cases h
          obtain ⟨q1, q2, q3, q4, q5, q6⟩ := askC_ok hask
          have hal : (st.get b).alive = true := by rw [hb]; rfl
          have hbn := St.alive_lt hal
          have hhp : st.hp b = some (.cells cs) := by rw [St.hp_some hal, hb]
          have hcells := hx.cells hc1
          obtain ⟨c, oo, cap, sz, hl, w', hrun, hE, hH⟩ := store_block (P := P) H hhp hcells (q1 hobl)
          rw [hr] at ha
          have e := ha.ptr_live hl
          refine ⟨.skip, undef, w', L, ?_, .inr ⟨rfl, rfl⟩, hE, ?_, undef_rel⟩
          · have hsz : (ρc x).cells.size = size := by have := hcells.1; simp at this; omega
            simp only [execOp, ho, e, Instr.storeAt, Instr.sureAddr, storeVar, Sem.run_bind, Sem.run_pure, Result.andThen_ok, hT.run_size hs, hsz, ne_eq, not_true_eq_false, if_false, hrun]
          · rw [St.put_hp _ _ _ _ _ (by rw [q4]; exact hbn), hp_of_eq q3 q4]
            exact hH
        · cases h
      · cases h
    · cases h
  · cases h

/-! maps -/
theorem ERels.set {k : Int} {v : AV} {x : Value} (hv : VRel X L w v x) : ∀ (es : List (Int × AV)) (fs : List MapEntry) (kd : IntKind), ERels X L w es fs → ∀ (i clock : Nat),
    (∀ j y, Instr.findNow (.int kd) (.int .i64 k) fs i = some (some (j, y)) → i ≤ j ∧ j - i < fs.length ∧ ((fs[j - i]?).map (·.key)) = some (.int .i64 k) ∧ ERels X L w (setM k v es) (fs.modify (j - i) fun e => { e with key := .int .i64 k, val := x })) ∧
    (Instr.findNow (.int kd) (.int .i64 k) fs i = some none → ERels X L w (setM k v es) (fs ++ [{ key := .int .i64 k, val := x, born := clock }])) ∧
    (∃ r, Instr.findNow (.int kd) (.int .i64 k) fs i = some r) := by
  intro es fs kd h
  induction h with
  | nil =>
    intro i clock
    exact ⟨fun j y hj => by simp [Instr.findNow] at hj, fun _ => .cons rfl hv .nil, none, by simp [Instr.findNow]⟩
  | @cons k' u e es fs h1 h2 h3 ih =>
    intro i clock
    by_cases hk : k' = k
    · subst hk
      have hf : Instr.findNow (.int kd) (.int .i64 k') (e :: fs) i = some (some (i, e.val)) := by simp [Instr.findNow, h1, Instr.sameNow]
      refine ⟨fun j y hj => ?_, fun hn => by rw [hf] at hn; simp at hn, _, hf⟩
      rw [hf] at hj
      simp at hj
      obtain ⟨rfl, rfl⟩ := hj
      refine ⟨Nat.le_refl _, by simp, by simp [h1], ?_⟩
      simp only [setM, if_true, Nat.sub_self, List.modify_zero_cons]
      exact .cons rfl hv h3
    · have hb : (k == k') = false := by simp [Ne.symm hk]
      have hf : Instr.findNow (.int kd) (.int .i64 k) (e :: fs) i = Instr.findNow (.int kd) (.int .i64 k) fs (i + 1) := by simp [Instr.findNow, h1, Instr.sameNow, hb]
      obtain ⟨a1, a2, a3⟩ := ih (i + 1) clock
      refine ⟨fun j y hj => ?_, fun hn => ?_, by rw [hf]; exact a3⟩
      · rw [hf] at hj
        obtain ⟨b1, b2, b3, b4⟩ := a1 j y hj
        have hji : j - i = (j - (i + 1)) + 1 := by omega
        refine ⟨by omega, by simp; omega, by rw [hji]; simpa using b3, ?_⟩
        rw [hji]
        simp only [setM, hk, if_false, List.modify_succ_cons]
        exact .cons h1 h2 b4
      · rw [hf] at hn
        simp only [setM, hk, if_false, List.cons_append]
        exact .cons h1 h2 (a2 hn)

theorem run_setObj {r : Nat} {o1 o2 : Obj} (h : w.heap[r]? = some o1) (hc : ∀ a b c, o1 ≠ .cells a b c) : (setObj r o2).run P w = .ok () { w with heap := w.heap.setIfInBounds r o2 } := by
  simp only [setObj, Sem.run, h]

theorem eff_map (hT : TabOK P tb) (H : HRel X L st.hp w) (hρ : OpRel X L w ρ ρc) {o : Oper} {t : Nat} {m k x : Operand} (ho : o.op = .mapUpdate t m k x ∨ o.op = .insert t m k x) {v : AV} {st' : St} (h : aEff tb st ρ (.mapUpdate t m k x) = .val v st') : EffOK P X L w ρc o v st' := by
  have hm := hρ m
  have hk := hρ k
  have hx := hρ x
  simp only [aEff, eStore, eMap, eCall, eDefer, ePanic] at h
  split at h
  · rename_i kt e hu
    split at h
    · rename_i kd b kk hkt hr hrk
      split at h
      · rename_i es hb
        cases h
        have hal : (st.get b).alive = true := by rw [hb]; rfl
        have hbn := St.alive_lt hal
        have hhp : st.hp b = some (.map es) := by rw [St.hp_some hal, hb]
        obtain ⟨c, oo, cap, sz, hl, fs, clock, k1, k2⟩ := H.at hhp rfl
        rw [hr] at hm
        rw [hrk] at hk
        have em := hm.map_live hl
        have ek := hk.int_inv
        obtain ⟨a1, a2, r, hr3⟩ := ERels.set hx es fs.toList kd k2 0 clock
        have hg : (getObj c).run P w = .ok (.map fs clock) w := by simp [getObj, Sem.run, k1]
        have main : ∀ fs' clock', (Instr.mapUpdate t (.map (some c)) (.int .i64 kk) (ρc x)).run P w = .ok () { w with heap := w.heap.setIfInBounds c (.map fs' clock') } → ERels X L w (setM kk (ρ x) es) fs'.toList → EffOK P X L w ρc o undefA (st.put b (.map (setM kk (ρ x) es)) 0 whole) := by
          intro fs' clock' hrun hE'
          have hsz : ({ w with heap := w.heap.setIfInBounds c (.map fs' clock') } : World).heap.size = w.heap.size := by simp
          have hoth : ∀ j, j ≠ c → ({ w with heap := w.heap.setIfInBounds c (.map fs' clock') } : World).heap[j]? = w.heap[j]? := by
            intro j hj; simp [Array.getElem?_setIfInBounds, Ne.symm hj]
          have hE := Ext.put (w := w) (w' := { w with heap := w.heap.setIfInBounds c (.map fs' clock') }) hl hsz hoth rfl rfl rfl
          refine ⟨.skip, undef, _, L, ?_, .inr ⟨rfl, rfl⟩, hE, ?_, undef_rel⟩
          · rcases ho with ho | ho <;> simp only [execOp, ho, em, ek, Sem.run_bind, hrun, Result.andThen_ok, Sem.run_pure]
          · rw [St.put_hp _ _ _ _ _ hbn]
            refine H.put hl hsz hoth rfl rfl rfl rfl ⟨fs', clock', ?_, hE'.mono hE⟩
            obtain ⟨hcl, -⟩ := Array.getElem?_eq_some_iff.1 k1
            simp [hcl]
        have hpre : ∀ K, (Instr.mapUpdate t (.map (some c)) (.int .i64 kk) (ρc x)).run P w = K → K = K := fun _ _ => rfl
        cases r with
        | none =>
          refine main (fs.push { key := .int .i64 kk, val := ρc x, born := clock }) (clock + 1) ?_ (by simpa using a2 hr3)
          simp only [Instr.mapUpdate, Sem.run_bind, hT.run_under hu, Result.andThen_ok, hg, run_checkKey hT hkt, Instr.findKey, hT.run_under hkt, hr3, Sem.run_pure]
          exact run_setObj k1 (by simp)
        | some p =>
          obtain ⟨j, y⟩ := p
          obtain ⟨b1, b2, b3, b4⟩ := a1 j y hr3
          simp only [Nat.sub_zero] at b2 b3 b4
          refine main (fs.modify j fun e => { e with key := .int .i64 kk, val := ρc x }) clock ?_ (by rw [Array.toList_modify]; exact b4)
          have hkey : ((fs[j]?).map (·.key)) = some (.int .i64 kk) := by rw [← Array.getElem?_toList]; exact b3
          have hsame : ∀ n, Instr.sameBits (n + 1) (.int .i64 kk) (.int .i64 kk) = true := fun n => by simp [Instr.sameBits]
          have hstay : (Instr.keyThatStays (.int .i64 kk) (.int .i64 kk)).run P w = .ok (.int .i64 kk) w := by
            unfold Instr.keyThatStays
            rw [if_pos (hsame 9999)]
            rfl
          simp only [Instr.mapUpdate, Sem.run_bind, hT.run_under hu, Result.andThen_ok, hg, run_checkKey hT hkt, Instr.findKey, hT.run_under hkt, hr3, Sem.run_pure, hkey, Option.getD_some, hstay]
          exact run_setObj k1 (by simp)
      · cases h
    · cases h
  · cases h
end
end Go.Sy
