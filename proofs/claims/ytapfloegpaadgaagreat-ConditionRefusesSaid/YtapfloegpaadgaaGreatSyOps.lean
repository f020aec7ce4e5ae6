/- What the abstract operations give, the machine's operations give: those that only reckon and read. -/
import Derived.Test.YtapfloegpaadgaaGreatSyRel
set_option linter.unusedVariables false
set_option linter.unusedSimpArgs false
namespace Go.Sy

/-- two rows of numbers -/
def eqFlatV : List Value → List Value → Option Bool
  | [], [] => some true
  | .int .i64 a :: x, .int .i64 b :: y => (eqFlatV x y).map fun r => decide (a = b) && r
  | _, _ => none
def EqOK (P : Program) (t n : Nat) : Prop := ∀ (xs ys : Array Value) (r : Bool) (w : World), xs.size = n → eqFlatV xs.toList ys.toList = some r →
  (eqGuard .eql t (.const .nilIface) (.const .nilIface) (.agg xs) (.agg ys)).run P w = .ok () w ∧ (Op.equal t (.agg xs) (.agg ys)).run P w = .ok r w

structure TabOK (P : Program) (tb : Tab) : Prop where
  info : ∀ t i, tb.info t = some i → P.info? t = some i
  funcs : ∀ f fn, tb.funcs.get? f = some fn → P.funcs[f]? = some fn
  call : ∀ f fn, tb.funcs.get? f = some fn → fn.body.isSome = true → ∀ (args : Array Value) (w : World), (callFunc f args).run P w = .ok (.enter f args) w
  mixed : P.follows .mixedOrders = true
  eqs : ∀ t n, tb.eqs.contains t = true → tb.size t = some n → EqOK P t n

theorem TabOK.eqAt {P : Program} {tb : Tab} (hT : TabOK P tb) {t n : Nat} (h : tb.eqOK t n = true) : EqOK P t n := by
  unfold Tab.eqOK at h
  rw [Bool.and_eq_true] at h
  obtain ⟨h1, h2⟩ := h
  split at h2
  · rename_i k hk
    have : k = n := Nat.eq_of_beq_eq_true h2
    subst this
    exact hT.eqs t k h1 hk
  · cases h2
section
variable {P : Program} {tb : Tab}
theorem TabOK.under (hT : TabOK P tb) {t : Nat} {d : TypeDesc} (h : tb.under t = some d) : P.underlying t = some d := by
  unfold Tab.under at h
  unfold Program.underlying
  cases hi : tb.info t with
  | none => rw [hi] at h; simp at h
  | some i =>
    rw [hi] at h
    rw [hT.info t i hi]
    obtain ⟨desc, str, size, bytes, hp, al, fa, z, cmp, ms⟩ := i
    cases desc with
    | named n u =>
      simp only at h ⊢
      cases hu : tb.info u with
      | none => rw [hu] at h; simp at h
      | some j => rw [hu] at h; rw [hT.info u j hu]; exact h
    | _ => exact h
theorem TabOK.run_under (hT : TabOK P tb) {t : Nat} {d : TypeDesc} (h : tb.under t = some d) (w : World) : (underlying t).run P w = .ok d w := by
  simp [underlying, hT.under h]
theorem TabOK.run_info (hT : TabOK P tb) {t : Nat} {i : TypeInfo} (h : tb.info t = some i) (w : World) : (typeInfo t).run P w = .ok i w := by
  simp [typeInfo, hT.info t i h]
theorem TabOK.run_size (hT : TabOK P tb) {t n : Nat} (h : tb.size t = some n) (w : World) : (sizeOf t).run P w = .ok n w := by
  unfold Tab.size at h
  cases hi : tb.info t with
  | none => rw [hi] at h; simp at h
  | some i =>
    rw [hi] at h
    simp at h
    simp [sizeOf, hT.run_info hi, h]
theorem TabOK.run_isAgg (hT : TabOK P tb) {t : Nat} {d : TypeDesc} (h : tb.under t = some d) (w : World) : (isAgg t).run P w = .ok (tb.isAgg t) w := by
  unfold isAgg Tab.isAgg
  simp only [Sem.run_bind, hT.run_under h, Result.andThen_ok, h]
  cases d <;> rfl
theorem TabOK.run_zero (hT : TabOK P tb) {t : Nat} {z : AV} (h : tb.zero t = some z) (w : World) : ∃ x, (zeroValue t).run P w = .ok x w ∧ z = ofConst x := by
  unfold Tab.zero at h
  cases hi : tb.info t with
  | none => rw [hi] at h; simp at h
  | some i =>
    rw [hi] at h
    cases hz : i.zero with
    | none => simp [hz] at h
    | some x =>
      simp [hz] at h
      exact ⟨x, by simp [zeroValue, hT.run_info hi, hz], h.symm⟩
theorem under_of_size {t n : Nat} (h : tb.size t = some n) : ∃ i, tb.info t = some i ∧ i.size = n := by
  unfold Tab.size at h
  cases hi : tb.info t with
  | none => rw [hi] at h; simp at h
  | some i => rw [hi] at h; simp at h; exact ⟨i, rfl, h⟩
end

theorem VRel.leafC (X : Nat → Prop) (L : Loc) (w : World) (v : Value) : VRel X L w (ofLeaf v) v := by
  unfold ofLeaf
  split <;> first | constructor | skip
theorem VRel.const (X : Nat → Prop) (L : Loc) (w : World) (v : Value) : VRel X L w (ofConst v) v := by
  unfold ofConst
  split
  · rename_i cs
    refine .agg (by simp) fun j v x h1 h2 => ?_
    simp only [List.getElem?_map, Option.map_eq_some_iff] at h1
    obtain ⟨y, hy, rfl⟩ := h1
    have : x = y := by
      rw [Array.getElem?_toList] at hy
      exact Option.some.inj (h2.symm.trans hy)
    subst this
    exact .leafC ..
  · exact .leafC ..

/-- what memory holds where a reckoning reads -/
def MemAt (X : Nat → Prop) (L : Loc) (w : World) (st : St) (e : Nat × Nat × Nat) : Prop :=
  ∃ c o cap sz, L e.1 = .live c o cap sz ∧ (match st.get e.1 with
    | .cells cs => ∃ arr t, w.heap[c]? = some (.cells arr t (0, 0)) ∧ ∀ j v, e.2.1 ≤ j → j < e.2.1 + e.2.2 → cs[j]? = some v → ∃ x, arr[o + j]? = some x ∧ VRel X L w v x
    | .map es => ∃ fs k, w.heap[c]? = some (.map fs k) ∧ ERels X L w es fs.toList
    | _ => True)

def OpRel (X : Nat → Prop) (L : Loc) (w : World) (ρ : Operand → AV) (ρc : Operand → Value) : Prop := ∀ x, VRel X L w (ρ x) (ρc x)

def Gives (P : Program) (X : Nat → Prop) (L : Loc) (w : World) (ρc : Operand → Value) (o : Oper) (v : AV) : Prop :=
  ∃ x, (execOp ρc o).run P w = .ok (.value x) w ∧ VRel X L w v x

section
variable {P : Program} {tb : Tab} (hT : TabOK P tb) {X : Nat → Prop} {L : Loc} {w : World} {st : St} {ρ : Operand → AV} {ρc : Operand → Value} (hρ : OpRel X L w ρ ρc)

theorem VRels.map (hρ : OpRel X L w ρ ρc) (xs : Array Operand) : VRels X L w (xs.toList.map ρ) (xs.map ρc).toList := by
  refine ⟨by simp, fun j v x h1 h2 => ?_⟩
  simp only [Array.toList_map, List.getElem?_map, Option.map_eq_some_iff] at h1 h2
  obtain ⟨a, ha, rfl⟩ := h1
  obtain ⟨b, hb, rfl⟩ := h2
  rw [ha] at hb
  cases hb
  exact hρ a
theorem VRels.toArr {vs : List AV} {xs : Array Value} (h : VRels X L w vs xs.toList) : vs.length = xs.size ∧ ∀ (j : Nat) (v : AV) (x : Value), vs[j]? = some v → xs[j]? = some x → VRel X L w v x :=
  ⟨by simpa using h.1, fun j v x h1 h2 => h.2 j v x h1 (by simpa using h2)⟩

theorem ok_move (hρ : OpRel X L w ρ ρc) {o : Oper} {x : Operand} (ho : o.op = .move x ∨ o.op = .assign x) : Gives P X L w ρc o (ρ x) :=
  ⟨ρc x, by rcases ho with ho | ho <;> simp [execOp, ho], hρ x⟩
theorem ok_pick (hρ : OpRel X L w ρ ρc) {o : Oper} {c a b : Operand} (ho : o.op = .pick c a b) {t : Bool} (hc : ρ c = .bool t) : Gives P X L w ρc o (bif t then ρ a else ρ b) := by
  have h := hρ c
  rw [hc] at h
  cases hx : ρc c with
  | bool t' =>
    rw [hx] at h
    cases h
    refine ⟨if t then ρc a else ρc b, by simp [execOp, ho, hx, asBool], ?_⟩
    cases t
    · exact hρ b
    · exact hρ a
  | _ => rw [hx] at h; cases h
theorem ok_makeFunc (hρ : OpRel X L w ρ ρc) {o : Oper} {g : Nat} {first cap : Array Operand} (ho : o.op = .makeFunc (.func g) first cap) : Gives P X L w ρc o (.fn (.func g) (first.toList.map ρ) (cap.toList.map ρ)) := by
  have h1 := (VRels.map hρ first).toArr
  have h2 := (VRels.map hρ cap).toArr
  exact ⟨_, by simp [execOp, ho, Instr.makeFunc], .fn h1.1 h2.1 h1.2 h2.2⟩
theorem ok_extract (hρ : OpRel X L w ρ ρc) {o : Oper} {t : Operand} {i : Nat} (ho : o.op = .extract t i) {vs : List AV} (ht : ρ t = .tup vs) {v : AV} (hv : vs[i]? = some v) : Gives P X L w ρc o v := by
  have h := hρ t
  rw [ht] at h
  cases hx : ρc t with
  | tuple xs =>
    rw [hx] at h
    cases h with
    | tup h1 h2 =>
      obtain ⟨hl, -⟩ := List.getElem?_eq_some_iff.1 hv
      have hi : i < xs.size := by omega
      have hxi : xs[i]? = some xs[i] := by simp [hi]
      exact ⟨xs[i], by simp [execOp, ho, hx, Instr.extract, hi], h2 i v _ hv hxi⟩
  | _ => rw [hx] at h; cases h
end

/-! ### Whole numbers -/
theorem wr_eq (half : Nat) (h : 0 < half) (n : Int) : wr half (2 * half) n = (if n % ((2 * half : Nat) : Int) ≥ (half : Int) then n % ((2 * half : Nat) : Int) - ((2 * half : Nat) : Int) else n % ((2 * half : Nat) : Int)) := by
  have blt (a b : Nat) : Nat.blt a b = decide (a < b) := by rw [Bool.eq_iff_iff]; simp [Nat.blt_eq]
  have hb : (0 : Int) < ((2 * half : Nat) : Int) := by omega
  cases n with
  | ofNat a =>
    have e : (Int.ofNat a) % ((2 * half : Nat) : Int) = ((a % (2 * half) : Nat) : Int) := by simp
    have hm : a % (2 * half) < 2 * half := Nat.mod_lt _ (by omega)
    simp only [wr, blt, e, Int.subNatNat_eq_coe]
    by_cases ha : a < half
    · have : a % (2 * half) = a := Nat.mod_eq_of_lt (by omega)
      simp only [ha, decide_true, cond_true, this]
      rw [if_neg (by omega)]; rfl
    · simp only [ha, decide_false, cond_false]
      generalize a % (2 * half) = m at *
      by_cases hm2 : m < half
      · simp only [hm2, decide_true, cond_true]; rw [if_neg (by omega)]; rfl
      · simp only [hm2, decide_false, cond_false]; rw [if_pos (by omega)]
  | negSucc a =>
    have e : (Int.negSucc a) % ((2 * half : Nat) : Int) = ((2 * half : Nat) : Int) - 1 - ((a % (2 * half) : Nat) : Int) := by rw [Int.negSucc_emod a hb]; simp
    have hm : a % (2 * half) < 2 * half := Nat.mod_lt _ (by omega)
    simp only [wr, blt, e, Int.subNatNat_eq_coe]
    by_cases ha : a < half
    · have : a % (2 * half) = a := Nat.mod_eq_of_lt (by omega)
      simp only [ha, decide_true, cond_true, this]
      rw [if_pos (by omega), Int.negSucc_eq]; omega
    · simp only [ha, decide_false, cond_false]
      generalize a % (2 * half) = m at *
      by_cases hm2 : 2 * half - 1 - m < half
      · simp only [hm2, decide_true, cond_true]; rw [if_neg (by omega)]; simp only [Int.ofNat_eq_natCast]; omega
      · simp only [hm2, decide_false, cond_false]; rw [if_pos (by omega)]; omega
theorem wu_eq (full : Nat) (h : 0 < full) (n : Int) : wu full n = n % ((full : Nat) : Int) := by
  have hb : (0 : Int) < ((full : Nat) : Int) := by omega
  cases n with
  | ofNat a => simp [wu]
  | negSucc a =>
    have hm : a % full < full := Nat.mod_lt _ (by omega)
    rw [Int.negSucc_emod a hb]; simp only [wu, Int.ofNat_eq_natCast]; omega
theorem wrapI_eq (k : IntKind) (n : Int) : wrapI k n = k.wrap n := by
  cases k
  case i64 =>
    rw [show wrapI .i64 n = wr 9223372036854775808 (2 * 9223372036854775808) n from rfl, wr_eq _ (by decide)]
    have e1 : ((2 * 9223372036854775808 : Nat) : Int) = 2 ^ 64 := by decide
    have e2 : ((9223372036854775808 : Nat) : Int) = 2 ^ 63 := by decide
    rw [e1, e2]
    simp [IntKind.wrap, IntKind.bits, IntKind.signed]
  case i32 =>
    rw [show wrapI .i32 n = wr 2147483648 (2 * 2147483648) n from rfl, wr_eq _ (by decide)]
    have e1 : ((2 * 2147483648 : Nat) : Int) = 2 ^ 32 := by decide
    have e2 : ((2147483648 : Nat) : Int) = 2 ^ 31 := by decide
    rw [e1, e2]
    simp [IntKind.wrap, IntKind.bits, IntKind.signed]
  case i16 =>
    rw [show wrapI .i16 n = wr 32768 (2 * 32768) n from rfl, wr_eq _ (by decide)]
    have e1 : ((2 * 32768 : Nat) : Int) = 2 ^ 16 := by decide
    have e2 : ((32768 : Nat) : Int) = 2 ^ 15 := by decide
    rw [e1, e2]
    simp [IntKind.wrap, IntKind.bits, IntKind.signed]
  case i8 =>
    rw [show wrapI .i8 n = wr 128 (2 * 128) n from rfl, wr_eq _ (by decide)]
    have e1 : ((2 * 128 : Nat) : Int) = 2 ^ 8 := by decide
    have e2 : ((128 : Nat) : Int) = 2 ^ 7 := by decide
    rw [e1, e2]
    simp [IntKind.wrap, IntKind.bits, IntKind.signed]
  case u64 => exact (wu_eq 18446744073709551616 (by decide) n).trans (by simp only [IntKind.wrap, IntKind.bits, IntKind.signed, Bool.false_and]; rfl)
  case u32 => exact (wu_eq 4294967296 (by decide) n).trans (by simp only [IntKind.wrap, IntKind.bits, IntKind.signed, Bool.false_and]; rfl)
  case u16 => exact (wu_eq 65536 (by decide) n).trans (by simp only [IntKind.wrap, IntKind.bits, IntKind.signed, Bool.false_and]; rfl)
  case u8 => exact (wu_eq 256 (by decide) n).trans (by simp only [IntKind.wrap, IntKind.bits, IntKind.signed, Bool.false_and]; rfl)
theorem full_eq (k : IntKind) : fullOf k = 2 ^ k.bits := by cases k <;> rfl
theorem bits_eq (k : IntKind) : bitsOf k = k.bits := by cases k <;> rfl
theorem natOf_eq (k : IntKind) (n : Int) : natOf k n = (BitVec.ofInt k.bits n).toNat := by
  rw [BitVec.toNat_ofInt, natOf, wu_eq _ (by cases k <;> decide), full_eq]

/-- what a number's operation gives -/
theorem run_binI {P : Program} {op : BinOp} {k : IntKind} {x y : Int} {v : AV} (h : binI op k x y = some v) (hop : op ≠ .shl ∧ op ≠ .shr) (t : Nat) (X : Nat → Prop) (L : Loc) (w : World) :
    ∃ u, (binOp op t (.int k x) (.int k y)).run P w = .ok u w ∧ VRel X L w v u := by
  cases op <;> simp only [binI, cmpI, Option.map_some, Option.map_none, Option.some.injEq, reduceCtorEq] at h <;> try (exact absurd rfl hop.1) <;> try (exact absurd rfl hop.2)
  case add => subst h; exact ⟨.int k (k.wrap (x + y)), by simp [binOp, Op.intArith], by rw [wrapI_eq]; constructor⟩
  case sub => subst h; exact ⟨.int k (k.wrap (x - y)), by simp [binOp, Op.intArith], by rw [wrapI_eq]; constructor⟩
  case mul => subst h; exact ⟨.int k (k.wrap (x * y)), by simp [binOp, Op.intArith], by rw [wrapI_eq]; constructor⟩
  case quo =>
    split at h
    · cases h
    · rename_i hy; cases h; exact ⟨.int k (k.wrap (x.tdiv y)), by simp [binOp, Op.intDiv, hy], by rw [wrapI_eq]; constructor⟩
  case rem =>
    split at h
    · cases h
    · rename_i hy; cases h; exact ⟨.int k (x.tmod y), by simp [binOp, Op.intDiv, hy], by constructor⟩
  case and => subst h; exact ⟨.int k (k.wrap ((BitVec.ofInt k.bits x &&& BitVec.ofInt k.bits y).toNat : Int)), by simp [binOp, Op.intBits], by rw [wrapI_eq, natOf_eq, natOf_eq, BitVec.toNat_and]; constructor⟩
  case or => subst h; exact ⟨.int k (k.wrap ((BitVec.ofInt k.bits x ||| BitVec.ofInt k.bits y).toNat : Int)), by simp [binOp, Op.intBits], by rw [wrapI_eq, natOf_eq, natOf_eq, BitVec.toNat_or]; constructor⟩
  case xor => subst h; exact ⟨.int k (k.wrap ((BitVec.ofInt k.bits x ^^^ BitVec.ofInt k.bits y).toNat : Int)), by simp [binOp, Op.intBits], by rw [wrapI_eq, natOf_eq, natOf_eq, BitVec.toNat_xor]; constructor⟩
  case andNot => subst h; exact ⟨.int k (k.wrap ((BitVec.ofInt k.bits x &&& ~~~BitVec.ofInt k.bits y).toNat : Int)), by simp [binOp, Op.intBits], by rw [wrapI_eq, natOf_eq, natOf_eq, BitVec.toNat_and, BitVec.toNat_not, full_eq]; constructor⟩
  case eql => subst h; exact ⟨.bool (decide (x = y)), by simp [binOp, Op.intCmp, Bool.beq_eq_decide_eq], by constructor⟩
  case neq => subst h; exact ⟨.bool (!decide (x = y)), by simp [binOp, Op.intCmp]; try rfl, by constructor⟩
  case lss => subst h; exact ⟨.bool (decide (x < y)), by simp [binOp, Op.intCmp], by constructor⟩
  case leq => subst h; exact ⟨.bool (decide (x ≤ y)), by simp [binOp, Op.intCmp], by constructor⟩
  case gtr => subst h; exact ⟨.bool (decide (y < x)), by simp [binOp, Op.intCmp], by constructor⟩
  case geq => subst h; exact ⟨.bool (decide (y ≤ x)), by simp [binOp, Op.intCmp], by constructor⟩
theorem run_shiftI {P : Program} {op : BinOp} {k j : IntKind} {x y : Int} {v : AV} (h : shiftI op k x y = some v) (t : Nat) (X : Nat → Prop) (L : Loc) (w : World) :
    ∃ u, (binOp op t (.int k x) (.int j y)).run P w = .ok u w ∧ VRel X L w v u := by
  cases y with
  | negSucc a => simp [shiftI] at h
  | ofNat a =>
    have h0 : ¬ ((a : Int) < 0) := by omega
    cases op <;> simp only [shiftI, reduceCtorEq, Option.some.injEq] at h
    case shl =>
      subst h
      refine ⟨.int k (k.wrap (x * 2 ^ min a k.bits)), ?_, ?_⟩
      · simp [binOp, Op.shift, h0]
      · rw [wrapI_eq, bits_eq]; simp only [Nat.pow_eq, Int.ofNat_eq_natCast, Int.natCast_pow]; constructor
    case shr =>
      subst h
      refine ⟨.int k (x.fdiv (2 ^ min a k.bits)), ?_, ?_⟩
      · simp [binOp, Op.shift, h0]
      · rw [bits_eq]; simp only [Nat.pow_eq, Int.ofNat_eq_natCast, Int.natCast_pow]; constructor

/-! ### Shapes -/
section
variable {X : Nat → Prop} {L : Loc} {w : World}
theorem VRel.ptr_live {b off c o cap sz : Nat} {x : Value} (h : VRel X L w (.ptr b off) x) (hl : L b = .live c o cap sz) : x = .pointer (some ⟨c, o + off, none⟩) := by
  cases h with
  | ptr h1 => rw [hl] at h1; cases h1; rfl
  | ptrD h1 _ => rw [hl] at h1; cases h1
theorem VRel.sl_live {b off len sz c o cap dz : Nat} {x : Value} (h : VRel X L w (.sl b off len sz) x) (hl : L b = .live c o cap dz) :
    (∃ cap', x = .slice (some ⟨c, o + off, none⟩) len cap' ∧ len ≤ cap' ∧ off + cap' * sz ≤ cap) ∨ (len = 0 ∧ ∃ a, x = .slice (some a) 0 0) := by
  cases h with
  | sl h1 h2 h3 => rw [hl] at h1; cases h1; exact .inl ⟨_, rfl, h2, h3⟩
  | slE _ => exact .inr ⟨rfl, _, rfl⟩
  | slD h1 _ => rw [hl] at h1; cases h1
theorem VRel.map_live {b c o cap sz : Nat} {x : Value} (h : VRel X L w (.map b) x) (hl : L b = .live c o cap sz) : x = .map (some c) := by
  cases h with
  | map h1 => rw [hl] at h1; cases h1; rfl
  | mapD h1 _ => rw [hl] at h1; cases h1
theorem VRel.int_inv {k : IntKind} {n : Int} {x : Value} (h : VRel X L w (.int k n) x) : x = .int k n := by cases h; rfl
theorem VRel.bool_inv {n : Bool} {x : Value} (h : VRel X L w (.bool n) x) : x = .bool n := by cases h; rfl
theorem VRel.str_inv {n : ByteArray} {x : Value} (h : VRel X L w (.str n) x) : x = .string n := by cases h; rfl
theorem add_none (c o n : Nat) : (⟨c, o, none⟩ : Addr).add n = ⟨c, o + n, none⟩ := by
  unfold Addr.add
  split
  · rename_i h; subst h; rfl
  · rfl
/-- the slice's concrete length -/
theorem VRel.len {v : AV} {n : Nat} {x : Value} (h : VRel X L w v x) (hn : lenOf v = some n) (hs : ∀ b off len sz, v = .sl b off len sz → ∃ c o cap dz, L b = .live c o cap dz) (hstr : ∀ s, v ≠ .str s) :
    ∃ A cap, x = .slice A n cap := by
  cases v <;> simp only [lenOf, Option.some.injEq, reduceCtorEq] at hn
  case str s => exact absurd rfl (hstr s)
  case nils => subst hn; cases h; exact ⟨_, _, rfl⟩
  case sl b off len sz =>
    subst hn
    obtain ⟨c, o, cap, dz, hl⟩ := hs b off len sz rfl
    rcases h.sl_live hl with ⟨cap', rfl, _⟩ | ⟨rfl, a, rfl⟩
    · exact ⟨_, _, rfl⟩
    · exact ⟨_, _, rfl⟩
  case imm sz es clip => subst hn; cases h <;> exact ⟨_, _, rfl⟩
end

/-! ### Filling -/
theorem setL_length {α : Type} (l : List α) : ∀ (n : Nat) (xs : List α), (setL l n xs).length = l.length := by
  induction l with
  | nil => intro n xs; rfl
  | cons y l ih =>
    intro n xs
    cases xs with
    | nil => cases n <;> rfl
    | cons x xs => cases n <;> simp [setL, ih]
theorem setL_get {α : Type} (l : List α) : ∀ (n : Nat) (xs : List α) (j : Nat), n + xs.length ≤ l.length → (setL l n xs)[j]? = if n ≤ j ∧ j < n + xs.length then xs[j - n]? else l[j]? := by
  induction l with
  | nil =>
    intro n xs j h
    have : xs = [] := by cases xs with | nil => rfl | cons _ _ => simp at h
    subst this
    simp [setL]
  | cons y l ih =>
    intro n xs j h
    cases xs with
    | nil =>
      have e : setL (y :: l) n ([] : List α) = y :: l := by cases n <;> rfl
      rw [e, if_neg (by simp)]
    | cons x xs =>
      cases n with
      | zero =>
        cases j with
        | zero => simp [setL]
        | succ j =>
          have := ih 0 xs j (by simp at h; omega)
          simp only [setL, List.getElem?_cons_succ, this, List.length_cons, Nat.zero_add, Nat.zero_le, true_and, Nat.sub_zero]
          by_cases e : j < xs.length
          · rw [if_pos e, if_pos (by omega)]
          · rw [if_neg e, if_neg (by omega)]
      | succ n =>
        cases j with
        | zero => simp [setL]
        | succ j =>
          have := ih n (x :: xs) j (by simp at h ⊢; omega)
          simp only [setL, List.getElem?_cons_succ, this, List.length_cons]
          by_cases e : n ≤ j ∧ j < n + (xs.length + 1)
          · rw [if_pos e, if_pos (by omega)]
            congr 1; omega
          · rw [if_neg e, if_neg (by omega)]
theorem VRels.setL {X : Nat → Prop} {L : Loc} {w : World} {vs us : List AV} {xs ys : List Value} (h : VRels X L w vs xs) (k : VRels X L w us ys) (n : Nat) (hn : n + us.length ≤ vs.length) :
    VRels X L w (Sy.setL vs n us) (Sy.setL xs n ys) := by
  refine ⟨by rw [setL_length, setL_length, h.1], fun j v x h1 h2 => ?_⟩
  rw [setL_get _ _ _ _ hn] at h1
  rw [setL_get _ _ _ _ (by rw [← k.1, ← h.1]; exact hn), ← k.1] at h2
  split at h1
  · rename_i hj; rw [if_pos hj] at h2; exact k.2 _ v x h1 h2
  · rename_i hj; rw [if_neg hj] at h2; exact h.2 _ v x h1 h2
theorem setL_nil {α : Type} (l : List α) (n : Nat) : setL l n [] = l := by cases l <;> cases n <;> rfl
theorem setL_one {α : Type} (l : List α) : ∀ (n : Nat) (x : α) (xs : List α), n + (x :: xs).length ≤ l.length → setL l n (x :: xs) = setL (l.set n x) (n + 1) xs := by
  induction l with
  | nil => intro n x xs h; simp at h
  | cons y l ih =>
    intro n x xs h
    cases n with
    | zero =>
      simp only [setL, List.set_cons_zero, Nat.zero_add]
      cases xs with
      | nil => rw [setL_nil, setL_nil]
      | cons z zs => rfl
    | succ n =>
      have := ih n x xs (by simp at h ⊢; omega)
      simp only [setL, this, List.set_cons_succ]
      cases xs with
      | nil => rw [setL_nil, setL_nil]
      | cons z zs => rfl
theorem foldl_set (off : Nat) : ∀ (vs : List Value) (k : Nat) (cells : Array Value), off + k + vs.length ≤ cells.size →
    ((vs.zipIdx k).foldl (fun cs p => cs.setIfInBounds (off + p.2) p.1) cells).toList = setL cells.toList (off + k) vs := by
  intro vs
  induction vs with
  | nil =>
    intro k cells h
    simp only [List.zipIdx_nil, List.foldl_nil]
    cases cells.toList <;> rfl
  | cons v vs ih =>
    intro k cells h
    simp only [List.zipIdx_cons, List.foldl_cons]
    rw [ih (k + 1) _ (by simp at h ⊢; omega), setL_one _ _ _ _ (by simp at h ⊢; omega)]
    simp [Array.toList_setIfInBounds, Nat.add_assoc]
theorem fill_ok {X : Nat → Prop} {L : Loc} {w : World} {place : Nat → Option (Nat × Nat)} : ∀ (parts : List (Nat × AV)) (parts' : List (Nat × Value)) (cells : List AV) (cells' : Array Value) (r : List AV),
    parts.length = parts'.length → (∀ (j : Nat) (p : Nat × AV) (q : Nat × Value), parts[j]? = some p → parts'[j]? = some q → p.1 = q.1 ∧ VRel X L w p.2 q.2) → VRels X L w cells cells'.toList →
    aFill place cells parts = some r → ∃ r', Instr.fill place cells' parts' = some r' ∧ VRels X L w r r'.toList := by
  intro parts
  induction parts with
  | nil =>
    intro parts' cells cells' r hl hp hc h
    have : parts' = [] := by cases parts' with | nil => rfl | cons _ _ => simp at hl
    subst this
    simp [aFill] at h
    subst h
    exact ⟨cells', rfl, hc⟩
  | cons p parts ih =>
    intro parts' cells cells' r hl hp hc h
    obtain ⟨q, parts', rfl⟩ : ∃ q ps, parts' = q :: ps := by cases parts' with | nil => simp at hl | cons q ps => exact ⟨q, ps, rfl⟩
    obtain ⟨e, hv⟩ := hp 0 p q rfl rfl
    obtain ⟨i, v⟩ := p
    obtain ⟨i', v'⟩ := q
    simp only at e hv
    subst e
    simp only [aFill] at h
    cases hpl : place i with
    | none => rw [hpl] at h; cases h
    | some os =>
      obtain ⟨off, size⟩ := os
      rw [hpl] at h
      simp only at h
      split at h
      · rename_i hc3
        obtain ⟨h1, h2, h3⟩ := hc3
        have hcs := hv.cells h1
        have hsz : v'.cells.size = size := by have := hcs.1; rw [h2] at this; simpa using this.symm
        have hle : off + size ≤ cells'.size := by have := hc.1; simp at this; omega
        have hfold := foldl_set off v'.cells.toList 0 cells' (by simp [hsz]; omega)
        obtain ⟨r', h4, h5⟩ := ih parts' (setL cells off v.cells) (v'.cells.zipIdx.foldl (fun cs (x : Value × Nat) => cs.setIfInBounds (off + x.2) x.1) cells') r (by simpa using hl)
          (fun j p q hj hq => hp (j + 1) p q (by simpa using hj) (by simpa using hq))
          (by
            have := hc.setL hcs off (by rw [h2]; exact h3)
            have e : (v'.cells.zipIdx.foldl (fun cs (x : Value × Nat) => cs.setIfInBounds (off + x.2) x.1) cells').toList = setL cells'.toList off v'.cells.toList := by
              rw [← Array.foldl_toList, Array.toList_zipIdx]
              simpa using hfold
            rw [e]; exact this) h
        refine ⟨r', ?_, h5⟩
        simp only [Instr.fill, hpl]
        rw [if_neg (by simp [hsz]; omega)]
        exact h4
      · cases h
end Go.Sy
