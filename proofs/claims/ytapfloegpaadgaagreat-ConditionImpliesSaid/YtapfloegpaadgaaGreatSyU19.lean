import Derived.Test.YtapfloegpaadgaaGreatSyQ19
import Derived.Test.YtapfloegpaadgaaGreatSyX19
import Derived.Test.YtapfloegpaadgaaGreatSyN19
import Derived.OpenShut
import Derived.Test.YtapfloegpaadgaaGreatSyPath
import Derived.Below
import Derived.ProofKit
import Derived.Carry
import Derived.Test.YtapfloegpaadgaaGreatRows
/- ConditionImplies: the call, whatever the input. -/
set_option linter.unusedVariables false
namespace Go.Sy
open Go.Proofs
theorem impl_call {o0 o1 o2 : Int} {e0 c0 e1 c1 e2 c2 : List AV} (i0 : IsC (mkC o0 e0 c0)) (i1 : IsC (mkC o1 e1 c1)) (i2 : IsC (mkC o2 e2 c2)) (l0 l1 n0 n1 n2 n3 : Int)
    (hl0 : -128 ≤ l0 ∧ l0 ≤ 127) (hl1 : -128 ≤ l1 ∧ l1 ≤ 127) (hn0 : 0 ≤ n0 ∧ n0 ≤ 255) (hn1 : 0 ≤ n1 ∧ n1 ≤ 255) (hm0 : 0 ≤ n2 ∧ n2 ≤ 255) (hm1 : 0 ≤ n3 ∧ n3 ≤ 255) :
    CallSpecF Tryz.prog 6 [aC o0 o1 o2 e0 c0 e1 c1 e2 c2, aL l0 l1, aN n0 n1 n2 n3] [] (.ret (.bool true)) [] := by
  obtain ⟨s0, z0⟩ := sizeC_spec i0
  obtain ⟨s1, z1⟩ := sizeC_spec i1
  obtain ⟨s2, z2⟩ := sizeC_spec i2
  by_cases k0 : 60 < s0
  · exact ci0 o0 o1 o2 l0 l1 n0 n1 n2 n3 s0 s1 s2 e0 c0 e1 c1 e2 c2 exS z0 k0
  by_cases k1 : 60 < s1
  · exact ci1 o0 o1 o2 l0 l1 n0 n1 n2 n3 s0 s1 s2 e0 c0 e1 c1 e2 c2 exS z0 k0 z1 k1
  by_cases k2 : 60 < s2
  · exact ci2 o0 o1 o2 l0 l1 n0 n1 n2 n3 s0 s1 s2 e0 c0 e1 c1 e2 c2 exS z0 k0 z1 k1 z2 k2
  obtain ⟨A, hA⟩ := holds_fun i0
  obtain ⟨B, hB⟩ := holds_fun i1
  obtain ⟨C, hC⟩ := holds_fun i2
  obtain ⟨d0, hd0⟩ : ∃ d, n0.tmod 30 = d := ⟨_, rfl⟩
  obtain ⟨d1, hd1⟩ : ∃ d, n1.tmod 30 = d := ⟨_, rfl⟩
  have hd0' : 0 ≤ d0 ∧ d0 < 30 := by rw [← hd0]; exact ⟨Int.tmod_nonneg _ hn0.1, Int.tmod_lt_of_pos _ (by omega)⟩
  have hd1' : 0 ≤ d1 ∧ d1 < 30 := by rw [← hd1]; exact ⟨Int.tmod_nonneg _ hn1.1, Int.tmod_lt_of_pos _ (by omega)⟩
  obtain ⟨q0, hq0⟩ : ∃ q, n2.tmod (1 + d0) = q := ⟨_, rfl⟩
  obtain ⟨q1, hq1⟩ : ∃ q, n3.tmod (1 + d1) = q := ⟨_, rfl⟩
  have hq0' : 0 ≤ q0 ∧ q0 ≤ d0 := by
    have := Int.tmod_lt_of_pos n2 (show 0 < 1 + d0 by omega)
    have := Int.tmod_nonneg (1 + d0) hm0.1
    omega
  have hq1' : 0 ≤ q1 ∧ q1 ≤ d1 := by
    have := Int.tmod_lt_of_pos n3 (show 0 < 1 + d1 by omega)
    have := Int.tmod_nonneg (1 + d1) hm1.1
    omega
  obtain ⟨h0, hh0⟩ : ∃ h, h = l0 + d0 := ⟨_, rfl⟩
  obtain ⟨h1, hh1⟩ : ∃ h, h = l1 + d1 := ⟨_, rfl⟩
  obtain ⟨v0, hv0⟩ : ∃ v, v = l0 + q0 := ⟨_, rfl⟩
  obtain ⟨v1, hv1⟩ : ∃ v, v = l1 + q1 := ⟨_, rfl⟩
  have hmul : (h0 - l0 + 1) * (h1 - l1 + 1) ≤ 900 := by
    have a : (h0 - l0 + 1) * (h1 - l1 + 1) ≤ 30 * (h1 - l1 + 1) := Int.mul_le_mul_of_nonneg_right (by omega) (by omega)
    omega
  have hE : impE l0 h0 l1 h1 = 0 := by
    unfold impE
    rw [if_neg, if_neg]
    · omega
    · simp only [badR, Bool.or_eq_true, decide_eq_true_eq]
      omega
  have p1 := implied17C o0 o1 e0 c0 e1 c1 A B hA hB l0 h0 l1 h1 hE
  have p2 := implied17C o1 o2 e1 c1 e2 c2 B C hB hC l0 h0 l1 h1 hE
  have p3 := implied17C o0 o2 e0 c0 e2 c2 A C hA hC l0 h0 l1 h1 hE
  have p4 := implied17C o0 o0 e0 c0 e0 c0 A A hA hA l0 h0 l1 h1 hE
  have p5 := implied17U o0 e0 c0 A (fun _ _ => true) hA holdsT l0 h0 l1 h1 hE
  have p6 := implied17W o0 o0 o1 e0 c0 e0 c0 e1 c1 A (fun a b => A a b && B a b) hA (holds_both hA hB) l0 h0 l1 h1 hE
  rw [srch_refl] at p4
  rw [srch_true] at p5
  rw [srch_and] at p6
  cases hab : srch A B l1 h0 h1 5000 l0 l1 with
  | true =>
    rw [hab] at p1 p6
    exact ciF o0 o1 o2 l0 l1 n0 n1 n2 n3 s0 s1 s2 e0 c0 e1 c1 e2 c2 exS d0 d1 h0 h1 q0 q1 v0 v1 z0 k0 z1 k1 z2 k2 hl0 hn0 hm0 hd0 hd0' hh0 hq0 hq0' hv0 hl1 hn1 hm1 hd1 hd1' hh1 hq1 hq1' hv1 _ _ p1 p2 p3 p4 p5 p6
  | false =>
    rw [hab] at p1 p6
    have g0 := hA v0 v1
    have g1 := hB v0 v1
    have hs : A v0 v1 = true → B v0 v1 = true := by
      have e : (h0 - l0 + 1) * (h1 - l1 + 1) = (h0 - l0) * (h1 - l1 + 1) + (h1 - l1 + 1) := by rw [Int.add_mul, Int.one_mul]
      exact srch_sound A B l1 h0 h1 (by omega) 5000 l0 l1 (by omega) (by omega) (by omega) (by omega) hab v0 v1 (by omega) (by omega) (by omega) (by omega)
    cases hbc : srch B C l1 h0 h1 5000 l0 l1 with
    | true =>
      rw [hbc] at p2
      cases ha : A v0 v1 with
      | false =>
        rw [ha] at g0
        exact ciG o0 o1 o2 l0 l1 n0 n1 n2 n3 s0 s1 s2 e0 c0 e1 c1 e2 c2 exS d0 d1 h0 h1 q0 q1 v0 v1 z0 k0 z1 k1 z2 k2 hl0 hn0 hm0 hd0 hd0' hh0 hq0 hq0' hv0 hl1 hn1 hm1 hd1 hd1' hh1 hq1 hq1' hv1 _ p1 p2 p3 p4 p5 p6 g0
      | true =>
        rw [ha] at g0
        rw [hs ha] at g1
        exact ciH o0 o1 o2 l0 l1 n0 n1 n2 n3 s0 s1 s2 e0 c0 e1 c1 e2 c2 exS d0 d1 h0 h1 q0 q1 v0 v1 z0 k0 z1 k1 z2 k2 hl0 hn0 hm0 hd0 hd0' hh0 hq0 hq0' hv0 hl1 hn1 hm1 hd1 hd1' hh1 hq1 hq1' hv1 _ p1 p2 p3 p4 p5 p6 g0 g1
    | false =>
      rw [srch_trans A B C l1 h0 h1 5000 l0 l1 hab hbc] at p3
      rw [hbc] at p2
      cases ha : A v0 v1 with
      | false =>
        rw [ha] at g0
        exact ciI o0 o1 o2 l0 l1 n0 n1 n2 n3 s0 s1 s2 e0 c0 e1 c1 e2 c2 exS d0 d1 h0 h1 q0 q1 v0 v1 z0 k0 z1 k1 z2 k2 hl0 hn0 hm0 hd0 hd0' hh0 hq0 hq0' hv0 hl1 hn1 hm1 hd1 hd1' hh1 hq1 hq1' hv1 p1 p2 p3 p4 p5 p6 g0
      | true =>
        rw [ha] at g0
        rw [hs ha] at g1
        exact ciJ o0 o1 o2 l0 l1 n0 n1 n2 n3 s0 s1 s2 e0 c0 e1 c1 e2 c2 exS d0 d1 h0 h1 q0 q1 v0 v1 z0 k0 z1 k1 z2 k2 hl0 hn0 hm0 hd0 hd0' hh0 hq0 hq0' hv0 hl1 hn1 hm1 hd1 hd1' hh1 hq1 hq1' hv1 p1 p2 p3 p4 p5 p6 g0 g1
end Go.Sy

/- The arguments of ConditionImplies. -/
set_option linter.unusedVariables false
namespace Go.Sy
open Go.Proofs
section
variable {H : Type} {enc : TypeId × Value → H} {w : World} {sp : Nat → Bool} {held : Bool}
theorem cells59 : Tryz.prog.cellsOf 59 = 9 := by kernel_rfl
theorem cells60 : Tryz.prog.cellsOf 60 = 1 := by kernel_rfl
theorem cells61 : Tryz.prog.cellsOf 61 = 2 := by kernel_rfl
theorem cells62 : Tryz.prog.cellsOf 62 = 4 := by kernel_rfl
theorem cells5 : Tryz.prog.cellsOf 5 = 1 := by kernel_rfl
set_option maxRecDepth 100000 in
theorem read_59 {n : Nat} {cs : List Value} {x : DataW H × List MemPlace} (h : DataW.trod enc Tryz.prog w 0 sp held n 59 cs = some x) :
    ∃ (o0 o1 o2 : Int) (e0 c0 e1 c1 e2 c2 : List AV) (s0 t0 s1 t1 s2 t2 : Value), cs = [.int .i64 o0, s0, t0, .int .i64 o1, s1, t1, .int .i64 o2, s2, t2] ∧ IsC (mkC o0 e0 c0) ∧ IsC (mkC o1 e1 c1) ∧ IsC (mkC o2 e2 c2) ∧
      VR w (.imm 4 e0 false) s0 ∧ VR w (.imm 3 c0 false) t0 ∧ VR w (.imm 4 e1 false) s1 ∧ VR w (.imm 3 c1 false) t1 ∧ VR w (.imm 4 e2 false) s2 ∧ VR w (.imm 3 c2 false) t2 := by
  obtain ⟨xs, m, e1, _, hlen, hxs, hf⟩ := DataW.trod_array Tryz.underlying59 h
  rw [cells59] at hlen
  match cs, hlen with
  | [a0, a1, a2, a3, a4, a5, a6, a7, a8], _ =>
    have f0 := hf 0 (by omega)
    have f1 := hf 1 (by omega)
    have f2 := hf 2 (by omega)
    simp only [cells48, List.drop, List.take, Nat.zero_mul, Nat.one_mul, Nat.reduceMul] at f0 f1 f2
    rw [List.getElem?_eq_getElem (by omega)] at f0 f1 f2
    obtain ⟨o0, e0, c0, s0, t0, p1, p2, p3, p4⟩ := read_C m _ _ f0
    obtain ⟨o1, e1', c1, s1, t1, q1, q2, q3, q4⟩ := read_C m _ _ f1
    obtain ⟨o2, e2, c2, s2, t2, r1, r2, r3, r4⟩ := read_C m _ _ f2
    simp only [List.cons.injEq, and_true] at p1 q1 r1
    obtain ⟨rfl, rfl, rfl⟩ := p1
    obtain ⟨rfl, rfl, rfl⟩ := q1
    obtain ⟨rfl, rfl, rfl⟩ := r1
    exact ⟨o0, o1, o2, e0, c0, e1', c1, e2, c2, _, _, _, _, _, _, rfl, p2, q2, r2, p3, p4, q3, q4, r3, r4⟩
set_option maxRecDepth 100000 in
theorem read_61 {n : Nat} {cs : List Value} {x : DataW H × List MemPlace} (h : DataW.trod enc Tryz.prog w 0 sp held n 61 cs = some x) :
    ∃ l0 l1 : Int, cs = [.int .i8 l0, .int .i8 l1] ∧ (-128 ≤ l0 ∧ l0 ≤ 127) ∧ (-128 ≤ l1 ∧ l1 ≤ 127) := by
  obtain ⟨xs, m, e1, _, hlen, hxs, hf⟩ := DataW.trod_array Tryz.underlying61 h
  rw [cells61] at hlen
  match cs, hlen with
  | [a0, a1], _ =>
    have f0 := hf 0 (by omega)
    have f1 := hf 1 (by omega)
    simp only [cells60, List.drop, List.take, Nat.zero_mul, Nat.one_mul] at f0 f1
    rw [List.getElem?_eq_getElem (by omega)] at f0 f1
    obtain ⟨l0, p1, _, p2⟩ := DataW.trod_int Tryz.underlying60 f0
    obtain ⟨l1, q1, _, q2⟩ := DataW.trod_int Tryz.underlying60 f1
    simp only [List.cons.injEq, and_true] at p1 q1
    subst p1 q1
    have hm : IntKind.i8.min = -128 := rfl
    have hM : IntKind.i8.max = 127 := rfl
    simp only [Lit.wf, hm, hM, Bool.and_eq_true, decide_eq_true_eq] at p2 q2
    exact ⟨l0, l1, rfl, p2, q2⟩
set_option maxRecDepth 100000 in
theorem read_62 {n : Nat} {cs : List Value} {x : DataW H × List MemPlace} (h : DataW.trod enc Tryz.prog w 0 sp held n 62 cs = some x) :
    ∃ n0 n1 n2 n3 : Int, cs = [.int .u8 n0, .int .u8 n1, .int .u8 n2, .int .u8 n3] ∧ (0 ≤ n0 ∧ n0 ≤ 255) ∧ (0 ≤ n1 ∧ n1 ≤ 255) ∧ (0 ≤ n2 ∧ n2 ≤ 255) ∧ (0 ≤ n3 ∧ n3 ≤ 255) := by
  obtain ⟨xs, m, e1, _, hlen, hxs, hf⟩ := DataW.trod_array Tryz.underlying62 h
  rw [cells62] at hlen
  match cs, hlen with
  | [a0, a1, a2, a3], _ =>
    have f0 := hf 0 (by omega)
    have f1 := hf 1 (by omega)
    have f2 := hf 2 (by omega)
    have f3 := hf 3 (by omega)
    simp only [cells5, List.drop, List.take, Nat.zero_mul, Nat.one_mul, Nat.reduceMul] at f0 f1 f2 f3
    rw [List.getElem?_eq_getElem (by omega)] at f0 f1 f2 f3
    obtain ⟨n0, p1, _, p2⟩ := DataW.trod_int Tryz.underlying5 f0
    obtain ⟨n1, q1, _, q2⟩ := DataW.trod_int Tryz.underlying5 f1
    obtain ⟨n2, r1, _, r2⟩ := DataW.trod_int Tryz.underlying5 f2
    obtain ⟨n3, s1, _, s2⟩ := DataW.trod_int Tryz.underlying5 f3
    simp only [List.cons.injEq, and_true] at p1 q1 r1 s1
    subst p1 q1 r1 s1
    have hm : IntKind.u8.min = 0 := rfl
    have hM : IntKind.u8.max = 255 := rfl
    simp only [Lit.wf, hm, hM, Bool.and_eq_true, decide_eq_true_eq] at p2 q2 r2 s2
    exact ⟨n0, n1, n2, n3, rfl, p2, q2, r2, s2⟩
end
end Go.Sy

/- From a contract to the kit's `Calls`: a call that reads no caller's block. -/
set_option linter.unusedVariables false
namespace Go.Sy
theorem calls_plain {P : Program} {f : Nat} {args : List AV} {e : AV} (h : CallSpecF P f args [] (.ret e) []) (xs : Array Value) (w : World)
    (hx : VRels (fun _ => False) (fun _ => .absent) w args xs.toList) :
    Calls P f xs w (fun en w' => ∃ x, en = .returned x ∧ (∃ L', VRel (fun _ => False) L' w' e x) ∧ _root_.Go.RowKit.Below w.heap.size w w') := by
  intro cs
  have H : HRel (fun _ => False) (fun _ => .absent) (hpL []) w := by
    refine ⟨fun _ _ => rfl, fun b hb => by simp [hpL] at hb, fun b x hb => by simp [hpL] at hb, fun b b' c o cap sz o' cap' sz' hb => by simp at hb, fun c hc => ?_, fun c _ hc => hc.elim, fun c hc => hc.elim⟩
    obtain ⟨b, o, cap, sz, hb⟩ := hc
    exact nomatch hb
  obtain ⟨L', w', F', s, E, HR, hfn, hkd, hl⟩ := h (fun _ => False) (fun _ => .absent) w xs cs H hx
  obtain ⟨h1, h2, _, fn, h3, x, h4, h5⟩ := hl
  refine ⟨.returned x, w', F', ⟨x, rfl, ⟨L', h5⟩, E.os, E.tape, E.output, E.size, fun k hk => E.same k hk ?_⟩, s, hfn, h1, h2, hkd, fn, h3, h4⟩
  rintro ⟨b, o, cap, sz, hb⟩
  exact nomatch hb
end Go.Sy

/- What a law leaves whose arguments hold memory that it only reads. -/
set_option linter.unusedVariables false
namespace Go.Sy
open Go.ChangeShapes Go.WideShapes Go.RowKit
theorem post_reads {H : Type} {enc : TypeId × Value → H} {P : Program} {f : Func} {s : ChangeSpec} {apart fresh handsOn : Bool} {W W' : World} {args : Array Value} {v : Value} {ds : List (DataW H)} {before : List MemPlace}
    (hv : s.vars = []) (hW : DataW.Whole enc P f.params.toList s.vars apart W args.toList ds [] before)
    (hres : ∀ (b : Nat) (sp : Nat → Bool) (hd : Bool), DataW.TrodAll enc P W' b sp hd f.resultTypes.toList (v.resultList f.resultTypes.size) (s.fn H ds).results [])
    (hargs : DataW.TrodAll enc P W' 0 (fun b => decide (b < W.heap.size)) true f.params.toList args.toList (s.fn H ds).args before) (hvs : (s.fn H ds).vars = [])
    (hb : RowKit.Below W.heap.size W W') :
    s.post enc P f apart fresh handsOn false W args v W' := by
  refine ⟨ds, [], before, [], before, [], hW, by rw [List.append_nil]; exact hres _ _ _, by rw [List.append_nil]; exact hargs, ?_, World.keptBut_mono (fun p hp => ⟨hp, .inr (.inl hp)⟩) (hb.frame (· ∈ before)), fun h => nomatch h⟩
  rw [List.append_nil, hvs, hv]
  exact rfl
end Go.Sy

/- PROVED HERE: Rows.ConditionImpliesSaid (theorem conditionImplies_holds). -/
set_option linter.unusedVariables false
namespace Go.Sy
open Go.Proofs
theorem agg_rel {w : World} {vs : List AV} {xs : Array Value} (hl : vs.length = xs.toList.length) (h : ∀ (j : Nat) (v : AV) (x : Value), vs[j]? = some v → xs.toList[j]? = some x → VR w v x) : VR w (.agg vs) (.agg xs) :=
  .agg (by simpa using hl) (fun j v x h1 h2 => h j v x h1 (by simpa using h2))
end Go.Sy
namespace Go.Proofs.YtapfloegpaadgaaGreat
open Go.ChangeShapes Go.WideShapes Go.ChangeAt Go.RowKit Go.Sy

theorem Tryz.own : ownKnob Tryz.prog.godebug = none := by kernel_rfl
theorem Tryz.laidOut : laidOutB Tryz.prog = true := by kernel_rfl

set_option maxRecDepth 100000 in
theorem implies_any (W : World) (cs0 cs1 cs2 : Array Value) {H : Type} {enc : TypeId × Value → H} {d0 d1 d2 : DataW H} {p0 p1 p2 : List MemPlace}
    (h0 : DataW.Trod enc Tryz.prog W 0 (fun _ => true) true 59 (.agg cs0) d0 p0) (h1 : DataW.Trod enc Tryz.prog W 0 (fun _ => true) true 61 (.agg cs1) d1 p1) (h2 : DataW.Trod enc Tryz.prog W 0 (fun _ => true) true 62 (.agg cs2) d2 p2) :
    Calls Tryz.prog 6 #[.agg cs0, .agg cs1, .agg cs2] W (fun en w' => en = .returned (.bool true) ∧ RowKit.Below W.heap.size W w') := by
  obtain ⟨f0, g0⟩ := h0
  obtain ⟨f1, g1⟩ := h1
  obtain ⟨f2, g2⟩ := h2
  obtain ⟨o0, o1, o2, e0, c0, e1, c1, e2, c2, s0, t0, s1, t1, s2, t2, a1, i0, i1, i2, b0, b1, b2, b3, b4, b5⟩ := read_59 g0
  obtain ⟨l0, l1, a2, hl0, hl1⟩ := read_61 g1
  obtain ⟨n0, n1, n2, n3, a3, hn0, hn1, hn2, hn3⟩ := read_62 g2
  have a1' : cs0.toList = [.int .i64 o0, s0, t0, .int .i64 o1, s1, t1, .int .i64 o2, s2, t2] := a1
  have a2' : cs1.toList = [.int .i8 l0, .int .i8 l1] := a2
  have a3' : cs2.toList = [.int .u8 n0, .int .u8 n1, .int .u8 n2, .int .u8 n3] := a3
  have r0 : VR W (aC o0 o1 o2 e0 c0 e1 c1 e2 c2) (.agg cs0) := agg_rel (by rw [a1']; rfl) fun j v x hv hx => by
    rw [a1'] at hx
    match j, hv, hx with
    | 0, hv, hx => cases hv; cases hx; exact .int _ _
    | 1, hv, hx => cases hv; cases hx; exact b0
    | 2, hv, hx => cases hv; cases hx; exact b1
    | 3, hv, hx => cases hv; cases hx; exact .int _ _
    | 4, hv, hx => cases hv; cases hx; exact b2
    | 5, hv, hx => cases hv; cases hx; exact b3
    | 6, hv, hx => cases hv; cases hx; exact .int _ _
    | 7, hv, hx => cases hv; cases hx; exact b4
    | 8, hv, hx => cases hv; cases hx; exact b5
  have r1 : VR W (aL l0 l1) (.agg cs1) := agg_rel (by rw [a2']; rfl) fun j v x hv hx => by
    rw [a2'] at hx
    match j, hv, hx with
    | 0, hv, hx => cases hv; cases hx; exact .int _ _
    | 1, hv, hx => cases hv; cases hx; exact .int _ _
  have r2 : VR W (aN n0 n1 n2 n3) (.agg cs2) := agg_rel (by rw [a3']; rfl) fun j v x hv hx => by
    rw [a3'] at hx
    match j, hv, hx with
    | 0, hv, hx => cases hv; cases hx; exact .int _ _
    | 1, hv, hx => cases hv; cases hx; exact .int _ _
    | 2, hv, hx => cases hv; cases hx; exact .int _ _
    | 3, hv, hx => cases hv; cases hx; exact .int _ _
  refine (calls_plain (impl_call i0 i1 i2 l0 l1 n0 n1 n2 n3 hl0 hl1 hn0 hn1 hn2 hn3) #[.agg cs0, .agg cs1, .agg cs2] W (.cons r0 (.cons r1 (.cons r2 .nil)))).mono fun e W' ⟨x, he, ⟨L', hx⟩, hb⟩ => ?_
  cases hx
  exact ⟨he, hb⟩
end Go.Proofs.YtapfloegpaadgaaGreat
