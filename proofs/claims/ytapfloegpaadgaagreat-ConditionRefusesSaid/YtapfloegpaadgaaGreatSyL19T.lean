/- The rounds of the loop over the lists of values (printed by gen19a.py T). -/
import Derived.Test.YtapfloegpaadgaaGreatSyC19
set_option linter.unusedVariables false
namespace Go.Sy
open Go.Proofs

theorem rd1T  (l0 h0 m0 l1 h1 m1 : Int) (v0 v1 : Int) (ha : tb.spec 12 [.agg condT, vv v0 v1, .nils] [] (.ret (.bool true)) []) (hb : tb.spec 12 [.agg condT, vv v0 v1, .nils] [] (.ret (.bool false)) []) : FragSpec Tryz.prog 90 lp slL (preL l0 h0 m0 l1 h1 m1 v0 v1 condT condT) (.exit 2) [] (postX .done (some .ret) l0 h0 m0 l1 h1 m1 condT condT (.cells [.int .i64 v0, .int .i64 v1])) := by
  have h : fragOut (ev tb 1000 (.code lp { fn := 90, tmps := setSlots .nil slL, defs := [], round := none } .none) (stOf (preL l0 h0 m0 l1 h1 m1 v0 v1 condT condT) [hcall 5 true, hcall 9 false])) 9 [0, 1, 2, 3, 4, 5, 6, 7, 8] [] [] = some ([tb.spec 12 [.agg condT, vv v0 v1, .nils] [] (.ret (.bool false)) [], Unch 0 [] [] [], tb.spec 12 [.agg condT, vv v0 v1, .nils] [] (.ret (.bool true)) [], Unch 0 [] [] []], (.exit 2), [], (postX .done (some .ret) l0 h0 m0 l1 h1 m1 condT condT (.cells [.int .i64 v0, .int .i64 v1]))) := by kernel_rfl
  refine frag_spec seat_ok h ?_
  intro p hp
  simp only [List.mem_cons, List.not_mem_nil, or_false] at hp
  rcases hp with rfl | rfl | rfl | rfl
  · exact hb
  · exact unch0
  · exact ha
  · exact unch0
theorem rd2aT  (l0 h0 m0 l1 h1 m1 : Int) (v0 v1 : Int) (ha : tb.spec 12 [.agg condT, vv v0 v1, .nils] [] (.ret (.bool false)) []) (n1 : v1 ≠ h1) (b1 : -9223372036854775808 ≤ v1) (b2 : v1 + 1 < 9223372036854775808) : FragSpec Tryz.prog 90 lp slL (preL l0 h0 m0 l1 h1 m1 v0 v1 condT condT) .norm slL (preL l0 h0 m0 l1 h1 m1 v0 (v1 + 1) condT condT) := by
  have h : fragOut (ev tb 1000 (.code lp { fn := 90, tmps := setSlots .nil slL, defs := [], round := none } .none) (stOf (preL l0 h0 m0 l1 h1 m1 v0 v1 condT condT) [hcall 5 false, bv 29 false, (37, .v (.int .i64 (v1 + 1)))])) 9 [0, 1, 2, 3, 4, 5, 6, 7, 8] [] [0, 1, 3] = some ([(some (AV.int .i64 (wrapI .i64 (v1 + 1))) = some (AV.int .i64 (v1 + 1))), (some (AV.bool (decide (v1 = h1))) = some (AV.bool false)), tb.spec 12 [.agg condT, vv v0 v1, .nils] [] (.ret (.bool false)) [], Unch 0 [] [] []], .norm, slL, (preL l0 h0 m0 l1 h1 m1 v0 (v1 + 1) condT condT)) := by kernel_rfl
  refine frag_spec seat_ok h ?_
  intro p hp
  simp only [List.mem_cons, List.not_mem_nil, or_false] at hp
  rcases hp with rfl | rfl | rfl | rfl
  · rw [wrap_in _ (by omega) b2]
  · simp [n1]
  · exact ha
  · exact unch0
theorem rd3aT  (l0 h0 m0 l1 h1 m1 : Int) (v0 v1 : Int) (ha : tb.spec 12 [.agg condT, vv v0 v1, .nils] [] (.ret (.bool false)) []) (n1 : v1 = h1) (n0 : v0 ≠ h0) (b1 : -9223372036854775808 ≤ v0) (b2 : v0 + 1 < 9223372036854775808) : FragSpec Tryz.prog 90 lp slL (preL l0 h0 m0 l1 h1 m1 v0 v1 condT condT) .norm slL (preL l0 h0 m0 l1 h1 m1 (v0 + 1) l1 condT condT) := by
  have h : fragOut (ev tb 1000 (.code lp { fn := 90, tmps := setSlots .nil slL, defs := [], round := none } .none) (stOf (preL l0 h0 m0 l1 h1 m1 v0 v1 condT condT) [hcall 5 false, bv 29 true, bv 55 false, (63, .v (.int .i64 (v0 + 1)))])) 9 [0, 1, 2, 3, 4, 5, 6, 7, 8] [] [0, 1, 3] = some ([(some (AV.int .i64 (wrapI .i64 (v0 + 1))) = some (AV.int .i64 (v0 + 1))), (some (AV.bool (decide (v0 = h0))) = some (AV.bool false)), (some (AV.bool (decide (v1 = h1))) = some (AV.bool true)), tb.spec 12 [.agg condT, vv v0 v1, .nils] [] (.ret (.bool false)) [], Unch 0 [] [] []], .norm, slL, (preL l0 h0 m0 l1 h1 m1 (v0 + 1) l1 condT condT)) := by kernel_rfl
  refine frag_spec seat_ok h ?_
  intro p hp
  simp only [List.mem_cons, List.not_mem_nil, or_false] at hp
  rcases hp with rfl | rfl | rfl | rfl | rfl
  · rw [wrap_in _ (by omega) b2]
  · simp [n0]
  · simp [n1]
  · exact ha
  · exact unch0
theorem rd4aT  (l0 h0 m0 l1 h1 m1 : Int) (v0 v1 : Int) (ha : tb.spec 12 [.agg condT, vv v0 v1, .nils] [] (.ret (.bool false)) []) (n1 : v1 = h1) (n0 : v0 = h0) : FragSpec Tryz.prog 90 lp slL (preL l0 h0 m0 l1 h1 m1 v0 v1 condT condT) .ret [] (postX .ready none l0 h0 m0 l1 h1 m1 condT condT (.cells [.int .i64 l0, .int .i64 l1])) := by
  have h : fragOut (ev tb 1000 (.code lp { fn := 90, tmps := setSlots .nil slL, defs := [], round := none } .none) (stOf (preL l0 h0 m0 l1 h1 m1 v0 v1 condT condT) [hcall 5 false, bv 29 true, bv 55 true])) 9 [0, 1, 2, 3, 4, 5, 6, 7, 8] [] [] = some ([(some (AV.bool (decide (v0 = h0))) = some (AV.bool true)), (some (AV.bool (decide (v1 = h1))) = some (AV.bool true)), tb.spec 12 [.agg condT, vv v0 v1, .nils] [] (.ret (.bool false)) [], Unch 0 [] [] []], .ret, [], (postX .ready none l0 h0 m0 l1 h1 m1 condT condT (.cells [.int .i64 l0, .int .i64 l1]))) := by kernel_rfl
  refine frag_spec seat_ok h ?_
  intro p hp
  simp only [List.mem_cons, List.not_mem_nil, or_false] at hp
  rcases hp with rfl | rfl | rfl | rfl
  · simp [n0]
  · simp [n1]
  · exact ha
  · exact unch0
theorem rd2bT  (l0 h0 m0 l1 h1 m1 : Int) (v0 v1 : Int) (ha : tb.spec 12 [.agg condT, vv v0 v1, .nils] [] (.ret (.bool true)) []) (hb : tb.spec 12 [.agg condT, vv v0 v1, .nils] [] (.ret (.bool true)) []) (n1 : v1 ≠ h1) (b1 : -9223372036854775808 ≤ v1) (b2 : v1 + 1 < 9223372036854775808) : FragSpec Tryz.prog 90 lp slL (preL l0 h0 m0 l1 h1 m1 v0 v1 condT condT) .norm slL (preL l0 h0 m0 l1 h1 m1 v0 (v1 + 1) condT condT) := by
  have h : fragOut (ev tb 1000 (.code lp { fn := 90, tmps := setSlots .nil slL, defs := [], round := none } .none) (stOf (preL l0 h0 m0 l1 h1 m1 v0 v1 condT condT) [hcall 5 true, hcall 9 true, bv 29 false, (37, .v (.int .i64 (v1 + 1)))])) 9 [0, 1, 2, 3, 4, 5, 6, 7, 8] [] [0, 1, 3] = some ([(some (AV.int .i64 (wrapI .i64 (v1 + 1))) = some (AV.int .i64 (v1 + 1))), (some (AV.bool (decide (v1 = h1))) = some (AV.bool false)), tb.spec 12 [.agg condT, vv v0 v1, .nils] [] (.ret (.bool true)) [], Unch 0 [] [] [], tb.spec 12 [.agg condT, vv v0 v1, .nils] [] (.ret (.bool true)) [], Unch 0 [] [] []], .norm, slL, (preL l0 h0 m0 l1 h1 m1 v0 (v1 + 1) condT condT)) := by kernel_rfl
  refine frag_spec seat_ok h ?_
  intro p hp
  simp only [List.mem_cons, List.not_mem_nil, or_false] at hp
  rcases hp with rfl | rfl | rfl | rfl | rfl | rfl
  · rw [wrap_in _ (by omega) b2]
  · simp [n1]
  · exact ha
  · exact unch0
  · exact ha
  · exact unch0
theorem rd3bT  (l0 h0 m0 l1 h1 m1 : Int) (v0 v1 : Int) (ha : tb.spec 12 [.agg condT, vv v0 v1, .nils] [] (.ret (.bool true)) []) (hb : tb.spec 12 [.agg condT, vv v0 v1, .nils] [] (.ret (.bool true)) []) (n1 : v1 = h1) (n0 : v0 ≠ h0) (b1 : -9223372036854775808 ≤ v0) (b2 : v0 + 1 < 9223372036854775808) : FragSpec Tryz.prog 90 lp slL (preL l0 h0 m0 l1 h1 m1 v0 v1 condT condT) .norm slL (preL l0 h0 m0 l1 h1 m1 (v0 + 1) l1 condT condT) := by
  have h : fragOut (ev tb 1000 (.code lp { fn := 90, tmps := setSlots .nil slL, defs := [], round := none } .none) (stOf (preL l0 h0 m0 l1 h1 m1 v0 v1 condT condT) [hcall 5 true, hcall 9 true, bv 29 true, bv 55 false, (63, .v (.int .i64 (v0 + 1)))])) 9 [0, 1, 2, 3, 4, 5, 6, 7, 8] [] [0, 1, 3] = some ([(some (AV.int .i64 (wrapI .i64 (v0 + 1))) = some (AV.int .i64 (v0 + 1))), (some (AV.bool (decide (v0 = h0))) = some (AV.bool false)), (some (AV.bool (decide (v1 = h1))) = some (AV.bool true)), tb.spec 12 [.agg condT, vv v0 v1, .nils] [] (.ret (.bool true)) [], Unch 0 [] [] [], tb.spec 12 [.agg condT, vv v0 v1, .nils] [] (.ret (.bool true)) [], Unch 0 [] [] []], .norm, slL, (preL l0 h0 m0 l1 h1 m1 (v0 + 1) l1 condT condT)) := by kernel_rfl
  refine frag_spec seat_ok h ?_
  intro p hp
  simp only [List.mem_cons, List.not_mem_nil, or_false] at hp
  rcases hp with rfl | rfl | rfl | rfl | rfl | rfl | rfl
  · rw [wrap_in _ (by omega) b2]
  · simp [n0]
  · simp [n1]
  · exact ha
  · exact unch0
  · exact ha
  · exact unch0
theorem rd4bT  (l0 h0 m0 l1 h1 m1 : Int) (v0 v1 : Int) (ha : tb.spec 12 [.agg condT, vv v0 v1, .nils] [] (.ret (.bool true)) []) (hb : tb.spec 12 [.agg condT, vv v0 v1, .nils] [] (.ret (.bool true)) []) (n1 : v1 = h1) (n0 : v0 = h0) : FragSpec Tryz.prog 90 lp slL (preL l0 h0 m0 l1 h1 m1 v0 v1 condT condT) .ret [] (postX .ready none l0 h0 m0 l1 h1 m1 condT condT (.cells [.int .i64 l0, .int .i64 l1])) := by
  have h : fragOut (ev tb 1000 (.code lp { fn := 90, tmps := setSlots .nil slL, defs := [], round := none } .none) (stOf (preL l0 h0 m0 l1 h1 m1 v0 v1 condT condT) [hcall 5 true, hcall 9 true, bv 29 true, bv 55 true])) 9 [0, 1, 2, 3, 4, 5, 6, 7, 8] [] [] = some ([(some (AV.bool (decide (v0 = h0))) = some (AV.bool true)), (some (AV.bool (decide (v1 = h1))) = some (AV.bool true)), tb.spec 12 [.agg condT, vv v0 v1, .nils] [] (.ret (.bool true)) [], Unch 0 [] [] [], tb.spec 12 [.agg condT, vv v0 v1, .nils] [] (.ret (.bool true)) [], Unch 0 [] [] []], .ret, [], (postX .ready none l0 h0 m0 l1 h1 m1 condT condT (.cells [.int .i64 l0, .int .i64 l1]))) := by kernel_rfl
  refine frag_spec seat_ok h ?_
  intro p hp
  simp only [List.mem_cons, List.not_mem_nil, or_false] at hp
  rcases hp with rfl | rfl | rfl | rfl | rfl | rfl
  · simp [n0]
  · simp [n1]
  · exact ha
  · exact unch0
  · exact ha
  · exact unch0
theorem listsT  (hA hB : Int → Int → Bool) (HA : ∀ v0 v1, tb.spec 12 [.agg condT, vv v0 v1, .nils] [] (.ret (.bool (hA v0 v1))) []) (HB : ∀ v0 v1, tb.spec 12 [.agg condT, vv v0 v1, .nils] [] (.ret (.bool (hB v0 v1))) []) (l0 h0 m0 l1 h1 m1 : Int) (hl1 : -9223372036854775808 ≤ l1) (hh0 : h0 < 9223372036854775807) (hh1 : h1 < 9223372036854775807) (hlh : l1 ≤ h1) :
    ∀ (n : Nat) (v0 v1 : Int), -9223372036854775808 ≤ v0 → -9223372036854775808 ≤ v1 → v0 ≤ h0 → v1 ≤ h1 → (h0 - v0) * (h1 - l1 + 1) + (h1 - v1) < n →
      FragSpec Tryz.prog 90 (.loop lp) slL (preL l0 h0 m0 l1 h1 m1 v0 v1 condT condT) (finO (srch hA hB l1 h0 h1 n v0 v1)) [] (fin (srch hA hB l1 h0 h1 n v0 v1) l0 h0 m0 l1 h1 m1 condT condT) := by
  intro n
  induction n with
  | zero =>
    intro v0 v1 _ _ g1 g2 g3
    exfalso
    have : 0 ≤ (h0 - v0) * (h1 - l1 + 1) := Int.mul_nonneg (by omega) (by omega)
    omega
  | succ n ih =>
    intro v0 v1 f1 f2 g1 g2 g3
    have ha := HA v0 v1
    have hb := HB v0 v1
    have good : ∀ (ka : (hA v0 v1 && !hB v0 v1) = false) (r2 : v1 ≠ h1 → FragSpec Tryz.prog 90 lp slL (preL l0 h0 m0 l1 h1 m1 v0 v1 condT condT) .norm slL (preL l0 h0 m0 l1 h1 m1 v0 (v1 + 1) condT condT))
        (r3 : v1 = h1 → v0 ≠ h0 → FragSpec Tryz.prog 90 lp slL (preL l0 h0 m0 l1 h1 m1 v0 v1 condT condT) .norm slL (preL l0 h0 m0 l1 h1 m1 (v0 + 1) l1 condT condT))
        (r4 : v1 = h1 → v0 = h0 → FragSpec Tryz.prog 90 lp slL (preL l0 h0 m0 l1 h1 m1 v0 v1 condT condT) .ret [] (postX .ready none l0 h0 m0 l1 h1 m1 condT condT (.cells [.int .i64 l0, .int .i64 l1]))),
        FragSpec Tryz.prog 90 (.loop lp) slL (preL l0 h0 m0 l1 h1 m1 v0 v1 condT condT) (finO (srch hA hB l1 h0 h1 (n + 1) v0 v1)) [] (fin (srch hA hB l1 h0 h1 (n + 1) v0 v1) l0 h0 m0 l1 h1 m1 condT condT) := by
      intro ka r2 r3 r4
      simp only [srch, ka, Bool.false_or]
      by_cases e1 : v1 = h1
      · rw [if_pos e1]
        by_cases e0 : v0 = h0
        · rw [if_pos e0]
          exact loop_last (frag_drop (r4 e1 e0) cells_drop) (by simp [finO])
        · rw [if_neg e0]
          refine loop_more (r3 e1 e0) (ih (v0 + 1) l1 (by omega) hl1 (by omega) hlh ?_)
          have e2 : (h0 - v0) * (h1 - l1 + 1) = (h0 - (v0 + 1)) * (h1 - l1 + 1) + (h1 - l1 + 1) := by
            rw [show h0 - v0 = (h0 - (v0 + 1)) + 1 by omega, Int.add_mul, Int.one_mul]
          omega
      · rw [if_neg e1]
        exact loop_more (r2 e1) (ih v0 (v1 + 1) f1 (by omega) g1 (by omega) (by omega))
    cases ea : hA v0 v1 with
    | false =>
      rw [ea] at ha
      exact good (by rw [ea]; rfl) (fun e => rd2aT  l0 h0 m0 l1 h1 m1 v0 v1 ha e (by omega) (by omega)) (fun e e' => rd3aT  l0 h0 m0 l1 h1 m1 v0 v1 ha e e' (by omega) (by omega)) (fun e e' => rd4aT  l0 h0 m0 l1 h1 m1 v0 v1 ha e e')
    | true =>
      rw [ea] at ha
      cases eb : hB v0 v1 with
      | true =>
        rw [eb] at hb
        exact good (by rw [ea, eb]; rfl) (fun e => rd2bT  l0 h0 m0 l1 h1 m1 v0 v1 ha hb e (by omega) (by omega)) (fun e e' => rd3bT  l0 h0 m0 l1 h1 m1 v0 v1 ha hb e e' (by omega) (by omega)) (fun e e' => rd4bT  l0 h0 m0 l1 h1 m1 v0 v1 ha hb e e')
      | false =>
        rw [eb] at hb
        have e : srch hA hB l1 h0 h1 (n + 1) v0 v1 = true := by simp [srch, ea, eb]
        rw [e]
        exact loop_last (frag_drop (rd1T  l0 h0 m0 l1 h1 m1 v0 v1 ha hb) cells_drop) (by simp [finO])
end Go.Sy
