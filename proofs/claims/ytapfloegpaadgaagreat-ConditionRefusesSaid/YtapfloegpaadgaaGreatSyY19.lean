/- ConditionRefuses: the call, whatever the input. -/
import Derived.Test.YtapfloegpaadgaaGreatSyR19
import Derived.Test.YtapfloegpaadgaaGreatSyX19
set_option linter.unusedVariables false
namespace Go.Sy
open Go.Proofs
def topQ : Int → Int → Bool := fun _ _ => true
theorem impB_top (l0 h0 l1 h1 : Int) : impB topQ topQ l0 h0 l1 h1 = decide (impE l0 h0 l1 h1 = 0) := by
  unfold impB
  rw [show srch topQ topQ l1 h0 h1 5000 l0 l1 = false from srch_top l1 h0 h1 5000 l0 l1]
  simp
theorem top17 (l0 h0 l1 h1 e : Int) (he : impE l0 h0 l1 h1 = e) :
    tb.spec 17 [.sl 0 0 2 3, .agg condT, .agg condT] [.cells (rn l0 h0 0 l1 h1 0)] (.ret (.agg [.bool (decide (e = 0)), .int .i64 e])) [.cells (rn l0 h0 0 l1 h1 0)] := by
  have h := impliesT topQ topQ holdsT holdsT l0 h0 0 l1 h1 0
  rw [impB_top, he] at h
  exact implied17 l0 h0 0 l1 h1 0 _ _ h
theorem s1_bad (lo hi : Int) (h : hi < lo ∨ lo < -2147483648 ∨ 2147483647 < hi) :
    tb.spec 17 [.sl 0 0 2 3, .agg condT, .agg condT] [.cells (rn 0 0 0 lo hi 0)] (.ret (.agg [.bool false, .int .i64 1])) [.cells (rn 0 0 0 lo hi 0)] := by
  refine top17 0 0 lo hi 1 ?_
  unfold impE badR
  rw [if_pos]
  simp only [Bool.or_eq_true, decide_eq_true_eq]
  omega
theorem s1_big (lo hi : Int) (h1 : ¬ hi < lo) (h2 : ¬ lo < -2147483648) (h3 : ¬ 2147483647 < hi) (h : 4095 < hi - lo) :
    tb.spec 17 [.sl 0 0 2 3, .agg condT, .agg condT] [.cells (rn 0 0 0 lo hi 0)] (.ret (.agg [.bool false, .int .i64 2])) [.cells (rn 0 0 0 lo hi 0)] := by
  refine top17 0 0 lo hi 2 ?_
  unfold impE badR
  rw [if_neg, if_pos]
  · omega
  · simp only [Bool.or_eq_true, decide_eq_true_eq]
    omega
theorem s1_fit (lo hi : Int) (h1 : ¬ hi < lo) (h2 : ¬ lo < -2147483648) (h3 : ¬ 2147483647 < hi) (h : ¬ 4095 < hi - lo) :
    tb.spec 17 [.sl 0 0 2 3, .agg condT, .agg condT] [.cells (rn 0 0 0 lo hi 0)] (.ret (.agg [.bool true, .int .i64 0])) [.cells (rn 0 0 0 lo hi 0)] := by
  refine top17 0 0 lo hi 0 ?_
  unfold impE badR
  rw [if_neg, if_neg]
  · omega
  · simp only [Bool.or_eq_true, decide_eq_true_eq]
    omega
theorem s2_fit (k : Int) (h1 : 0 ≤ k) (h2 : k < 64) :
    tb.spec 17 [.sl 0 0 2 3, .agg condT, .agg condT] [.cells (rn 1 64 0 0 k 0)] (.ret (.agg [.bool true, .int .i64 0])) [.cells (rn 1 64 0 0 k 0)] := by
  refine top17 1 64 0 k 0 ?_
  unfold impE badR
  rw [if_neg, if_neg]
  · omega
  · simp only [Bool.or_eq_true, decide_eq_true_eq]
    omega
theorem s2_big (k : Int) (h1 : 64 ≤ k) (h2 : k < 100) :
    tb.spec 17 [.sl 0 0 2 3, .agg condT, .agg condT] [.cells (rn 1 64 0 0 k 0)] (.ret (.agg [.bool false, .int .i64 2])) [.cells (rn 1 64 0 0 k 0)] := by
  refine top17 1 64 0 k 2 ?_
  unfold impE badR
  rw [if_neg, if_pos]
  · omega
  · simp only [Bool.or_eq_true, decide_eq_true_eq]
    omega
theorem refuses_call (lo hi n : Int) (n0 : 0 ≤ n) : CallSpecF Tryz.prog 7 [.int .i64 lo, .int .i64 hi, .int .u16 n] [] (.ret (.bool true)) [] := by
  obtain ⟨k, hk⟩ : ∃ k, k = n.tmod 100 := ⟨_, rfl⟩
  have k0 : 0 ≤ k := by rw [hk]; exact Int.tmod_nonneg _ n0
  have k1 : k < 100 := by rw [hk]; exact Int.tmod_lt_of_pos _ (by omega)
  have kk : some (AV.int .i64 (wrapI .i64 (n.tmod 100))) = some (AV.int .i64 k) := by rw [← hk, wrap_in _ (by omega) (by omega)]
  clear hk
  by_cases u : k < 64
  · have s2 := s2_fit k k0 u
    by_cases w1 : hi < lo
    · exact crAs lo hi n exS w1 (s1_bad lo hi (.inl w1)) k kk u (by omega) s2
    by_cases w2 : lo < -2147483648
    · exact crBs lo hi n exS w1 w2 (s1_bad lo hi (.inr (.inl w2))) k kk u (by omega) s2
    by_cases w3 : 2147483647 < hi
    · exact crCs lo hi n exS w1 w2 w3 (s1_bad lo hi (.inr (.inr w3))) k kk u (by omega) s2
    by_cases w4 : 4095 < hi - lo
    · exact crDs lo hi n exS w1 w2 w3 w4 (s1_big lo hi w1 w2 w3 w4) k kk u (by omega) s2
    · exact crEs lo hi n exS w1 w2 w3 w4 (s1_fit lo hi w1 w2 w3 w4) k kk u (by omega) s2
  · have s2 := s2_big k (by omega) k1
    by_cases w1 : hi < lo
    · exact crAb lo hi n exS w1 (s1_bad lo hi (.inl w1)) k kk u (by omega) s2
    by_cases w2 : lo < -2147483648
    · exact crBb lo hi n exS w1 w2 (s1_bad lo hi (.inr (.inl w2))) k kk u (by omega) s2
    by_cases w3 : 2147483647 < hi
    · exact crCb lo hi n exS w1 w2 w3 (s1_bad lo hi (.inr (.inr w3))) k kk u (by omega) s2
    by_cases w4 : 4095 < hi - lo
    · exact crDb lo hi n exS w1 w2 w3 w4 (s1_big lo hi w1 w2 w3 w4) k kk u (by omega) s2
    · exact crEb lo hi n exS w1 w2 w3 w4 (s1_fit lo hi w1 w2 w3 w4) k kk u (by omega) s2
end Go.Sy
