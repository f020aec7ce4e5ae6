/- Seat 19: words. -/
import Derived.Test.YtapfloegpaadgaaGreatSyCode19
set_option linter.unusedVariables false
namespace Go.Sy
open Go.Proofs
noncomputable def rg := rangeIn tfuncs 41 0
noncomputable def lp := loopIn tfuncs 90 1
noncomputable def condC (op : Int) (es cs : List AV) : List AV := [.int .i64 op, .imm 5 es false, .imm 3 cs false]
noncomputable def condT : List AV := [.int .i64 1, .nils, .nils]
noncomputable def tmI : T AV := setSlots .nil [(4, .ptr 5 0), (5, .ptr 6 0), (6, .ptr 7 0), (7, .ptr 8 0)]
noncomputable def postX (s : LoopState) (p : Option Code) (l0 h0 m0 l1 h1 m1 : Int) (A B : List AV) (v : Blk) : List Blk :=
  [.loop s p 41 tmI rg.1.toList rg.2.1 rg.2.2 4, .cells [.sl 3 0 2 3], v, .cells [.int .i64 l0, .int .i64 h0, .int .i64 m0, .int .i64 l1, .int .i64 h1, .int .i64 m1], .defd false, .cells A, .cells B, .cells [.bool false], .cells [.int .i64 0]]
noncomputable def preL (l0 h0 m0 l1 h1 m1 v0 v1 : Int) (A B : List AV) : List Blk := postX .ready none l0 h0 m0 l1 h1 m1 A B (.cells [.int .i64 v0, .int .i64 v1])
noncomputable def slL : List (Nat × AV) := [(0, .fn (.yield 0) [] []), (1, .ptr 1 0), (3, .sl 2 0 2 1)]
noncomputable def hcall (c : Nat) (b : Bool) : Nat × Ask := (c, .call [] [2] [] (.ret (.bool b)) [])
noncomputable def bv (c : Nat) (b : Bool) : Nat × Ask := (c, .v (.bool b))
noncomputable def vv (v0 v1 : Int) : AV := .imm 1 [.agg [.int .i64 v0], .agg [.int .i64 v1]] false
theorem unch0 : Unch 0 [] [] [] := fun i hi => by omega
theorem wrap_in (n : Int) (h1 : -9223372036854775808 ≤ n) (h2 : n < 9223372036854775808) : wrapI .i64 n = n := by
  rw [wrapI_eq]
  show (if (true && decide (n % (2 ^ 64 : Int) ≥ (2 ^ 63 : Int))) = true then n % (2 ^ 64 : Int) - (2 ^ 64 : Int) else n % (2 ^ 64 : Int)) = n
  rw [show (2 ^ 64 : Int) = 18446744073709551616 by rfl, show (2 ^ 63 : Int) = 9223372036854775808 by rfl]
  simp only [Bool.true_and, decide_eq_true_eq]
  split <;> omega
/-- is there one against it, from here on? -/
def srch (hA hB : Int → Int → Bool) (l1 h0 h1 : Int) : Nat → Int → Int → Bool
  | 0, _, _ => false
  | n + 1, v0, v1 => (hA v0 v1 && !hB v0 v1) || (if v1 = h1 then (if v0 = h0 then false else srch hA hB l1 h0 h1 n (v0 + 1) l1) else srch hA hB l1 h0 h1 n v0 (v1 + 1))
noncomputable def fin (found : Bool) (l0 h0 m0 l1 h1 m1 : Int) (A B : List AV) : List Blk := if found = true then postX .done (some .ret) l0 h0 m0 l1 h1 m1 A B .dead else postX .ready none l0 h0 m0 l1 h1 m1 A B .dead
def finO (found : Bool) : Out := if found = true then .exit 2 else .ret
theorem cells_drop {s : LoopState} {p : Option Code} {l0 h0 m0 l1 h1 m1 : Int} {A B : List AV} {v : Blk} (i : Nat) : (postX s p l0 h0 m0 l1 h1 m1 A B .dead)[i]? = (postX s p l0 h0 m0 l1 h1 m1 A B v)[i]? ∨ ((postX s p l0 h0 m0 l1 h1 m1 A B .dead)[i]? = some .dead ∧ (postX s p l0 h0 m0 l1 h1 m1 A B v)[i]? ≠ none) := by
  match i with
  | 0 | 1 | 3 | 4 | 5 | 6 | 7 | 8 => exact .inl rfl
  | 2 => exact .inr ⟨rfl, by simp [postX]⟩
  | n + 9 => exact .inl rfl
noncomputable def rn (l0 h0 m0 l1 h1 m1 : Int) := [AV.int .i64 l0, .int .i64 h0, .int .i64 m0, .int .i64 l1, .int .i64 h1, .int .i64 m1]
noncomputable def iv (c : Nat) (n : Int) : Nat × Ask := (c, .v (.int .i64 n))
theorem unch_fin {f : Bool} {l0 h0 m0 l1 h1 m1 v0 v1 : Int} {A B : List AV} : Unch 9 [0, 2] (preL l0 h0 m0 l1 h1 m1 v0 v1 A B) (fin f l0 h0 m0 l1 h1 m1 A B) := by
  intro i hi hw
  match i with
  | 0 => simp at hw
  | 2 => simp at hw
  | 1 | 3 | 4 | 5 | 6 | 7 | 8 => cases f <;> rfl
  | n + 9 => omega
def badR (l h : Int) : Bool := decide (l < -2147483648) || decide (h < l) || decide (2147483647 < h)
def impE (l0 h0 l1 h1 : Int) : Int := if (badR l0 h0 || badR l1 h1) = true then 1 else if 4096 < (h0 - l0 + 1) * (h1 - l1 + 1) then 2 else 0
def impB (hA hB : Int → Int → Bool) (l0 h0 l1 h1 : Int) : Bool := decide (impE l0 h0 l1 h1 = 0) && !srch hA hB l1 h0 h1 5000 l0 l1
theorem two_lists (w0 w1 : Int) (h0 : 1 ≤ w0) (h1 : 1 ≤ w1) (h2 : w0 ≤ 4294967296) (h3 : w1 ≤ 4294967296) (n1 : Int) (k1 : n1 = if 4097 < w0 then 4097 else w0) :
    -9223372036854775808 ≤ n1 * w1 ∧ n1 * w1 < 9223372036854775808 ∧ ((4096 < if 4097 < n1 * w1 then 4097 else n1 * w1) ↔ 4096 < w0 * w1) := by
  have a1 : 1 ≤ n1 ∧ n1 ≤ 4097 := by rw [k1]; split <;> omega
  have a2 : n1 * w1 ≤ 4097 * w1 := Int.mul_le_mul_of_nonneg_right a1.2 (by omega)
  have a3 : 1 * w1 ≤ n1 * w1 := Int.mul_le_mul_of_nonneg_right a1.1 (by omega)
  refine ⟨by omega, by omega, ?_⟩
  by_cases e : 4097 < w0
  · rw [if_pos e] at k1
    subst k1
    have a4 : 4097 * w1 ≤ w0 * w1 := Int.mul_le_mul_of_nonneg_right (by omega) (by omega)
    constructor
    · intro _; omega
    · intro _; split <;> omega
  · rw [if_neg e] at k1
    subst k1
    constructor
    · intro h; split at h <;> omega
    · intro h; split <;> omega
theorem badR_false {l h : Int} : badR l h = false ↔ ¬ l < -2147483648 ∧ ¬ h < l ∧ ¬ 2147483647 < h := by
  simp [badR, and_assoc]
end Go.Sy
