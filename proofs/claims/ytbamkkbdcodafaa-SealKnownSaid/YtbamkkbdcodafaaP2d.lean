/- Layer 2 (seal), plain: steps as a matrix over bits. -/
import Derived.Test.YtbamkkbdcodafaaP2c
namespace Go.Proofs.Ytbamkkbdcodafaa
open Go.RowKit
set_option linter.unusedVariables false

/-- what the first k rows make of a register -/
def mofK (ms : List (BitVec 32)) (v : BitVec 32) : Nat → BitVec 32
  | 0 => 0#32
  | k + 1 => mofK ms v k ^^^ ms.getD k 0#32 * (v >>> k &&& 1#32)
theorem mofK_zero (ms : List (BitVec 32)) (v : BitVec 32) : mofK ms v 0 = 0#32 := rfl
theorem mofK_succ (ms : List (BitVec 32)) (v : BitVec 32) (k : Nat) : mofK ms v (k + 1) = mofK ms v k ^^^ ms.getD k 0#32 * (v >>> k &&& 1#32) := rfl
/-- the matrix of K steps -/
def mat (K : Nat) : List (BitVec 32) := (List.range 32).map fun i => stpN K (1#32 <<< i)
theorem mat_len (K : Nat) : (mat K).length = 32 := by simp [mat]
theorem mat_at (K i : Nat) (h : i < 32) : (mat K).getD i 0#32 = stpN K (1#32 <<< i) := by
  unfold mat
  rw [List.getD_eq_getElem?_getD, List.getElem?_map, List.getElem?_range h]; rfl
/-- a register's lowest bits -/
def lowK (v : BitVec 32) : Nat → BitVec 32
  | 0 => 0#32
  | k + 1 => lowK v k ^^^ (if v.getLsbD k then 1#32 <<< k else 0#32)
theorem shl_bit (k i : Nat) (hi : i < 32) : (1#32 <<< k).getLsbD i = decide (i = k) := by
  rw [BitVec.getLsbD_shiftLeft]
  rcases Nat.lt_or_ge i k with h | h
  · simp [h]; omega
  · rw [one_bit _ (by omega)]
    simp [hi, show ¬ i < k by omega]
    omega
theorem lowK_bit (v : BitVec 32) (i : Nat) (hi : i < 32) : ∀ k, (lowK v k).getLsbD i = (decide (i < k) && v.getLsbD i)
  | 0 => by simp [lowK]
  | k + 1 => by
    rw [lowK, BitVec.getLsbD_xor, lowK_bit v i hi k]
    have e : (if v.getLsbD k then 1#32 <<< k else 0#32).getLsbD i = (v.getLsbD k && decide (i = k)) := by
      cases v.getLsbD k
      · simp
      · simp only [if_true, Bool.true_and]; exact shl_bit k i hi
    rw [e]
    rcases Nat.lt_trichotomy i k with h | h | h
    · simp [h, show i < k + 1 by omega, show ¬ i = k by omega]
    · subst h; simp
    · simp [show ¬ i < k by omega, show ¬ i < k + 1 by omega, show ¬ i = k by omega]
theorem lowK_all (v : BitVec 32) : lowK v 32 = v := by
  apply BitVec.eq_of_getLsbD_eq
  intro i hi
  rw [lowK_bit v i hi]; simp [hi]
theorem mof_mat (K : Nat) (v : BitVec 32) : ∀ k, k ≤ 32 → mofK (mat K) v k = stpN K (lowK v k)
  | 0, _ => by rw [mofK_zero, lowK, stpN_z]
  | k + 1, h => by
    rw [mofK_succ, mof_mat K v k (by omega), lowK, stpN_xor, mat_at K k (by omega), one_cases]
    have e : (v >>> k).getLsbD 0 = v.getLsbD k := by rw [BitVec.getLsbD_ushiftRight]; simp
    rw [e]
    cases v.getLsbD k
    · simp [stpN_z]
    · simp
theorem mof_steps (K : Nat) (v : BitVec 32) : mofK (mat K) v 32 = stpN K v := by rw [mof_mat K v 32 (Nat.le_refl _), lowK_all]
/-- a matrix that is that of no step takes no step -/
theorem mat_same {K : Nat} (h : mat K = mat 0) (v : BitVec 32) : stpN K v = v := by rw [← mof_steps K v, h, mof_steps, stpN_zero]
theorem stpN_mul {K : Nat} (h : ∀ v, stpN K v = v) (v : BitVec 32) : ∀ n, stpN (K * n) v = v
  | 0 => by rw [Nat.mul_zero, stpN_zero]
  | n + 1 => by rw [Nat.mul_succ, stpN_add, stpN_mul h v n, h]
/-- the first k rows, the others 0 -/
def matK (K k : Nat) : List (BitVec 32) := (mat K).take k ++ List.replicate (32 - k) 0#32
theorem matK_len (K k : Nat) (h : k ≤ 32) : (matK K k).length = 32 := by simp [matK, mat_len]; omega
theorem matK_zero (K : Nat) : matK K 0 = List.replicate 32 0#32 := by simp [matK]
theorem matK_all (K : Nat) : matK K 32 = mat K := by
  unfold matK
  rw [Nat.sub_self, List.replicate_zero, List.append_nil, List.take_of_length_le (by rw [mat_len]; exact Nat.le_refl _)]
theorem matK_set (K k : Nat) (h : k < 32) : (matK K k).set k (stpN K (1#32 <<< k)) = matK K (k + 1) := by
  unfold matK
  rw [List.set_append_right _ _ (by rw [List.length_take]; omega), List.length_take, mat_len, Nat.min_eq_left (by omega), Nat.sub_self, show 32 - k = (32 - (k + 1)) + 1 by omega, List.replicate_succ, List.set_cons_zero,
    List.take_add_one, List.getElem?_eq_getElem (by rw [mat_len]; exact h), List.append_assoc]
  have := mat_at K k h
  rw [List.getD_eq_getElem?_getD, List.getElem?_eq_getElem (by rw [mat_len]; exact h)] at this
  simp only [Option.getD_some] at this
  rw [this]
  rfl
/-- from one matrix to another, a row at a time -/
def mixK (K L k : Nat) : List (BitVec 32) := (mat L).take k ++ (mat K).drop k
theorem mixK_len (K L k : Nat) (h : k ≤ 32) : (mixK K L k).length = 32 := by simp [mixK, mat_len]; omega
theorem mixK_zero (K L : Nat) : mixK K L 0 = mat K := by simp [mixK]
theorem mixK_all (K L : Nat) : mixK K L 32 = mat L := by
  unfold mixK
  rw [List.drop_eq_nil_of_le (by rw [mat_len]; exact Nat.le_refl _), List.append_nil, List.take_of_length_le (by rw [mat_len]; exact Nat.le_refl _)]
theorem mixK_at (K L k : Nat) (h : k < 32) : (mixK K L k).getD k 0#32 = stpN K (1#32 <<< k) := by
  unfold mixK
  rw [List.getD_eq_getElem?_getD, List.getElem?_append_right (by rw [List.length_take]; omega), List.length_take, mat_len, Nat.min_eq_left (by omega), Nat.sub_self, List.getElem?_drop, Nat.add_zero, ← List.getD_eq_getElem?_getD, mat_at K k h]
theorem mixK_set (K L k : Nat) (h : k < 32) : (mixK K L k).set k (stpN L (1#32 <<< k)) = mixK K L (k + 1) := by
  unfold mixK
  rw [List.set_append_right _ _ (by rw [List.length_take]; omega), List.length_take, mat_len, Nat.min_eq_left (by omega), Nat.sub_self, List.drop_eq_getElem_cons (by rw [mat_len]; exact h), List.set_cons_zero,
    List.take_add_one, List.getElem?_eq_getElem (by rw [mat_len]; exact h), List.append_assoc]
  have := mat_at L k h
  rw [List.getD_eq_getElem?_getD, List.getElem?_eq_getElem (by rw [mat_len]; exact h)] at this
  simp only [Option.getD_some] at this
  rw [this]
  rfl
attribute [irreducible] mofK mat matK mixK
end Go.Proofs.Ytbamkkbdcodafaa
