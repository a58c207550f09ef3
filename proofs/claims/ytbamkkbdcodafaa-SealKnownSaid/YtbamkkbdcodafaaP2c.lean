/- Layer 2 (seal), plain: many steps as one multiplication, and as one matrix. -/
import Derived.Test.YtbamkkbdcodafaaP2b
namespace Go.Proofs.Ytbamkkbdcodafaa
open Go.RowKit
set_option linter.unusedVariables false

/-- what a round of the product does -/
def tmsN : Nat → BitVec 32 → BitVec 32 → BitVec 32 → BitVec 32
  | 0, o, _, _ => o
  | k + 1, o, a, b => tmsN k (if a >>> 31 == 1#32 then o ^^^ b else o) (a * 2#32) (rstep b)
theorem tmsN_zero (o a b : BitVec 32) : tmsN 0 o a b = o := rfl
theorem tmsN_succ (k : Nat) (o a b : BitVec 32) : tmsN (k + 1) o a b = tmsN k (if a >>> 31 == 1#32 then o ^^^ b else o) (a * 2#32) (rstep b) := rfl
theorem stp_stpN (K : Nat) (b : BitVec 32) : stp (stpN K b) = stpN K (stp b) := by
  have h1 := stpN_add K 1 b
  have h2 := stpN_add 1 K b
  rw [stpN_succ 0, stpN_zero] at h1
  rw [stpN_succ 0, stpN_zero] at h2
  rw [← h1, ← h2, Nat.add_comm]
theorem tmsN_lin (K : Nat) : ∀ (k : Nat) (o a b : BitVec 32), tmsN k (stpN K o) a (stpN K b) = stpN K (tmsN k o a b)
  | 0, o, a, b => by rw [tmsN_zero, tmsN_zero]
  | k + 1, o, a, b => by
    rw [tmsN_succ, tmsN_succ, rstep_stp, rstep_stp, stp_stpN, ← tmsN_lin K k]
    congr 1
    split
    · rw [stpN_xor]
    · rfl
def one32 : BitVec 32 := 0x80000000#32
theorem one32_bit (i : Nat) (hi : i < 32) : one32.getLsbD i = decide (i = 31) := by
  have : ∀ j : Fin 32, one32.getLsbD j.val = decide (j.val = 31) := by decide
  exact this ⟨i, hi⟩
theorem tms_one : ∀ (k : Nat) (o a b : BitVec 32), k ≤ 32 → (k = 0 ∨ b = one32 >>> (32 - k)) → tmsN k o a b = o ^^^ a >>> (32 - k)
  | 0, o, a, b, _, _ => by
    rw [tmsN_zero]
    have : a >>> (32 - 0) = 0#32 := by
      apply BitVec.eq_of_getLsbD_eq
      intro i hi
      rw [BitVec.getLsbD_ushiftRight, BitVec.getLsbD_of_ge _ _ (by omega)]; simp
    rw [this, BitVec.xor_zero]
  | k + 1, o, a, b, hk, hb => by
    have hb' : b = one32 >>> (32 - (k + 1)) := by rcases hb with h | h; cases h; exact h
    rw [tmsN_succ, tms_one k _ _ _ (by omega) ?_, shr31_bit, mul2]
    · have key : a >>> (32 - (k + 1)) = (if a.getLsbD 31 then b else 0#32) ^^^ (a <<< 1) >>> (32 - k) := by
        rw [hb']
        apply BitVec.eq_of_getLsbD_eq
        intro i hi
        rw [BitVec.getLsbD_xor, BitVec.getLsbD_ushiftRight, BitVec.getLsbD_ushiftRight]
        rcases Nat.lt_trichotomy (32 - (k + 1) + i) 31 with h | h | h
        · rw [BitVec.getLsbD_shiftLeft]
          have e1 : (if a.getLsbD 31 then one32 >>> (32 - (k + 1)) else 0#32).getLsbD i = false := by
            split
            · rw [BitVec.getLsbD_ushiftRight, one32_bit _ (by omega)]; simp; omega
            · simp
          rw [e1]
          simp [show 32 - k + i < 32 by omega, show ¬ (32 - k + i < 1) by omega, show 32 - k + i - 1 = 32 - (k + 1) + i by omega]
        · have e1 : (if a.getLsbD 31 then one32 >>> (32 - (k + 1)) else 0#32).getLsbD i = a.getLsbD 31 := by
            split
            · rename_i h2
              rw [BitVec.getLsbD_ushiftRight, one32_bit _ (by omega), h2]; simp; omega
            · rename_i h2
              simp at h2
              simp [h2]
          rw [e1, h, BitVec.getLsbD_of_ge _ (32 - k + i) (by omega)]
          simp
        · rw [BitVec.getLsbD_of_ge a _ (by omega), BitVec.getLsbD_of_ge _ (32 - k + i) (by omega)]
          have e1 : (if a.getLsbD 31 then one32 >>> (32 - (k + 1)) else 0#32).getLsbD i = false := by
            split
            · rw [BitVec.getLsbD_ushiftRight, BitVec.getLsbD_of_ge _ _ (by omega)]
            · simp
          rw [e1]; rfl
      rw [key]
      cases a.getLsbD 31
      · simp
      · simp [BitVec.xor_assoc]
    · rcases Nat.eq_zero_or_pos k with h | h
      · exact Or.inl h
      · refine Or.inr ?_
        rw [rstep_stp, hb', stp_cases]
        have h0 : (one32 >>> (32 - (k + 1))).getLsbD 0 = false := by
          rw [BitVec.getLsbD_ushiftRight, one32_bit _ (by omega)]; simp; omega
        rw [h0]
        simp only [Bool.false_eq_true, if_false, BitVec.xor_zero]
        rw [← BitVec.shiftRight_add, show 32 - (k + 1) + 1 = 32 - k by omega]
/-- a power of x, multiplied: so many steps -/
theorem tms_pow (K : Nat) (a : BitVec 32) : tmsN 32 0#32 a (stpN K one32) = stpN K a := by
  have h := tmsN_lin K 32 0#32 a one32
  rw [stpN_z] at h
  rw [h, tms_one 32 0#32 a one32 (Nat.le_refl _) (Or.inr (by simp))]
  simp
theorem pow8 : stpN 8 one32 = 8388608#32 := by kernel_rfl
/-- the register behind 8 * n steps -/
def stn (v : BitVec 32) (n : Int) : BitVec 32 := stpN (8 * n.toNat) v
theorem stn_eq (v : BitVec 32) (n : Int) : stn v n = stpN (8 * n.toNat) v := rfl
attribute [irreducible] tmsN stn
end Go.Proofs.Ytbamkkbdcodafaa
