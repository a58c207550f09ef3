/- Reals of 53 bits: what Real answers, and what is asked of it. No program in sight. -/
import Derived.Test.YtjgdeijodjihlaaFlx
namespace Go.Proofs.Ytjgdeijodjihlaa
open Ieee
set_option linter.unusedVariables false

def wholeW (m : Nat) : Nat := if m = 0 then 0 else enc m 0
def realW (m : Nat) : Nat := if m = 0 then 0 else enc m (-53)
theorem whole_ofInt {m : Nat} (h53 : m < 9007199254740992) : floatOfInt .f64 (m : Int) = wholeW m := by
  unfold wholeW
  by_cases h : m = 0
  · subst h; rw [if_pos rfl]; kernel_rfl
  · rw [if_neg h]; exact ofInt_enc (by omega) h53
theorem real_mul {m : Nat} (h53 : m < 9007199254740992) : floatBits .mul .f64 (wholeW m) 4368491638549381120 = some (realW m) := by
  unfold wholeW realW
  by_cases h : m = 0
  · subst h; rw [if_pos rfl, if_pos rfl]; kernel_rfl
  · rw [if_neg h, if_neg h]; exact mul_ulp (by omega) h53
theorem real_div {m : Nat} (h53 : m < 9007199254740992) : floatBits .quo .f64 (wholeW m) 4845873199050653696 = some (realW m) := by
  unfold wholeW realW
  by_cases h : m = 0
  · subst h; rw [if_pos rfl, if_pos rfl]; kernel_rfl
  · rw [if_neg h, if_neg h]; exact div_53 (by omega) h53
theorem real_whole {m : Nat} (h53 : m < 9007199254740992) : floatBits .mul .f64 (realW m) 4845873199050653696 = some (wholeW m) := by
  unfold wholeW realW
  by_cases h : m = 0
  · subst h; rw [if_pos rfl, if_pos rfl]; kernel_rfl
  · rw [if_neg h, if_neg h]; exact mul_53 (by omega) h53
theorem cmp_gt {a b : Int} (h : b < a) : compare a b = .gt := by
  have h1 : ¬ a < b := by omega
  have h2 : ¬ a = b := by omega
  simp [compare, compareOfLessAndEq, h1, h2]
theorem cmp_lt {a b : Int} (h : a < b) : compare a b = .lt := by simp [compare, compareOfLessAndEq, h]
theorem real_geq {m : Nat} (h53 : m < 9007199254740992) : (FloatKind.f64.format.order (realW m) 0 == some .gt || FloatKind.f64.format.order (realW m) 0 == some .eq) = true := by
  unfold realW
  by_cases h : m = 0
  · subst h; rw [if_pos rfl]; kernel_rfl
  · rw [if_neg h]
    have hk := log2_le (by omega) h53
    have hf := full (by omega) h53
    unfold Format.order
    rw [show FloatKind.f64.format.read (enc m (-53)) = _ from read_enc (by omega) h53 (-53) (by omega) (by omega), show FloatKind.f64.format.read 0 = _ from read_zero]
    simp only [Datum.order, signed_zero]
    rw [cmp_gt]
    · rfl
    · rw [signed_false, Nat.shiftLeft_eq]
      have := Nat.mul_pos (show 0 < m * 2 ^ (52 - m.log2) by omega) (Nat.pow_pos (n := (-53 + (m.log2 : Int) - 52 - min (-53 + (m.log2 : Int) - 52) D64.leastPlace).toNat) (show 0 < 2 by omega))
      exact Int.ofNat_lt.2 this
theorem real_lt {m : Nat} (h53 : m < 9007199254740992) : (FloatKind.f64.format.order (realW m) 4607182418800017408 == some .lt) = true := by
  unfold realW
  by_cases h : m = 0
  · subst h; rw [if_pos rfl]; kernel_rfl
  · rw [if_neg h]
    have hk := log2_le (by omega) h53
    have hf := full (by omega) h53
    unfold Format.order
    rw [show FloatKind.f64.format.read (enc m (-53)) = _ from read_enc (by omega) h53 (-53) (by omega) (by omega), show FloatKind.f64.format.read 4607182418800017408 = _ from read_one]
    simp only [Datum.order]
    have hmin : min (-53 + (m.log2 : Int) - 52) (-52) = -53 + m.log2 - 52 := by omega
    rw [hmin, cmp_lt]
    · rfl
    · rw [signed_false, signed_false, Nat.shiftLeft_eq, Nat.shiftLeft_eq]
      apply Int.ofNat_lt.2
      rw [show (-53 + (m.log2 : Int) - 52 - (-53 + m.log2 - 52)).toNat = 0 by omega, show (-52 - (-53 + (m.log2 : Int) - 52)).toNat = 53 - m.log2 by omega, Nat.pow_zero, Nat.mul_one]
      have h2 : 2 ≤ 2 ^ (53 - m.log2) := by
        have : 2 ^ 1 ≤ 2 ^ (53 - m.log2) := Nat.pow_le_pow_right (by omega) (by omega)
        simpa using this
      have h3 : 2 ^ 52 * 2 ≤ 2 ^ 52 * 2 ^ (53 - m.log2) := Nat.mul_le_mul_left _ h2
      have h4 : (2 : Nat) ^ 52 * 2 = 9007199254740992 := by decide
      rw [h4] at h3
      exact Nat.lt_of_lt_of_le hf.2 h3
theorem whole_eq {m : Nat} (h53 : m < 9007199254740992) : (FloatKind.f64.format.order (wholeW m) (wholeW m) == some .eq) = true := by
  unfold wholeW
  by_cases h : m = 0
  · subst h; rw [if_pos rfl]; kernel_rfl
  · rw [if_neg h]
    have hk := log2_le (by omega) h53
    unfold Format.order
    rw [show FloatKind.f64.format.read (enc m 0) = _ from read_enc (by omega) h53 0 (by omega) (by omega)]
    simp only [Datum.order, cmp_self]
    rfl
theorem zero_cut (n d B : Nat) (hn : n = B * 2 ^ d) (hd : d ≤ n.log2 + 2) : Toward.zero.cut false n d = B := by
  unfold Toward.cut
  rw [Nat.min_eq_left hd]
  have hg : 1 <<< d = 2 ^ d := by rw [Nat.shiftLeft_eq, Nat.one_mul]
  have hp : 0 < 2 ^ d := Nat.pow_pos (by omega)
  simp only [hg]
  rw [hn, Nat.mul_div_cancel _ hp]
  simp
theorem int_of_number (B m : Nat) (p : Int) (h : Toward.zero.cut false (B <<< p.toNat) (-p).toNat = m) : Datum.toInt .zero (.number false B p) = some (m : Int) := by
  unfold Datum.toInt Datum.integral
  simp only [h, signed_false, Nat.shiftLeft_zero]
theorem u64_bounds (m : Nat) (h : m < 9007199254740992) : IntKind.u64.min ≤ (m : Int) ∧ (m : Int) ≤ IntKind.u64.max := by
  have h1 : IntKind.u64.min = 0 := by kernel_rfl
  have h2 : IntKind.u64.max = 18446744073709551615 := by kernel_rfl
  rw [h1, h2]; omega
theorem int_zero : floatToIntVal .f64 0 .u64 = some 0 := by kernel_rfl
theorem int_val (b m : Nat) (B : Nat) (p : Int) (hr : D64.read b = .number false B p) (hc : Toward.zero.cut false (B <<< p.toNat) (-p).toNat = m) (hm : m < 9007199254740992) : floatToIntVal .f64 b .u64 = some (m : Int) := by
  have hd : FloatKind.f64.decode b = .number false B p := hr
  unfold floatToIntVal
  rw [hd, int_of_number _ _ _ hc]
  simp only [if_pos (u64_bounds m hm)]
theorem cut_full {m : Nat} (h : 0 < m) (h53 : m < 9007199254740992) : Toward.zero.cut false ((m * 2 ^ (52 - m.log2)) <<< (0 + (m.log2 : Int) - 52).toNat) (-(0 + (m.log2 : Int) - 52)).toNat = m := by
  have hk := log2_le h h53
  have hf := full h h53
  have hl : (m * 2 ^ (52 - m.log2)).log2 = 52 := log2_eq (by omega) (by omega)
  rw [show (0 + (m.log2 : Int) - 52).toNat = 0 by omega, show (-(0 + (m.log2 : Int) - 52)).toNat = 52 - m.log2 by omega, Nat.shiftLeft_zero]
  exact zero_cut _ _ _ rfl (by rw [hl]; omega)
theorem whole_int {m : Nat} (h53 : m < 9007199254740992) : floatToIntVal .f64 (wholeW m) .u64 = some (m : Int) := by
  unfold wholeW
  by_cases h : m = 0
  · subst h; rw [if_pos rfl]; exact int_zero
  · rw [if_neg h]
    exact int_val _ _ _ _ (read_enc (by omega) h53 0 (by omega) (by have := log2_le (m := m) (by omega) h53; omega)) (cut_full (by omega) h53) h53

end Go.Proofs.Ytjgdeijodjihlaa
