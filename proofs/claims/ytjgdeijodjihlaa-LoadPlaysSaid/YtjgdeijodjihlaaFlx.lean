/- Whole numbers below 2^53 as floats, halved and doubled: exact. No program in sight. -/
import Derived.Test.YtjgdeijodjihlaaFlt
namespace Go.Proofs.Ytjgdeijodjihlaa
open Ieee
set_option linter.unusedVariables false

theorem d_frac : D64.fractionBits = 52 := by kernel_rfl
theorem d_least : D64.leastPlace = -1074 := by kernel_rfl
/-- the word of m * 2^p -/
def enc (m : Nat) (p : Int) : Nat := (p + (m.log2 : Int) + 1022).toNat * 4503599627370496 + m * 2 ^ (52 - m.log2)
theorem log2_bd {m : Nat} (h : 0 < m) : 2 ^ m.log2 ≤ m ∧ m < 2 ^ (m.log2 + 1) := ⟨Nat.log2_self_le (by omega), Nat.lt_log2_self⟩
theorem log2_eq {m k : Nat} (h1 : 2 ^ k ≤ m) (h2 : m < 2 ^ (k + 1)) : m.log2 = k := by
  have h0 : m ≠ 0 := by
    have := Nat.pow_pos (n := k) (show 0 < 2 by omega)
    omega
  exact (Nat.log2_eq_iff h0).2 ⟨h1, h2⟩
theorem log2_le {m : Nat} (h : 0 < m) (h53 : m < 9007199254740992) : m.log2 ≤ 52 := by
  have := (log2_bd h).1
  by_cases hk : m.log2 ≤ 52
  · exact hk
  · have h2 : 2 ^ 53 ≤ 2 ^ m.log2 := Nat.pow_le_pow_right (by omega) (by omega)
    omega
theorem log2_mul {m : Nat} (h : 0 < m) (t : Nat) : (m * 2 ^ t).log2 = m.log2 + t := by
  obtain ⟨h1, h2⟩ := log2_bd h
  refine log2_eq ?_ ?_
  · rw [Nat.pow_add]; exact Nat.mul_le_mul_right _ h1
  · rw [show m.log2 + t + 1 = m.log2 + 1 + t by omega, Nat.pow_add]
    exact (Nat.mul_lt_mul_right (Nat.pow_pos (by omega))).2 h2
/-- the significand, all its digits -/
theorem full {m : Nat} (h : 0 < m) (h53 : m < 9007199254740992) : 4503599627370496 ≤ m * 2 ^ (52 - m.log2) ∧ m * 2 ^ (52 - m.log2) < 9007199254740992 := by
  obtain ⟨h1, h2⟩ := log2_bd h
  have hk := log2_le h h53
  have e1 : 2 ^ m.log2 * 2 ^ (52 - m.log2) = 4503599627370496 := by rw [← Nat.pow_add, show m.log2 + (52 - m.log2) = 52 by omega]
  have e2 : 2 ^ (m.log2 + 1) * 2 ^ (52 - m.log2) = 9007199254740992 := by rw [← Nat.pow_add, show m.log2 + 1 + (52 - m.log2) = 53 by omega]
  constructor
  · rw [← e1]; exact Nat.mul_le_mul_right _ h1
  · rw [← e2]; exact (Nat.mul_lt_mul_right (Nat.pow_pos (by omega))).2 h2
theorem cut_even (n d : Nat) (B : Nat) (hn : n = B * 2 ^ d) (hd : d ≤ n.log2 + 2) : Toward.even.cut false n d = B := by
  unfold Toward.cut
  rw [Nat.min_eq_left hd]
  have hg : 1 <<< d = 2 ^ d := by rw [Nat.shiftLeft_eq, Nat.one_mul]
  have hp : 0 < 2 ^ d := Nat.pow_pos (by omega)
  simp only [hg]
  rw [hn, Nat.mul_div_cancel _ hp, Nat.mul_mod_left]
  have h1 : decide (2 ^ d < 2 * 0) = false := decide_eq_false (by omega)
  have h2 : (2 ^ d == 2 * 0) = false := by rw [beq_eq_false_iff_ne]; omega
  rw [h1, h2]
  simp
theorem nearest_enc {m : Nat} (h : 0 < m) (h53 : m < 9007199254740992) (p : Int) (t : Nat) (h1 : -1022 ≤ p + m.log2) (h2 : p + m.log2 ≤ 1023) : D64.nearest false (m * 2 ^ t) (p - t) = enc m p := by
  have hk := log2_le h h53
  have hf := full h h53
  have hpos : m * 2 ^ t ≠ 0 := by
    have := Nat.mul_pos h (Nat.pow_pos (n := t) (show 0 < 2 by omega))
    omega
  unfold Format.nearest
  rw [if_neg hpos, d_frac, d_least, d_bin, d_inf, log2_mul h t]
  have hmax : max (p - (t : Int) + ((m.log2 + t : Nat) : Int) - ((52 : Nat) : Int)) (-1074) = p + m.log2 - 52 := by omega
  rw [hmax]
  have hkept : Toward.even.cut false ((m * 2 ^ t) <<< (p - (t : Int) - (p + m.log2 - 52)).toNat) ((p + m.log2 - 52) - (p - (t : Int))).toNat = m * 2 ^ (52 - m.log2) := by
    rw [Nat.shiftLeft_eq]
    by_cases ht : t ≤ 52 - m.log2
    · rw [show (p - (t : Int) - (p + m.log2 - 52)).toNat = 52 - m.log2 - t by omega, show ((p + m.log2 - 52) - (p - (t : Int))).toNat = 0 by omega]
      refine cut_even _ 0 _ ?_ (by omega)
      rw [Nat.pow_zero, Nat.mul_one, Nat.mul_assoc, ← Nat.pow_add, show t + (52 - m.log2 - t) = 52 - m.log2 by omega]
    · rw [show (p - (t : Int) - (p + m.log2 - 52)).toNat = 0 by omega, show ((p + m.log2 - 52) - (p - (t : Int))).toNat = t - (52 - m.log2) by omega]
      rw [Nat.pow_zero, Nat.mul_one]
      refine cut_even _ _ _ ?_ (by rw [log2_mul h t]; omega)
      rw [Nat.mul_assoc, ← Nat.pow_add, show 52 - m.log2 + (t - (52 - m.log2)) = t by omega]
  dsimp only
  rw [hkept]
  unfold Format.word enc
  simp only [Bool.false_eq_true, if_false]
  rw [show p + (m.log2 : Int) - 52 - -1074 = p + m.log2 + 1022 by omega]
  apply Nat.min_eq_left
  have ha : (p + (m.log2 : Int) + 1022).toNat ≤ 2045 := by omega
  generalize (p + (m.log2 : Int) + 1022).toNat = A at *
  generalize m * 2 ^ (52 - m.log2) = B at *
  have hm : A * 4503599627370496 ≤ 2045 * 4503599627370496 := Nat.mul_le_mul_right _ ha
  have hn : 2045 * 4503599627370496 + 9007199254740992 = 9218868437227405312 := by decide
  rw [← hn]
  exact Nat.add_le_add hm (Nat.le_of_lt hf.2)
theorem read_enc {m : Nat} (h : 0 < m) (h53 : m < 9007199254740992) (p : Int) (h1 : -1022 ≤ p + m.log2) (h2 : p + m.log2 ≤ 1023) : D64.read (enc m p) = .number false (m * 2 ^ (52 - m.log2)) (p + m.log2 - 52) := by
  have hf := full h h53
  unfold enc
  obtain ⟨A, hA⟩ : ∃ A, (p + (m.log2 : Int) + 1022).toNat = A := ⟨_, rfl⟩
  have hA2 : A ≤ 2045 := by omega
  have hA3 : (A : Int) = p + m.log2 + 1022 := by omega
  rw [hA]
  generalize m * 2 ^ (52 - m.log2) = B at *
  have hm := Nat.mul_le_mul_right 4503599627370496 hA2
  unfold Format.read
  rw [d_sw, d_bin, d_inf, d_least]
  have e1 : (A * 4503599627370496 + B) / 9223372036854775808 = 0 := Nat.div_eq_of_lt (by omega)
  have e2 : (A * 4503599627370496 + B) % 9223372036854775808 = A * 4503599627370496 + B := Nat.mod_eq_of_lt (by omega)
  have e3 : (A * 4503599627370496 + B) / 4503599627370496 = A + 1 := by omega
  have e4 : (A * 4503599627370496 + B) % 4503599627370496 = B - 4503599627370496 := by omega
  simp only [e1, e2, e3, e4]
  rw [if_neg (by omega), if_pos (by omega)]
  rw [show 4503599627370496 + (B - 4503599627370496) = B by omega, show (-1074 : Int) + ((A + 1 - 1 : Nat) : Int) = p + m.log2 - 52 by omega]
  rfl
theorem ofInt_enc {m : Nat} (h : 0 < m) (h53 : m < 9007199254740992) : floatOfInt .f64 (m : Int) = enc m 0 := by
  have hk := log2_le h h53
  have e := nearest_enc h h53 0 0 (by omega) (by omega)
  rw [Nat.pow_zero, Nat.mul_one] at e
  rw [← e]
  have h1 : ∀ f : Format, f.write (.number (decide ((m : Int) < 0)) (m : Int).natAbs 0) = f.nearest false m (0 - ((0 : Nat) : Int)) := fun f => by
    rw [decide_eq_false (by omega)]
    rfl
  exact h1 D64
theorem read_ulp : D64.read 4368491638549381120 = .number false (2 ^ 52) (-105) := by kernel_rfl
theorem read_53 : D64.read 4845873199050653696 = .number false (2 ^ 52) 1 := by kernel_rfl
theorem read_one : D64.read 4607182418800017408 = .number false (2 ^ 52) (-52) := by kernel_rfl
theorem write_number (f : Format) (m : Nat) (p : Int) : f.write (.number false m p) = f.nearest false m p := rfl
theorem mul_ulp {m : Nat} (h : 0 < m) (h53 : m < 9007199254740992) : floatBits .mul .f64 (enc m 0) 4368491638549381120 = some (enc m (-53)) := by
  have hk := log2_le h h53
  show D64.mul (enc m 0) 4368491638549381120 = _
  unfold Format.mul
  rw [read_enc h h53 0 (by omega) (by omega), read_ulp]
  have hp : Datum.product (.number false (m * 2 ^ (52 - m.log2)) (0 + (m.log2 : Int) - 52)) (.number false (2 ^ 52) (-105)) = some (.number false (m * 2 ^ (104 - m.log2)) (-53 - ((104 - m.log2 : Nat) : Int))) := by
    simp only [Datum.product, Bool.xor_self]
    rw [Nat.mul_assoc, ← Nat.pow_add, show 52 - m.log2 + 52 = 104 - m.log2 by omega, show 0 + (m.log2 : Int) - 52 + -105 = -53 - ((104 - m.log2 : Nat) : Int) by omega]
  rw [hp, Option.map_some, write_number, nearest_enc h h53 (-53) _ (by omega) (by omega)]
theorem mul_53 {m : Nat} (h : 0 < m) (h53 : m < 9007199254740992) : floatBits .mul .f64 (enc m (-53)) 4845873199050653696 = some (enc m 0) := by
  have hk := log2_le h h53
  show D64.mul (enc m (-53)) 4845873199050653696 = _
  unfold Format.mul
  rw [read_enc h h53 (-53) (by omega) (by omega), read_53]
  have hp : Datum.product (.number false (m * 2 ^ (52 - m.log2)) (-53 + (m.log2 : Int) - 52)) (.number false (2 ^ 52) 1) = some (.number false (m * 2 ^ (104 - m.log2)) (0 - ((104 - m.log2 : Nat) : Int))) := by
    simp only [Datum.product, Bool.xor_self]
    rw [Nat.mul_assoc, ← Nat.pow_add, show 52 - m.log2 + 52 = 104 - m.log2 by omega, show -53 + (m.log2 : Int) - 52 + 1 = 0 - ((104 - m.log2 : Nat) : Int) by omega]
  rw [hp, Option.map_some, write_number, nearest_enc h h53 0 _ (by omega) (by omega)]
theorem div_53 {m : Nat} (h : 0 < m) (h53 : m < 9007199254740992) : floatBits .quo .f64 (enc m 0) 4845873199050653696 = some (enc m (-53)) := by
  have hk := log2_le h h53
  have hf := full h h53
  show D64.div (enc m 0) 4845873199050653696 = _
  unfold Format.div
  rw [read_enc h h53 0 (by omega) (by omega), read_53, d_frac]
  have hl1 : (2 ^ 52 : Nat).log2 = 52 := log2_eq (by omega) (by omega)
  have hl2 : (m * 2 ^ (52 - m.log2)).log2 = 52 := log2_eq (by omega) (by omega)
  have hp : Datum.quotient (52 + 2) (.number false (m * 2 ^ (52 - m.log2)) (0 + (m.log2 : Int) - 52)) (.number false (2 ^ 52) 1) = some (.number false (m * 2 ^ (55 - m.log2)) (-53 - ((55 - m.log2 : Nat) : Int))) := by
    simp only [Datum.quotient, Bool.xor_self, hl1, hl2]
    rw [if_neg (by omega), Nat.shiftLeft_eq]
    have e : m * 2 ^ (52 - m.log2) * 2 ^ (52 + 2 + 52 - 52) = m * 2 ^ (52 - m.log2) * 4 * 2 ^ 52 := by
      rw [Nat.mul_assoc _ 4, show (4 : Nat) * 2 ^ 52 = 2 ^ (52 + 2 + 52 - 52) by omega]
    rw [e, Nat.mul_div_cancel _ (by omega), Nat.mul_mod_left]
    have e2 : 2 * (m * 2 ^ (52 - m.log2) * 4) + ((0 : Nat) != 0).toNat = m * 2 ^ (55 - m.log2) := by
      have e3 : m * 2 ^ (55 - m.log2) = m * 2 ^ (52 - m.log2) * 8 := by
        rw [show 55 - m.log2 = 52 - m.log2 + 3 by omega, Nat.pow_add, ← Nat.mul_assoc]
      rw [e3]
      show 2 * (m * 2 ^ (52 - m.log2) * 4) + 0 = m * 2 ^ (52 - m.log2) * 8
      omega
    rw [e2, show 0 + (m.log2 : Int) - 52 - 1 - ((52 + 2 + 52 - 52 : Nat) : Int) - 1 = -53 - ((55 - m.log2 : Nat) : Int) by omega]
  rw [hp, Option.map_some, write_number, nearest_enc h h53 (-53) _ (by omega) (by omega)]
end Go.Proofs.Ytjgdeijodjihlaa
