/- A float by two is a half of it: to the bit. No program in sight. -/
import Derived.Test.YtjgdeijodjihlaaFlx
namespace Go.Proofs.Ytjgdeijodjihlaa
open Ieee
set_option linter.unusedVariables false

theorem cut_scale (n d k : Nat) (hn : 0 < n) : Toward.even.cut false (n * 2 ^ k) (d + k) = Toward.even.cut false n d := by
  unfold Toward.cut
  have hp : 0 < 2 ^ k := Nat.pow_pos (by omega)
  rw [log2_mul hn k, show min (d + k) (n.log2 + k + 2) = min d (n.log2 + 2) + k by omega]
  generalize min d (n.log2 + 2) = e
  have hg : 1 <<< (e + k) = (1 <<< e) * 2 ^ k := by rw [Nat.shiftLeft_eq, Nat.shiftLeft_eq, Nat.one_mul, Nat.one_mul, Nat.pow_add]
  have hgp : 0 < 1 <<< e := by rw [Nat.shiftLeft_eq, Nat.one_mul]; exact Nat.pow_pos (by omega)
  simp only [hg]
  generalize 1 <<< e = g at *
  rw [Nat.mul_div_mul_right _ _ hp, Nat.mul_mod_mul_right]
  have e1 : 2 * (n % g * 2 ^ k) = 2 * (n % g) * 2 ^ k := by rw [Nat.mul_assoc]
  rw [e1]
  have h1 : decide (g * 2 ^ k < 2 * (n % g) * 2 ^ k) = decide (g < 2 * (n % g)) := by
    rw [decide_eq_decide]; exact Nat.mul_lt_mul_right hp
  have h2 : (g * 2 ^ k == 2 * (n % g) * 2 ^ k) = (g == 2 * (n % g)) := by
    by_cases h : g = 2 * (n % g)
    · rw [beq_iff_eq.2 h, beq_iff_eq.2 (by rw [← h])]
    · rw [beq_eq_false_iff_ne.2 h, beq_eq_false_iff_ne.2 (fun e => h (Nat.eq_of_mul_eq_mul_right hp e))]
  rw [h1, h2]
theorem nearest_scale {m : Nat} (h : 0 < m) (p : Int) (k : Nat) : D64.nearest false (m * 2 ^ k) (p - k) = D64.nearest false m p := by
  have hp : 0 < 2 ^ k := Nat.pow_pos (by omega)
  have hpos : m * 2 ^ k ≠ 0 := by have := Nat.mul_pos h hp; omega
  unfold Format.nearest
  rw [if_neg hpos, if_neg (by omega), log2_mul h k]
  have hl : p - (k : Int) + ((m.log2 + k : Nat) : Int) - (D64.fractionBits : Int) = p + m.log2 - D64.fractionBits := by omega
  rw [hl]
  generalize max (p + (m.log2 : Int) - (D64.fractionBits : Int)) D64.leastPlace = last
  have hk : Toward.even.cut false ((m * 2 ^ k) <<< (p - (k : Int) - last).toNat) (last - (p - (k : Int))).toNat = Toward.even.cut false (m <<< (p - last).toNat) (last - p).toNat := by
    rw [Nat.shiftLeft_eq, Nat.shiftLeft_eq]
    by_cases h1 : p < last
    · rw [show (p - (k : Int) - last).toNat = 0 by omega, show (p - last).toNat = 0 by omega, show (last - (p - (k : Int))).toNat = (last - p).toNat + k by omega, Nat.pow_zero, Nat.mul_one, Nat.mul_one]
      exact cut_scale m _ k h
    · rw [show (last - p).toNat = 0 by omega]
      by_cases h2 : p - k < last
      · obtain ⟨d, hd⟩ : ∃ d : Nat, last = p - k + d := ⟨(last - (p - k)).toNat, by omega⟩
        have hdk : d ≤ k := by omega
        rw [show (p - (k : Int) - last).toNat = 0 by omega, show (last - (p - (k : Int))).toNat = d by omega, show (p - last).toNat = k - d by omega, Nat.pow_zero, Nat.mul_one]
        rw [cut_even (m * 2 ^ k) d (m * 2 ^ (k - d)) (by rw [Nat.mul_assoc, ← Nat.pow_add, show k - d + d = k by omega]) (by rw [log2_mul h k]; omega)]
        rw [cut_even (m * 2 ^ (k - d)) 0 (m * 2 ^ (k - d)) (by simp) (by omega)]
      · rw [show (last - (p - (k : Int))).toNat = 0 by omega, Nat.mul_assoc, ← Nat.pow_add, show k + (p - (k : Int) - last).toNat = (p - last).toNat by omega]
  dsimp only
  rw [hk]
theorem read_twi : D64.read 4611686018427387904 = .number false 4503599627370496 (-51) := by kernel_rfl
theorem read_hlf : D64.read 4602678819172646912 = .number false 4503599627370496 (-53) := by kernel_rfl
theorem nearest_nil (p q : Int) : D64.nearest false 0 p = D64.nearest false 0 q := by unfold Format.nearest; rw [if_pos rfl, if_pos rfl]
theorem log2_two52 : (4503599627370496 : Nat).log2 = 52 := by kernel_rfl
theorem quo_two {x m : Nat} {p : Int} (hr : D64.read x = .number false m p) (hm : m < 9007199254740992) : floatBits .quo .f64 x 4611686018427387904 = floatBits .mul .f64 x 4602678819172646912 := by
  have key : D64.nearest false (m * 4503599627370496) (p + -53) = D64.nearest false (2 * ((m * 2 ^ (106 - m.log2)) / 4503599627370496) + ((m * 2 ^ (106 - m.log2)) % 4503599627370496 != 0).toNat) (p - -51 - ((106 - m.log2 : Nat) : Int) - 1) := by
    by_cases h0 : m = 0
    · subst h0
      rw [Nat.zero_mul, Nat.zero_mul]
      exact nearest_nil _ _
    · have hl := log2_le (m := m) (by omega) hm
      have e52 : (4503599627370496 : Nat) = 2 ^ 52 := by decide
      obtain ⟨k, hk⟩ : ∃ k, 106 - m.log2 = k + 52 := ⟨54 - m.log2, by omega⟩
      rw [hk, e52, Nat.pow_add, ← Nat.mul_assoc, Nat.mul_div_cancel _ (Nat.pow_pos (by omega)), Nat.mul_mod_left]
      have hz : ((0 : Nat) != 0).toNat = 0 := rfl
      rw [hz, Nat.add_zero, show 2 * (m * 2 ^ k) = m * 2 ^ (k + 1) by rw [Nat.pow_succ, Nat.mul_left_comm, Nat.mul_comm 2]]
      have a1 := nearest_scale (m := m) (by omega) (p - 1) 52
      have a2 := nearest_scale (m := m) (by omega) (p - 1) (k + 1)
      rw [show p - 1 - ((52 : Nat) : Int) = p + -53 by omega] at a1
      rw [show p - 1 - ((k + 1 : Nat) : Int) = p - -51 - ((k + 52 : Nat) : Int) - 1 by omega] at a2
      rw [a1, a2]
  show (Datum.quotient 54 (D64.read x) (D64.read 4611686018427387904)).map D64.write = (Datum.product (D64.read x) (D64.read 4602678819172646912)).map D64.write
  rw [hr, read_twi, read_hlf]
  have e1 : Datum.quotient 54 (.number false m p) (.number false 4503599627370496 (-51)) = some (.number false (2 * ((m * 2 ^ (106 - m.log2)) / 4503599627370496) + ((m * 2 ^ (106 - m.log2)) % 4503599627370496 != 0).toNat) (p - -51 - ((106 - m.log2 : Nat) : Int) - 1)) := by
    unfold Datum.quotient
    simp only [Nat.shiftLeft_eq, log2_two52]
    rfl
  have e2 : Datum.product (.number false m p) (.number false 4503599627370496 (-53)) = some (.number false (m * 4503599627370496) (p + -53)) := rfl
  rw [e1, e2, Option.map_some, Option.map_some]
  exact congrArg some key.symm
end Go.Proofs.Ytjgdeijodjihlaa
