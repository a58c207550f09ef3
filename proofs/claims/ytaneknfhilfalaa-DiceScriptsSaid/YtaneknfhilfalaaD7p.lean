/- Plain laws of layer 7: stirring and unstirring words. No program in sight but for the functions that the walks tell. -/
import Derived.Test.YtaneknfhilfalaaD7b
namespace Go.Proofs.Ytaneknfhilfalaa
set_option linter.unusedVariables false

theorem fold_bit (y : BitVec 64) (d : Nat) (i : Nat) : (y ^^^ (y >>> d ^^^ y >>> (2 * d))).getLsbD i = (y.getLsbD i ^^ (y.getLsbD (d + i) ^^ y.getLsbD (2 * d + i))) := by
  simp only [BitVec.getLsbD_xor, BitVec.getLsbD_ushiftRight]
/-- of a word that is held against itself shifted -/
theorem unfold_fold (y : BitVec 64) (d : Nat) (hd : 64 ≤ 3 * d) : (y ^^^ (y >>> d ^^^ y >>> (2 * d))) ^^^ (y ^^^ (y >>> d ^^^ y >>> (2 * d))) >>> d = y := by
  apply BitVec.eq_of_getLsbD_eq
  intro i hi
  rw [BitVec.getLsbD_xor, BitVec.getLsbD_ushiftRight, fold_bit, fold_bit, show d + (d + i) = 2 * d + i by omega, BitVec.getLsbD_of_ge y (2 * d + (d + i)) (by omega)]
  cases y.getLsbD i <;> cases y.getLsbD (d + i) <;> cases y.getLsbD (2 * d + i) <;> rfl
theorem fold_unfold (y : BitVec 64) (d : Nat) (hd : 64 ≤ 3 * d) : (y ^^^ y >>> d) ^^^ ((y ^^^ y >>> d) >>> d ^^^ (y ^^^ y >>> d) >>> (2 * d)) = y := by
  apply BitVec.eq_of_getLsbD_eq
  intro i hi
  simp only [BitVec.getLsbD_xor, BitVec.getLsbD_ushiftRight]
  rw [show d + (d + i) = 2 * d + i by omega, BitVec.getLsbD_of_ge y (d + (2 * d + i)) (by omega)]
  cases y.getLsbD i <;> cases y.getLsbD (d + i) <;> cases y.getLsbD (2 * d + i) <;> rfl
theorem bit_one (t : BitVec 64) (j : Nat) : (t &&& 1#64).getLsbD j = (decide (j = 0) && t.getLsbD 0) := by
  rw [BitVec.getLsbD_and, BitVec.getLsbD_one]
  by_cases h : j = 0
  · subst h; simp
  · simp [h]
theorem high_step (y z : BitVec 64) (d b : Nat) (hb : b < 64) (hd : 1 ≤ d) (hz : ∀ i, i < 64 → z.getLsbD i = (y.getLsbD i ^^ z.getLsbD (i + d))) :
    unshStep y d b (z >>> (b + 1) <<< (b + 1)) = z >>> b <<< b := by
  have hzb := hz b hb
  have e : (if b + d < 64 then (y >>> b &&& 1#64) ^^^ ((z >>> (b + 1) <<< (b + 1)) >>> (b + d) &&& 1#64) else y >>> b &&& 1#64) = (z >>> b &&& 1#64) := by
    apply BitVec.eq_of_getLsbD_eq
    intro j hj
    by_cases h3 : b + d < 64
    · rw [if_pos h3, BitVec.getLsbD_xor, bit_one, bit_one, bit_one]
      simp only [BitVec.getLsbD_ushiftRight, BitVec.getLsbD_shiftLeft, Nat.add_zero]
      rw [hzb, show b + 1 + (b + d - (b + 1)) = b + d by omega]
      have h4 : ¬ b + d < b + 1 := by omega
      simp only [h3, h4, decide_true, decide_false, Bool.true_and, Bool.not_false]
      cases decide (j = 0) <;> cases y.getLsbD b <;> cases z.getLsbD (b + d) <;> rfl
    · rw [if_neg h3, bit_one, bit_one]
      simp only [BitVec.getLsbD_ushiftRight, Nat.add_zero]
      rw [hzb, BitVec.getLsbD_of_ge z (b + d) (by omega), Bool.xor_false]
  unfold unshStep
  rw [e]
  apply BitVec.eq_of_getLsbD_eq
  intro i hi
  simp only [BitVec.getLsbD_or, BitVec.getLsbD_shiftLeft, BitVec.getLsbD_ushiftRight, bit_one, Nat.add_zero, hi, decide_true, Bool.true_and]
  by_cases h : i < b
  · have h' : i < b + 1 := by omega
    simp only [h, h', decide_true, Bool.not_true, Bool.false_and, Bool.or_false]
  · by_cases h2 : i = b
    · subst h2
      simp
    · have h5 : ¬ i < b + 1 := by omega
      have h6 : ¬ i - b = 0 := by omega
      simp only [h, h5, h6, decide_false, Bool.not_false, Bool.false_and, Bool.true_and, Bool.and_false, Bool.or_false]
      rw [show b + 1 + (i - (b + 1)) = i by omega, show b + (i - b) = i by omega]
theorem unsh_high (y z : BitVec 64) (d : Nat) (hd : 1 ≤ d) (hz : ∀ i, i < 64 → z.getLsbD i = (y.getLsbD i ^^ z.getLsbD (i + d))) :
    ∀ b, b ≤ 64 → unsh y d b (z >>> b <<< b) = z := by
  intro b
  induction b with
  | zero => intro _; rw [unsh_zero, BitVec.ushiftRight_zero, BitVec.shiftLeft_zero]
  | succ b ih => intro h; rw [unsh_succ, high_step y z d b (by omega) hd hz]; exact ih (by omega)
theorem unsh_eq (y : BitVec 64) (d : Nat) (hd : 64 ≤ 3 * d) : unsh y d 64 0#64 = y ^^^ (y >>> d ^^^ y >>> (2 * d)) := by
  have h := unsh_high y (y ^^^ (y >>> d ^^^ y >>> (2 * d))) d (by omega) (fun i hi => by
    rw [fold_bit, fold_bit, show d + (i + d) = 2 * d + i by omega, BitVec.getLsbD_of_ge y (2 * d + (i + d)) (by omega), Nat.add_comm i d]
    cases y.getLsbD i <;> cases y.getLsbD (d + i) <;> cases y.getLsbD (2 * d + i) <;> rfl) 64 (Nat.le_refl _)
  have e0 : (y ^^^ (y >>> d ^^^ y >>> (2 * d))) >>> 64 <<< 64 = 0#64 := by
    apply BitVec.eq_of_getLsbD_eq
    intro i hi
    rw [BitVec.getLsbD_shiftLeft]
    simp [hi]
  rw [e0] at h
  exact h
theorem unsh31 (y : BitVec 64) : unsh y 31 64 0#64 = y ^^^ (y >>> 31 ^^^ y >>> 62) := unsh_eq y 31 (by decide)
theorem unsh27 (y : BitVec 64) : unsh y 27 64 0#64 = y ^^^ (y >>> 27 ^^^ y >>> 54) := unsh_eq y 27 (by decide)
theorem unsh30 (y : BitVec 64) : unsh y 30 64 0#64 = y ^^^ (y >>> 30 ^^^ y >>> 60) := unsh_eq y 30 (by decide)
theorem uf31 (y : BitVec 64) : (y ^^^ (y >>> 31 ^^^ y >>> 62)) ^^^ (y ^^^ (y >>> 31 ^^^ y >>> 62)) >>> 31 = y := unfold_fold y 31 (by decide)
theorem uf27 (y : BitVec 64) : (y ^^^ (y >>> 27 ^^^ y >>> 54)) ^^^ (y ^^^ (y >>> 27 ^^^ y >>> 54)) >>> 27 = y := unfold_fold y 27 (by decide)
theorem uf30 (y : BitVec 64) : (y ^^^ y >>> 30 ^^^ y >>> 60) ^^^ (y ^^^ y >>> 30 ^^^ y >>> 60) >>> 30 = y := by rw [BitVec.xor_assoc y]; exact unfold_fold y 30 (by decide)
theorem fu31 (y : BitVec 64) : (y ^^^ y >>> 31) ^^^ ((y ^^^ y >>> 31) >>> 31 ^^^ (y ^^^ y >>> 31) >>> 62) = y := fold_unfold y 31 (by decide)
theorem fu27 (y : BitVec 64) : (y ^^^ y >>> 27) ^^^ ((y ^^^ y >>> 27) >>> 27 ^^^ (y ^^^ y >>> 27) >>> 54) = y := fold_unfold y 27 (by decide)
theorem fu30 (y : BitVec 64) : (y ^^^ y >>> 30) ^^^ (y ^^^ y >>> 30) >>> 30 ^^^ (y ^^^ y >>> 30) >>> 60 = y := by rw [BitVec.xor_assoc]; exact fold_unfold y 30 (by decide)
theorem inv_first : inv 0xBF58476D1CE4E5B9#64 64 0#64 = 0x96DE1B173F119089#64 := by decide +kernel
theorem inv_second : inv 0x94D049BB133111EB#64 64 0#64 = 0x319642B2D24D8EC3#64 := by decide +kernel
theorem inv_stride : inv 0x9E3779B97F4A7C15#64 64 0#64 = 0xF1DE83E19937733D#64 := by decide +kernel
theorem unmix'_eq (x : BitVec 64) : unsh (unsh (unsh x 31 64 0#64 * inv 0x94D049BB133111EB#64 64 0#64) 27 64 0#64 * inv 0xBF58476D1CE4E5B9#64 64 0#64) 30 64 0#64 = unmix x := by
  rw [inv_first, inv_second, unsh31, unsh27, unsh30, ← BitVec.xor_assoc]
  unfold unmix
  rfl
theorem steps'_eq (x y : BitVec 64) : (y - x) * inv 0x9E3779B97F4A7C15#64 64 0#64 = stepsOf x y := by rw [inv_stride]; unfold stepsOf; rfl
theorem unmix_mix (x : BitVec 64) : unmix (mix x) = x := by
  unfold unmix mix
  simp only []
  rw [fu31, BitVec.mul_assoc, show (0x94D049BB133111EB#64 * 0x319642B2D24D8EC3#64) = 1#64 by decide, BitVec.mul_one, fu27,
    BitVec.mul_assoc, show (0xBF58476D1CE4E5B9#64 * 0x96DE1B173F119089#64) = 1#64 by decide, BitVec.mul_one, fu30]
theorem mix_unmix (x : BitVec 64) : mix (unmix x) = x := by
  unfold unmix mix
  simp only []
  rw [uf30, BitVec.mul_assoc, show (0x96DE1B173F119089#64 * 0xBF58476D1CE4E5B9#64) = 1#64 by decide, BitVec.mul_one, uf27,
    BitVec.mul_assoc, show (0x319642B2D24D8EC3#64 * 0x94D049BB133111EB#64) = 1#64 by decide, BitVec.mul_one, uf31]
open Go.RowKit in
theorem unmixr_calls (x : BitVec 64) (w : World) : Calls Try.prog 13 #[.int .u64 (Bv x)] w fun e w' => e = .returned (.int .u64 (Bv (unmix x))) ∧ w = w' := by
  have h := unmix'_calls x w; rw [unmix'_eq] at h; exact h
open Go.RowKit in
theorem stepsr_calls (x y : BitVec 64) (w : World) : Calls Try.prog 14 #[.int .u64 (Bv x), .int .u64 (Bv y)] w fun e w' => e = .returned (.int .u64 (Bv (stepsOf x y))) ∧ w = w' := by
  have h := steps'_calls x y w; rw [steps'_eq] at h; exact h
end Go.Proofs.Ytaneknfhilfalaa
