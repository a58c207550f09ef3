/- The walks of layer 7's functions over numbers alone, part two: the undoing by definition, products, remainders, division by hand. -/
import Derived.Test.YtaneknfhilfalaaD7a
namespace Go.Proofs.Ytaneknfhilfalaa
open Go.RowKit
set_option linter.unusedVariables false

theorem unmix'_calls (x : BitVec 64) (w : World) : Calls Try.prog 13 #[.int .u64 (Bv x)] w fun e w' =>
    e = .returned (.int .u64 (Bv (unsh (unsh (unsh x 31 64 0#64 * inv 0x94D049BB133111EB#64 64 0#64) 27 64 0#64 * inv 0xBF58476D1CE4E5B9#64 64 0#64) 30 64 0#64))) ∧ w = w' := by
  have h0 := Bv_nonneg x
  go_enter Try.func13, Try.ntmps13
  go_wp2_with fail
  refine (unshift_calls x 31 (by omega) _).mono ?_
  rintro e w' ⟨rfl, rfl⟩
  go_wp2_with fail
  refine (inverse_calls 0x94D049BB133111EB#64 _).mono ?_
  rintro e w' ⟨rfl, rfl⟩
  go_wp2_with fail
  refine (unshift_calls _ 27 (by omega) _).mono ?_
  rintro e w' ⟨rfl, rfl⟩
  go_wp2_with fail
  refine (inverse_calls 0xBF58476D1CE4E5B9#64 _).mono ?_
  rintro e w' ⟨rfl, rfl⟩
  go_wp2_with fail
  refine (unshift_calls _ 30 (by omega) _).mono ?_
  rintro e w' ⟨rfl, rfl⟩
  go_wp2_with fail
  go_ret
  exact ⟨rfl, rfl⟩
theorem steps'_calls (x y : BitVec 64) (w : World) : Calls Try.prog 14 #[.int .u64 (Bv x), .int .u64 (Bv y)] w fun e w' =>
    e = .returned (.int .u64 (Bv ((y - x) * inv 0x9E3779B97F4A7C15#64 64 0#64))) ∧ w = w' := by
  have h0 := Bv_nonneg x
  go_enter Try.func14, Try.ntmps14
  go_wp2_with fail
  refine (inverse_calls 0x9E3779B97F4A7C15#64 _).mono ?_
  rintro e w' ⟨rfl, rfl⟩
  go_wp2_with fail
  go_ret
  exact ⟨rfl, rfl⟩
def hi64 (x y : BitVec 64) : BitVec 64 := BitVec.ofNat 64 (x.toNat * y.toNat / 18446744073709551616)
theorem shr32_div (x : BitVec 64) : x >>> 32 = x / 4294967296#64 := by
  apply BitVec.eq_of_toNat_eq
  rw [BitVec.toNat_ushiftRight, Nat.shiftRight_eq_div_pow, BitVec.toNat_udiv]; rfl
theorem and32_mod (x : BitVec 64) : x &&& 4294967295#64 = x % 4294967296#64 := by
  apply BitVec.eq_of_toNat_eq
  rw [BitVec.toNat_and, BitVec.toNat_umod]
  exact Nat.and_two_pow_sub_one_eq_mod x.toNat 32
theorem hi_nat (x y : Nat) (hx : x < 18446744073709551616) (hy : y < 18446744073709551616) :
    (((x / 4294967296 * (y / 4294967296)) % 18446744073709551616 +
      (((x / 4294967296 * (y % 4294967296)) % 18446744073709551616 + ((x % 4294967296 * (y % 4294967296)) % 18446744073709551616) / 4294967296) % 18446744073709551616) / 4294967296) % 18446744073709551616 +
      (((((x / 4294967296 * (y % 4294967296)) % 18446744073709551616 + ((x % 4294967296 * (y % 4294967296)) % 18446744073709551616) / 4294967296) % 18446744073709551616) % 4294967296 +
        (x % 4294967296 * (y / 4294967296)) % 18446744073709551616) % 18446744073709551616) / 4294967296) % 18446744073709551616 = x * y / 18446744073709551616 := by
  have := mul64_arith x y (by omega) (by omega) (by omega) (by omega)
  rw [← Int.natCast_inj]
  simp only [Int.natCast_add, Int.natCast_mul, Int.natCast_ediv, Int.natCast_emod, Int.cast_ofNat_Int]
  exact this
theorem tn_add (x y : BitVec 64) : (x + y).toNat = (x.toNat + y.toNat) % 18446744073709551616 := BitVec.toNat_add ..
theorem tn_mul (x y : BitVec 64) : (x * y).toNat = (x.toNat * y.toNat) % 18446744073709551616 := BitVec.toNat_mul ..
theorem tn_div (x : BitVec 64) : (x / 4294967296#64).toNat = x.toNat / 4294967296 := BitVec.toNat_udiv
theorem tn_mod (x : BitVec 64) : (x % 4294967296#64).toNat = x.toNat % 4294967296 := BitVec.toNat_umod
theorem hi_div0 (x y : BitVec 64) : x / 4294967296#64 * (y / 4294967296#64) + (x / 4294967296#64 * (y % 4294967296#64) + x % 4294967296#64 * (y % 4294967296#64) / 4294967296#64) / 4294967296#64 +
    ((x / 4294967296#64 * (y % 4294967296#64) + x % 4294967296#64 * (y % 4294967296#64) / 4294967296#64) % 4294967296#64 + x % 4294967296#64 * (y / 4294967296#64)) / 4294967296#64 = hi64 x y := by
  apply BitVec.eq_of_toNat_eq
  have h := hi_nat x.toNat y.toNat x.isLt y.isLt
  have hb : x.toNat * y.toNat / 18446744073709551616 < 18446744073709551616 := by
    apply Nat.div_lt_of_lt_mul
    have := x.isLt; have := y.isLt
    exact Nat.mul_lt_mul'' x.isLt y.isLt
  have e : (hi64 x y).toNat = x.toNat * y.toNat / 18446744073709551616 := by
    unfold hi64; rw [BitVec.toNat_ofNat]; exact Nat.mod_eq_of_lt hb
  rw [e, ← h]
  simp only [tn_add, tn_mul, tn_div, tn_mod]
theorem lo_nat (A B C D : Nat) (hB : B ≤ 18446744065119617025) (hC : C ≤ 18446744065119617025) (hD : D ≤ 18446744065119617025) :
    (((((D % 18446744073709551616 + ((B % 18446744073709551616 + C % 18446744073709551616 / 4294967296) % 18446744073709551616) % 4294967296) % 18446744073709551616) % 4294967296 * 4294967296) % 18446744073709551616) +
      C % 18446744073709551616 % 4294967296) % 18446744073709551616 = (A * 18446744073709551616 + (B + D) * 4294967296 + C) % 18446744073709551616 := by
  rw [Nat.mod_eq_of_lt (show B < 18446744073709551616 by omega), Nat.mod_eq_of_lt (show C < 18446744073709551616 by omega), Nat.mod_eq_of_lt (show D < 18446744073709551616 by omega)]
  have e1 : (B + C / 4294967296) % 18446744073709551616 = B + C / 4294967296 := Nat.mod_eq_of_lt (by omega)
  rw [e1]
  have e2 : (D + (B + C / 4294967296) % 4294967296) % 18446744073709551616 = D + (B + C / 4294967296) % 4294967296 := Nat.mod_eq_of_lt (by omega)
  rw [e2]
  omega
theorem hi_shl (x y : BitVec 64) : x >>> 32 * y >>> 32 + (x >>> 32 * (y &&& 4294967295#64) + ((x &&& 4294967295#64) * (y &&& 4294967295#64)) >>> 32) >>> 32 +
    ((x >>> 32 * (y &&& 4294967295#64) + ((x &&& 4294967295#64) * (y &&& 4294967295#64)) >>> 32 &&& 4294967295#64) + (x &&& 4294967295#64) * y >>> 32) >>> 32 = hi64 x y := by
  rw [← hi_div0]
  simp only [shr32_div, and32_mod]
theorem mul64_calls (x y : BitVec 64) (w : World) : Calls Try.prog 39 #[.int .u64 (Bv x), .int .u64 (Bv y)] w fun e w' =>
    e = .returned (.tuple #[.int .u64 (Bv (hi64 x y)), .int .u64 (Bv (x * y))]) ∧ w = w' := by
  have h0 := Bv_nonneg x
  have H := Lib.hid (hi_shl x y)
  go_enter Try.func39, Try.ntmps39
  go_wp2_with fail
  go_ret2
  exact ⟨congrArg (fun z => Ending.returned (.tuple #[.int .u64 (Bv z), .int .u64 (Bv (x * y))])) H.out, rfl⟩
theorem hi_div (x y : BitVec 64) : x / 4294967296#64 * (y / 4294967296#64) + (x / 4294967296#64 * (y % 4294967296#64) + x % 4294967296#64 * (y % 4294967296#64) / 4294967296#64) / 4294967296#64 +
    (x % 4294967296#64 * (y / 4294967296#64) + (x / 4294967296#64 * (y % 4294967296#64) + x % 4294967296#64 * (y % 4294967296#64) / 4294967296#64) % 4294967296#64) / 4294967296#64 = hi64 x y := by
  rw [← hi_div0, BitVec.add_comm (x % 4294967296#64 * (y / 4294967296#64))]
theorem split_nat (a1 a0 b1 b0 : Nat) : (a1 * 4294967296 + a0) * (b1 * 4294967296 + b0) = a1 * b1 * 18446744073709551616 + (a1 * b0 + a0 * b1) * 4294967296 + a0 * b0 := by
  grind
theorem low_bd (p q : Nat) (hp : p ≤ 4294967295) (hq : q ≤ 4294967295) : p * q ≤ 18446744065119617025 := Nat.mul_le_mul hp hq
theorem lo_div_nat (a b : Nat) (ha : a < 18446744073709551616) (hb : b < 18446744073709551616) :
    (((((a % 4294967296 * (b / 4294967296)) % 18446744073709551616 + (((a / 4294967296 * (b % 4294967296)) % 18446744073709551616 + (a % 4294967296 * (b % 4294967296)) % 18446744073709551616 / 4294967296) % 18446744073709551616) % 4294967296) % 18446744073709551616) % 4294967296 * 4294967296) % 18446744073709551616 +
      (a % 4294967296 * (b % 4294967296)) % 18446744073709551616 % 4294967296) % 18446744073709551616 = a * b % 18446744073709551616 := by
  have ea : a = a / 4294967296 * 4294967296 + a % 4294967296 := by omega
  have eb : b = b / 4294967296 * 4294967296 + b % 4294967296 := by omega
  have e := split_nat (a / 4294967296) (a % 4294967296) (b / 4294967296) (b % 4294967296)
  rw [← ea, ← eb] at e
  rw [e]
  exact lo_nat _ _ _ _ (low_bd _ _ (by omega) (by omega)) (low_bd _ _ (by omega) (by omega)) (low_bd _ _ (by omega) (by omega))
theorem lo_div (x y : BitVec 64) : (x % 4294967296#64 * (y / 4294967296#64) + (x / 4294967296#64 * (y % 4294967296#64) + x % 4294967296#64 * (y % 4294967296#64) / 4294967296#64) % 4294967296#64) % 4294967296#64 * 4294967296#64 +
    x % 4294967296#64 * (y % 4294967296#64) % 4294967296#64 = x * y := by
  apply BitVec.eq_of_toNat_eq
  simp only [tn_add, tn_mul, tn_div, tn_mod]
  exact lo_div_nat _ _ x.isLt y.isLt
theorem ret_two {n m : Nat} {k l : IntKind} {x x' : BitVec n} {y y' : BitVec m} (h : x = x') (g : y = y') :
    Ending.returned (.tuple #[.int k (Bv x), .int l (Bv y)]) = Ending.returned (.tuple #[.int k (Bv x'), .int l (Bv y')]) := by rw [h, g]
theorem product_calls (x y : BitVec 64) (w : World) : Calls Try.prog 50 #[.int .u64 (Bv x), .int .u64 (Bv y)] w fun e w' =>
    e = .returned (.tuple #[.int .u64 (Bv (hi64 x y)), .int .u64 (Bv (x * y))]) ∧ w = w' := by
  have h0 := Bv_nonneg x
  have h1 := Bv_nonneg y
  have H := Lib.hid (hi_div x y)
  have L := Lib.hid (lo_div x y)
  go_enter Try.func50, Try.ntmps50
  go_wp2_with fail
  go_ret2
  exact ⟨ret_two H.out L.out, rfl⟩
theorem rest_eq (n : BitVec 64) (hn : n ≠ 0#64) : (18446744073709551615#64 % n + 1#64) % n = -n % n := by
  apply BitVec.eq_of_toNat_eq
  have hx := n.isLt
  have h0 : n.toNat ≠ 0 := fun h => hn (BitVec.eq_of_toNat_eq (by simpa using h))
  simp only [BitVec.toNat_add, BitVec.toNat_umod, BitVec.toNat_ofNat, BitVec.toNat_neg]
  simp only [Nat.reducePow, Nat.reduceMod]
  generalize n.toNat = a at *
  have hlt := Nat.mod_lt 18446744073709551615 (show 0 < a by omega)
  rw [Nat.mod_eq_of_lt (show 18446744073709551615 % a + 1 < 18446744073709551616 by omega), Nat.mod_eq_of_lt (show 18446744073709551616 - a < 18446744073709551616 by omega)]
  rw [Nat.mod_add_mod, show 18446744073709551615 + 1 = (18446744073709551616 - a) + a by omega, Nat.add_mod_right]
theorem rest_calls (n : BitVec 64) (hn : n ≠ 0#64) (w : World) : Calls Try.prog 49 #[.int .u64 (Bv n)] w fun e w' =>
    e = .returned (.int .u64 (Bv (-n % n))) ∧ w = w' := by
  have h0 := Bv_nonneg n
  have H := Lib.hid (rest_eq n hn)
  go_enter Try.func49, Try.ntmps49
  go_wp2_with fail
  go_ret
  exact ⟨congrArg (fun z => Ending.returned (.int .u64 (Bv z))) H.out, rfl⟩
theorem round_calls (a n : Int) (ha : -9223372036854775808 ≤ a) (ha' : a ≤ 9223372036854775807) (hn : 1 ≤ n) (hn' : n ≤ 9223372036854775807) (w : World) : Calls Try.prog 24 #[.int .i64 a, .int .i64 n] w fun e w' =>
    e = .returned (.int .i64 (a % n)) ∧ w = w' := by
  have hz : ¬ n = 0 := by omega
  have hb1 : -n < a.tmod n := Int.lt_tmod_of_pos a (by omega)
  have hb2 : a.tmod n < n := Int.tmod_lt_of_pos a (by omega)
  by_cases h0 : 0 ≤ a
  · have hb3 : 0 ≤ a % n := Int.emod_nonneg a (by omega)
    go_enter Try.func24, Try.ntmps24
    go_wp2_with fail
    go_ret
    exact ⟨rfl, rfl⟩
  · have he := Int.emod_eq_tmod (a := a) (b := n)
    have hb3 : a.tmod n ≤ 0 := by
      have e := Int.neg_tmod (a := a) (b := n)
      have := Int.tmod_nonneg (a := -a) n (by omega)
      omega
    by_cases h1 : a.tmod n < 0
    · have hd : ¬ n ∣ a := fun h => by have := Int.tmod_eq_zero_of_dvd h; omega
      have hr : a % n = a.tmod n + n := by rw [he, if_neg (by simp [hd, h0])]; omega
      rw [hr]
      clear he hr hd
      go_enter Try.func24, Try.ntmps24
      go_wp2_with fail
      go_ret
      exact ⟨rfl, rfl⟩
    · have h2 : a.tmod n = 0 := by omega
      have hr : a % n = a.tmod n := by
        rw [he, if_pos (Or.inr (Int.dvd_of_tmod_eq_zero h2))]; omega
      rw [hr]
      clear he hr h2
      go_enter Try.func24, Try.ntmps24
      go_wp2_with fail
      go_ret
      exact ⟨rfl, rfl⟩
attribute [irreducible] hi64
end Go.Proofs.Ytaneknfhilfalaa
