/- Plain laws of layer 7: division by hand, bit by bit. -/
import Derived.Test.YtaneknfhilfalaaD7c
namespace Go.Proofs.Ytaneknfhilfalaa
set_option linter.unusedVariables false

/-- behind the bits from j on: what is left, and the quotient -/
def CInv (h l n j : Nat) (L Q : BitVec 64) : Prop := L.toNat < n ∧ Q.toNat * n + L.toNat * 2 ^ j + l % 2 ^ j = h * 2 ^ 64 + l
theorem bit_toNat (l : BitVec 64) (j : Nat) : (l >>> j &&& 1#64).toNat = l.toNat / 2 ^ j % 2 := by
  rw [BitVec.toNat_and, BitVec.toNat_ushiftRight, Nat.shiftRight_eq_div_pow]
  exact Nat.and_two_pow_sub_one_eq_mod _ 1
theorem cNext_toNat (l L : BitVec 64) (j : Nat) : (2#64 * L + (l >>> j &&& 1#64)).toNat = (2 * L.toNat + l.toNat / 2 ^ j % 2) % 2 ^ 64 := by
  rw [BitVec.toNat_add, BitVec.toNat_mul, bit_toNat]
  show (2 * L.toNat % 2 ^ 64 + _) % 2 ^ 64 = _
  rw [Nat.mod_add_mod]
theorem cstep_arith (Q n L P bit r T : Nat) (h : Q * n + L * (P * 2) + (r + P * bit) = T) : Q * n + (2 * L + bit) * P + r = T := by
  rw [← h]; grind
theorem cbig_arith (Q n d P r T : Nat) (h : Q * n + (n + d) * P + r = T) : (Q + P) * n + d * P + r = T := by
  rw [← h]; grind
theorem cinv_big {h l n L Q : BitVec 64} {j : Nat} (hj : j < 64) (hn : h.toNat < n.toNat) (hi : CInv h.toNat l.toNat n.toNat (j + 1) L Q)
    (hb : 2 ^ 63 ≤ L.toNat ∨ n.toNat ≤ (2#64 * L + (l >>> j &&& 1#64)).toNat) :
    CInv h.toNat l.toNat n.toNat j (2#64 * L + (l >>> j &&& 1#64) - n) (Q + 1#64 <<< j) := by
  obtain ⟨h1, h2⟩ := hi
  rw [Nat.mod_pow_succ, Nat.pow_succ] at h2
  have e := cstep_arith _ _ _ _ (l.toNat / 2 ^ j % 2) (l.toNat % 2 ^ j) _ h2
  have hbit : l.toNat / 2 ^ j % 2 < 2 := Nat.mod_lt _ (by decide)
  rw [cNext_toNat] at hb
  have hl := l.isLt
  have hL := L.isLt
  have hN := n.isLt
  generalize hbb : l.toNat / 2 ^ j % 2 = bit at *
  have ht : n.toNat ≤ 2 * L.toNat + bit := by
    rcases hb with hb | hb
    · omega
    · have := Nat.mod_le (2 * L.toNat + bit) (2 ^ 64); omega
  obtain ⟨d, hd⟩ : ∃ d, 2 * L.toNat + bit = n.toNat + d := ⟨2 * L.toNat + bit - n.toNat, by omega⟩
  rw [hd] at e
  have e' := cbig_arith _ _ _ _ _ _ e
  have hT : h.toNat * 2 ^ 64 + l.toNat < n.toNat * 2 ^ 64 := by
    have : (h.toNat + 1) * 2 ^ 64 ≤ n.toNat * 2 ^ 64 := Nat.mul_le_mul_right _ hn
    omega
  have hQ : Q.toNat + 2 ^ j < 2 ^ 64 := by
    have : (Q.toNat + 2 ^ j) * n.toNat < 2 ^ 64 * n.toNat := by rw [Nat.mul_comm (2 ^ 64)]; omega
    exact Nat.lt_of_mul_lt_mul_right this
  have hq : (Q + 1#64 <<< j).toNat = Q.toNat + 2 ^ j := by
    rw [BitVec.toNat_add, BitVec.toNat_shiftLeft, Nat.shiftLeft_eq, BitVec.toNat_ofNat]
    have hp : 2 ^ j < 2 ^ 64 := Nat.pow_lt_pow_right (by decide) hj
    rw [Nat.mod_eq_of_lt (show 1 < 2 ^ 64 by decide), Nat.one_mul, Nat.mod_eq_of_lt hp, Nat.mod_eq_of_lt hQ]
  have hr : (2#64 * L + (l >>> j &&& 1#64) - n).toNat = d := by
    rw [BitVec.toNat_sub, cNext_toNat, hbb, hd]
    omega
  exact ⟨by rw [hr]; omega, by rw [hq, hr]; exact e'⟩
theorem cinv_small {h l n L Q : BitVec 64} {j : Nat} (hi : CInv h.toNat l.toNat n.toNat (j + 1) L Q)
    (hb1 : ¬ 2 ^ 63 ≤ L.toNat) (hb2 : ¬ n.toNat ≤ (2#64 * L + (l >>> j &&& 1#64)).toNat) :
    CInv h.toNat l.toNat n.toNat j (2#64 * L + (l >>> j &&& 1#64)) Q := by
  obtain ⟨h1, h2⟩ := hi
  rw [Nat.mod_pow_succ, Nat.pow_succ] at h2
  have e := cstep_arith _ _ _ _ (l.toNat / 2 ^ j % 2) (l.toNat % 2 ^ j) _ h2
  have hbit : l.toNat / 2 ^ j % 2 < 2 := Nat.mod_lt _ (by decide)
  refine ⟨by omega, ?_⟩
  rw [cNext_toNat, Nat.mod_eq_of_lt (by omega)]
  exact e
/-- the quotient, rounded up -/
def ceilN (h l n : BitVec 64) : Nat := (h.toNat * 2 ^ 64 + l.toNat + (n.toNat - 1)) / n.toNat
theorem ceil_none {h l n L Q : BitVec 64} (hi : CInv h.toNat l.toNat n.toNat 0 L Q) (hL : L = 0#64) : ceilN h l n = Q.toNat := by
  obtain ⟨h1, h2⟩ := hi
  subst hL
  simp only [BitVec.toNat_ofNat, Nat.zero_mod, Nat.zero_mul, Nat.add_zero, Nat.pow_zero, Nat.mod_one] at h2 h1
  unfold ceilN
  rw [← h2, Nat.mul_comm, Nat.mul_add_div h1, Nat.div_eq_of_lt (by omega), Nat.add_zero]
theorem ceil_more {h l n L Q : BitVec 64} (hi : CInv h.toNat l.toNat n.toNat 0 L Q) (hL : L ≠ 0#64) : ceilN h l n = Q.toNat + 1 := by
  obtain ⟨h1, h2⟩ := hi
  have h0 : L.toNat ≠ 0 := fun h => hL (BitVec.eq_of_toNat_eq (by simpa using h))
  simp only [Nat.pow_zero, Nat.mod_one, Nat.mul_one, Nat.add_zero] at h2
  unfold ceilN
  have e : h.toNat * 2 ^ 64 + l.toNat + (n.toNat - 1) = n.toNat * (Q.toNat + 1) + (L.toNat - 1) := by
    rw [← h2, Nat.mul_add, Nat.mul_comm n.toNat, Nat.mul_one]; omega
  rw [e, Nat.mul_add_div (by omega), Nat.div_eq_of_lt (by omega), Nat.add_zero]
end Go.Proofs.Ytaneknfhilfalaa
