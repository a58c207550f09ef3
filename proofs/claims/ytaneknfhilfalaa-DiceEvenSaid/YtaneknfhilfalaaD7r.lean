/- Plain laws of layer 7: the values for which a Roll answers a number at once stand side by side, and are as many for each number. -/
import Derived.Test.YtaneknfhilfalaaD7e
namespace Go.Proofs.Ytaneknfhilfalaa
set_option linter.unusedVariables false

/-- where the values of number k begin, and where they end -/
def c1N (K R N : Nat) : Nat := (K * 2 ^ 64 + R + (N - 1)) / N
def c2N (K N : Nat) : Nat := ((K + 1) * 2 ^ 64 + (N - 1)) / N
theorem le_ceil {A N V : Nat} (hN : 1 ≤ N) : (A + (N - 1)) / N ≤ V ↔ A ≤ V * N := by
  have h := Nat.div_lt_iff_lt_mul (x := A + (N - 1)) (y := V + 1) (show 0 < N by omega)
  rw [Nat.add_mul, Nat.one_mul] at h
  omega
theorem ceil_lt {A N V : Nat} (hN : 1 ≤ N) : V < (A + (N - 1)) / N ↔ V * N < A := by
  have := le_ceil (A := A) (V := V) hN; omega
theorem rest_nat (n : BitVec 64) (h : 1 ≤ n.toNat) : (-n % n).toNat = 2 ^ 64 % n.toNat := by
  have hn := n.isLt
  rw [BitVec.toNat_umod, BitVec.toNat_neg, Nat.mod_eq_of_lt (a := 2 ^ 64 - n.toNat) (by omega)]
  conv => rhs; rw [show 2 ^ 64 = (2 ^ 64 - n.toNat) + n.toNat by omega, Nat.add_mod_right]
theorem c2_c1 {K N : Nat} (hN : 1 ≤ N) : c2N K N = c1N K (2 ^ 64 % N) N + 2 ^ 64 / N := by
  unfold c2N c1N
  have e := Nat.div_add_mod (2 ^ 64) N
  generalize 2 ^ 64 / N = q at *
  generalize hR : 2 ^ 64 % N = R at *
  generalize (2 : Nat) ^ 64 = M at *
  rw [← Nat.add_mul_div_right _ _ (show 0 < N by omega)]
  congr 1
  rw [← e, Nat.add_mul, Nat.one_mul, Nat.mul_comm q N]
  omega
theorem c2_le {K N : Nat} (hK : K < N) : c2N K N ≤ 2 ^ 64 := by
  unfold c2N
  rw [le_ceil (by omega)]
  rw [Nat.mul_comm (2 ^ 64)]
  exact Nat.mul_le_mul_right _ (by omega)
theorem c2_lt {K N : Nat} (hK : K + 1 < N) (hN : N ≤ 2 ^ 63) : c2N K N < 2 ^ 64 := by
  have : c2N K N ≤ 2 ^ 64 - 1 := by
    unfold c2N
    rw [le_ceil (by omega)]
    have h1 : (K + 1) * 2 ^ 64 ≤ (N - 1) * 2 ^ 64 := Nat.mul_le_mul_right _ (by omega)
    have h2 : (N - 1) * 2 ^ 64 + 2 ^ 64 = N * 2 ^ 64 := by rw [← Nat.succ_mul]; congr 1; omega
    have h3 : (2 ^ 64 - 1) * N = N * 2 ^ 64 - N := by rw [Nat.mul_comm, Nat.mul_sub_one]
    omega
  omega
theorem c2_eq {K N : Nat} (hK : K + 1 = N) : c2N K N = 2 ^ 64 := by
  unfold c2N
  rw [hK, Nat.mul_add_div (by omega), Nat.div_eq_of_lt (by omega), Nat.add_zero]
theorem q_pos {N : Nat} (h1 : 1 ≤ N) (h2 : N ≤ 2 ^ 63) : 1 ≤ 2 ^ 64 / N := by
  rw [Nat.le_div_iff_mul_le (by omega)]; omega
/-- a value in between answers k, at once -/
theorem once_in {k n v : BitVec 64} (hk : k.toNat < n.toNat) (h1 : c1N k.toNat (2 ^ 64 % n.toNat) n.toNat ≤ v.toNat) (h2 : v.toNat < c2N k.toNat n.toNat) :
    onceV v n = k ∧ onceB v n = true := by
  unfold c1N at h1
  unfold c2N at h2
  rw [le_ceil (by omega)] at h1
  rw [ceil_lt (by omega)] at h2
  have hR : 2 ^ 64 % n.toNat < n.toNat := Nat.mod_lt _ (by omega)
  have hkn := k.isLt
  have hn := n.isLt
  obtain ⟨low, hl⟩ : ∃ low, v.toNat * n.toNat = k.toNat * 2 ^ 64 + low := ⟨v.toNat * n.toNat - k.toNat * 2 ^ 64, by omega⟩
  have hl2 : low < 2 ^ 64 := by rw [Nat.add_mul, Nat.one_mul] at h2; omega
  have hlow : ¬ v * n < -n % n := by
    rw [BitVec.lt_def, rest_nat n (by omega), BitVec.toNat_mul, hl, Nat.mul_comm, Nat.mul_add_mod, Nat.mod_eq_of_lt hl2]
    omega
  refine ⟨?_, onceB_yes v n hlow⟩
  rw [onceV_yes v n hlow]
  unfold hi64
  rw [hl]
  apply BitVec.eq_of_toNat_eq
  rw [BitVec.toNat_ofNat, show (18446744073709551616 : Nat) = 2 ^ 64 from rfl, Nat.mul_comm, Nat.mul_add_div (by decide), Nat.div_eq_of_lt hl2, Nat.add_zero, Nat.mod_eq_of_lt hkn]
/-- a value outside does not -/
theorem once_out {k n v : BitVec 64} (hk : k.toNat < n.toNat) (h : v.toNat < c1N k.toNat (2 ^ 64 % n.toNat) n.toNat ∨ c2N k.toNat n.toNat ≤ v.toNat) (hb : onceB v n = true) : onceV v n ≠ k := by
  have hlow : ¬ v * n < -n % n := fun hl => by rw [onceB_no v n hl] at hb; cases hb
  rw [onceV_yes v n hlow]
  have hn := n.isLt
  have hv := v.isLt
  rw [BitVec.lt_def, rest_nat n (by omega), BitVec.toNat_mul] at hlow
  intro he
  have he' := congrArg BitVec.toNat he
  unfold hi64 at he'
  have hlt : v.toNat * n.toNat / 18446744073709551616 < 2 ^ 64 := by
    apply Nat.div_lt_of_lt_mul
    exact Nat.mul_lt_mul'' hv hn
  rw [BitVec.toNat_ofNat, Nat.mod_eq_of_lt hlt, show (18446744073709551616 : Nat) = 2 ^ 64 from rfl] at he'
  have e := Nat.div_add_mod (v.toNat * n.toNat) (2 ^ 64)
  rw [he', Nat.mul_comm (2 ^ 64)] at e
  rcases h with h | h
  · unfold c1N at h
    rw [ceil_lt (by omega)] at h
    omega
  · unfold c2N at h
    rw [le_ceil (by omega), Nat.add_mul, Nat.one_mul] at h
    have := Nat.mod_lt (v.toNat * n.toNat) (show 0 < 2 ^ 64 by decide)
    omega
/-- all that is asked of the values of number k -/
structure EvenFacts (n k F T : BitVec 64) : Prop where
  count1 : n = 1#64 → T - F = 0#64
  count : n ≠ 1#64 → T - F = -n / n + 1#64
  x : onceV F n = k ∧ onceB F n = true
  y : onceV (T - 1#64) n = k ∧ onceB (T - 1#64) n = true
  z : onceV (F + (T - 1#64 - F) / 2#64) n = k ∧ onceB (F + (T - 1#64 - F) / 2#64) n = true
  u : n ≠ 1#64 → onceB (F - 1#64) n = true → onceV (F - 1#64) n ≠ k
  v : n ≠ 1#64 → onceB T n = true → onceV T n ≠ k
theorem even_facts (n k : BitVec 64) (hk : k.toNat < n.toNat) (hn : n.toNat ≤ 2 ^ 63) :
    EvenFacts n k (BitVec.ofNat 64 (c1N k.toNat (2 ^ 64 % n.toNat) n.toNat)) (BitVec.ofNat 64 (c2N k.toNat n.toNat)) := by
  have h12 := c2_c1 (K := k.toNat) (N := n.toNat) (by omega)
  have h2 := c2_le hk
  have hq := q_pos (show 1 ≤ n.toNat by omega) hn
  have hin := fun (v : BitVec 64) a b => once_in (v := v) hk a b
  have hout := fun (v : BitVec 64) a b => once_out (v := v) hk a b
  have hK1 : ∀ h : n ≠ 1#64, 2 ≤ n.toNat := fun h => by
    have : n.toNat ≠ 1 := fun e => h (BitVec.eq_of_toNat_eq (by simpa using e))
    omega
  have hlast : c2N k.toNat n.toNat = 2 ^ 64 → k.toNat + 1 = n.toNat := fun e => by
    rcases Nat.lt_or_ge (k.toNat + 1) n.toNat with h | h
    · have := c2_lt h hn; omega
    · omega
  have hq2 : ∀ h : n ≠ 1#64, 2 ^ 64 / n.toNat < 2 ^ 64 := fun h => Nat.div_lt_self (by decide) (hK1 h)
  have hfirst : c1N k.toNat (2 ^ 64 % n.toNat) n.toNat = 0 → k.toNat = 0 := fun e => by
    have h : c1N k.toNat (2 ^ 64 % n.toNat) n.toNat ≤ 0 := by omega
    unfold c1N at h
    rw [le_ceil (by omega)] at h
    omega
  have hqn : n ≠ 1#64 → (-n / n + 1#64).toNat = 2 ^ 64 / n.toNat := fun h => by
    have hlt := hq2 h
    rw [BitVec.toNat_add, BitVec.toNat_udiv, BitVec.toNat_neg, Nat.mod_eq_of_lt (a := 2 ^ 64 - n.toNat) (by omega)]
    have e : (2 ^ 64 - n.toNat) / n.toNat + 1 = 2 ^ 64 / n.toNat := by
      conv => rhs; rw [show 2 ^ 64 = (2 ^ 64 - n.toNat) + n.toNat by omega, Nat.add_div_right _ (by omega)]
    show (_ + 1 % 2 ^ 64) % 2 ^ 64 = _
    rw [Nat.mod_eq_of_lt (show 1 < 2 ^ 64 by decide), e, Nat.mod_eq_of_lt hlt]
  generalize c1N k.toNat (2 ^ 64 % n.toNat) n.toNat = a at *
  generalize c2N k.toNat n.toNat = b at *
  generalize hqq : 2 ^ 64 / n.toNat = q at *
  have hab : a < b := by omega
  have ha : (BitVec.ofNat 64 a).toNat = a := by rw [BitVec.toNat_ofNat, Nat.mod_eq_of_lt (by omega)]
  have hb : (BitVec.ofNat 64 b).toNat = b % 2 ^ 64 := by rw [BitVec.toNat_ofNat]
  have hb1 : (BitVec.ofNat 64 b - 1#64).toNat = b - 1 := by
    rw [BitVec.toNat_sub, hb]; show (2 ^ 64 - 1 + b % 2 ^ 64) % 2 ^ 64 = _; omega
  have hba : (BitVec.ofNat 64 b - 1#64 - BitVec.ofNat 64 a).toNat = b - 1 - a := by
    rw [BitVec.toNat_sub, hb1, ha]; omega
  have hd : (BitVec.ofNat 64 b - BitVec.ofNat 64 a).toNat = (b - a) % 2 ^ 64 := by
    rw [BitVec.toNat_sub, hb, ha]; omega
  refine ⟨?_, ?_, hin _ (by omega) (by omega), hin _ (by omega) (by omega), ?_, ?_, ?_⟩
  · intro h
    apply BitVec.eq_of_toNat_eq
    rw [hd, show b - a = q by omega, ← hqq, h]; rfl
  · intro h
    apply BitVec.eq_of_toNat_eq
    rw [hd, hqn h, show b - a = q by omega, Nat.mod_eq_of_lt (hq2 h)]
  · have e : (BitVec.ofNat 64 a + (BitVec.ofNat 64 b - 1#64 - BitVec.ofNat 64 a) / 2#64).toNat = a + (b - 1 - a) / 2 := by
      rw [BitVec.toNat_add, BitVec.toNat_udiv, hba, ha]
      show (a + (b - 1 - a) / 2) % 2 ^ 64 = _
      omega
    exact hin _ (by omega) (by omega)
  · intro h hB
    rcases Nat.eq_zero_or_pos a with h0 | h0
    · have hk0 := hfirst h0
      have hv : (BitVec.ofNat 64 a - 1#64).toNat = 2 ^ 64 - 1 := by
        rw [BitVec.toNat_sub, ha, h0]; rfl
      refine hout _ (Or.inr ?_) hB
      rw [hv]
      have : b ≠ 2 ^ 64 := fun e => by have := hlast e; have := hK1 h; omega
      omega
    · have hv : (BitVec.ofNat 64 a - 1#64).toNat = a - 1 := by
        rw [BitVec.toNat_sub, ha]; show (2 ^ 64 - 1 + a) % 2 ^ 64 = _; omega
      exact hout _ (Or.inl (by omega)) hB
  · intro h hB
    rcases Nat.lt_or_ge b (2 ^ 64) with h0 | h0
    · exact hout _ (Or.inr (by rw [hb]; omega)) hB
    · have hb0 : (BitVec.ofNat 64 b).toNat = 0 := by rw [hb]; omega
      have hK := hlast (by omega)
      have h2' := hK1 h
      refine hout _ (Or.inl ?_) hB
      rw [hb0]
      rcases Nat.eq_zero_or_pos a with h3 | h3
      · have := hfirst h3; omega
      · exact h3
end Go.Proofs.Ytaneknfhilfalaa
