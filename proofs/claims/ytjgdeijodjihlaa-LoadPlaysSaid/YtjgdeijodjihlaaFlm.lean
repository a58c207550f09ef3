/- Rounding is monotone: a number that is not above a word's is rounded to no greater word; words stand as their numbers do. No program in sight. -/
import Derived.Test.YtjgdeijodjihlaaFlp
namespace Go.Proofs.Ytjgdeijodjihlaa
open Ieee
set_option linter.unusedVariables false

/-- m times 2 ^ p is not above n times 2 ^ q -/
def lq (m : Nat) (p : Int) (n : Nat) (q : Int) : Prop := m * 2 ^ (p - min p q).toNat ≤ n * 2 ^ (q - min p q).toNat
theorem lq_at {m n : Nat} {p q b : Int} (h : lq m p n q) (h1 : b ≤ p) (h2 : b ≤ q) : m * 2 ^ (p - b).toNat ≤ n * 2 ^ (q - b).toNat := by
  have e1 : (p - b).toNat = (p - min p q).toNat + (min p q - b).toNat := by omega
  have e2 : (q - b).toNat = (q - min p q).toNat + (min p q - b).toNat := by omega
  rw [e1, e2, Nat.pow_add, Nat.pow_add, ← Nat.mul_assoc, ← Nat.mul_assoc]
  exact Nat.mul_le_mul_right _ h
theorem lq_of {m n : Nat} {p q b : Int} (h1 : b ≤ p) (h2 : b ≤ q) (h : m * 2 ^ (p - b).toNat ≤ n * 2 ^ (q - b).toNat) : lq m p n q := by
  have e1 : (p - b).toNat = (p - min p q).toNat + (min p q - b).toNat := by omega
  have e2 : (q - b).toNat = (q - min p q).toNat + (min p q - b).toNat := by omega
  rw [e1, e2, Nat.pow_add, Nat.pow_add, ← Nat.mul_assoc, ← Nat.mul_assoc] at h
  exact Nat.le_of_mul_le_mul_right h (Nat.pow_pos (by omega))
theorem lq_trans {a b c : Nat} {p q r : Int} (h : lq a p b q) (k : lq b q c r) : lq a p c r := by
  obtain ⟨x, hx⟩ : ∃ x : Int, x = min p (min q r) := ⟨_, rfl⟩
  exact lq_of (b := x) (by omega) (by omega) (Nat.le_trans (lq_at h (b := x) (by omega) (by omega)) (lq_at k (b := x) (by omega) (by omega)))
theorem lq_refl (a : Nat) (p : Int) : lq a p a p := Nat.le_refl _
theorem lq_log {m n L N : Nat} {p q : Int} (h : lq m p n q) (h1 : 2 ^ L ≤ m) (h2 : n < 2 ^ N) : (L : Int) + p < N + q := by
  have h3 : 2 ^ L * 2 ^ (p - min p q).toNat < 2 ^ N * 2 ^ (q - min p q).toNat :=
    Nat.lt_of_le_of_lt (Nat.le_trans (Nat.mul_le_mul_right _ h1) h) ((Nat.mul_lt_mul_right (Nat.pow_pos (by omega))).2 h2)
  rw [← Nat.pow_add, ← Nat.pow_add] at h3
  have := (Nat.pow_lt_pow_iff_right (by omega : 1 < 2)).1 h3
  omega
theorem cut_le (n d B : Nat) (h : n ≤ B * 2 ^ d) : Toward.even.cut false n d ≤ B := by
  unfold Toward.cut
  simp only [Nat.one_shiftLeft]
  rcases Nat.lt_or_ge (n.log2 + 2) d with h1 | h1
  · rw [Nat.min_eq_right (by omega)]
    have h2 : n < 2 ^ (n.log2 + 1) := Nat.lt_log2_self
    have h3 : 2 ^ (n.log2 + 2) = 2 * 2 ^ (n.log2 + 1) := by rw [Nat.pow_succ]; omega
    generalize 2 ^ (n.log2 + 2) = G at *
    generalize 2 ^ (n.log2 + 1) = H at *
    rw [Nat.div_eq_of_lt (by omega), Nat.mod_eq_of_lt (by omega)]
    have e1 : decide (G < 2 * n) = false := decide_eq_false (by omega)
    have e2 : (G == 2 * n) = false := by simp; omega
    simp [e1, e2]
  · rw [Nat.min_eq_left h1]
    have hp : 0 < 2 ^ d := Nat.pow_pos (by omega)
    generalize 2 ^ d = G at *
    have hd := Nat.div_add_mod n G
    have hm := Nat.mod_lt n hp
    have hle : n / G ≤ B := (Nat.div_le_iff_le_mul_add_pred hp).2 (by rw [Nat.mul_comm]; omega)
    rcases Nat.lt_or_ge (n / G) B with h2 | h2
    · have : ∀ b : Bool, b.toNat ≤ 1 := fun b => by cases b <;> simp
      have := this (decide (G < 2 * (n % G)) || (G == 2 * (n % G) && n / G % 2 == 1))
      omega
    · have e : n / G = B := by omega
      have h0 : n % G = 0 := by rw [e, Nat.mul_comm] at hd; omega
      rw [h0, e]
      have e2 : (G == 2 * 0) = false := by simp; omega
      simp [e2]
theorem read_word {z : Nat} (hz : z < 9218868437227405312) : ∃ n q, D64.read z = .number false n q ∧
    ((z < 4503599627370496 ∧ n = z ∧ q = -1074) ∨ ∃ e r, 1 ≤ e ∧ r < 4503599627370496 ∧ z = e * 4503599627370496 + r ∧ n = 4503599627370496 + r ∧ q = (e : Int) - 1075) := by
  unfold Format.read
  rw [d_sw, d_bin, d_inf, d_least]
  have h1 : z % 9223372036854775808 = z := Nat.mod_eq_of_lt (by omega)
  have h2 : (z / 9223372036854775808 % 2 == 1) = false := by rw [Nat.div_eq_of_lt (by omega)]; rfl
  simp only [h1, h2]
  by_cases h3 : z < 4503599627370496
  · rw [if_pos h3]
    exact ⟨_, _, rfl, Or.inl ⟨h3, rfl, rfl⟩⟩
  · rw [if_neg h3, if_pos hz]
    refine ⟨_, _, rfl, Or.inr ⟨z / 4503599627370496, z % 4503599627370496, by omega, by omega, by omega, rfl, by omega⟩⟩
/-- a number that is not above a word's -/
theorem nearest_le {m : Nat} {p : Int} {z n : Nat} {q : Int} (hz : z < 9218868437227405312) (hr : D64.read z = .number false n q) (h : lq m p n q) : D64.nearest false m p ≤ z := by
  by_cases hm : m = 0
  · subst hm; rw [near_zero]; omega
  · obtain ⟨L, hL⟩ : ∃ L, m.log2 = L := ⟨_, rfl⟩
    have hb := log2_bd (m := m) (by omega)
    rw [hL] at hb
    obtain ⟨n', q', hr', hcase⟩ := read_word hz
    rw [hr] at hr'
    injection hr' with _ h1 h2
    subst h1 h2
    have hform : ∀ last : Int, last = max (p + (m.log2 : Int) - 52) (-1074) → D64.nearest false m p = min ((last - -1074).toNat * 4503599627370496 + Toward.even.cut false (m <<< (p - last).toNat) (last - p).toNat) 9218868437227405312 := fun last hl => by
      unfold Format.nearest Format.word
      rw [if_neg hm, d_frac, d_least, d_bin, d_inf]
      simp only [Bool.false_eq_true, if_false]
      subst hl
      rfl
    obtain ⟨last, hlast⟩ : ∃ x : Int, x = max (p + (m.log2 : Int) - 52) (-1074) := ⟨_, rfl⟩
    rw [hform last hlast, hL] at *
    have same : q = last → Toward.even.cut false (m <<< (p - last).toNat) (last - p).toNat ≤ n := fun e => by
      refine cut_le _ _ _ ?_
      rw [Nat.shiftLeft_eq]
      have := lq_at h (b := min p last) (by omega) (by omega)
      rw [show (p - min p last).toNat = (p - last).toNat by omega, show (q - min p last).toNat = (last - p).toNat by omega] at this
      exact this
    have full : Toward.even.cut false (m <<< (p - last).toNat) (last - p).toNat ≤ 9007199254740992 := by
      refine cut_le _ _ _ ?_
      rw [Nat.shiftLeft_eq]
      have h3 : m * 2 ^ (p - last).toNat ≤ 2 ^ (L + 1) * 2 ^ (p - last).toNat := Nat.mul_le_mul_right _ (by omega)
      refine Nat.le_trans h3 ?_
      rw [show (9007199254740992 : Nat) = 2 ^ 53 by decide, ← Nat.pow_add, ← Nat.pow_add]
      exact Nat.pow_le_pow_right (by omega) (by omega)
    generalize Toward.even.cut false (m <<< (p - last).toNat) (last - p).toNat = kept at *
    have hlog : ∀ N : Nat, n < 2 ^ N → (L : Int) + p < N + q := fun N hN => lq_log h hb.1 hN
    refine Nat.le_trans (Nat.min_le_left _ _) ?_
    rcases hcase with ⟨h3, h4, h5⟩ | ⟨e, r, h3, h4, h5, h6, h7⟩
    · have := hlog 52 (by omega)
      have hl : last = -1074 := by omega
      have := same (by omega)
      rw [hl]
      simp
      omega
    · have h8 := hlog 53 (by omega)
      have hE : last ≤ (e : Int) - 1075 := by omega
      rcases Int.lt_or_eq_of_le hE with h9 | h9
      · have : (last - -1074).toNat + 2 ≤ e := by omega
        generalize (last - -1074).toNat = E at *
        have : (E + 2) * 4503599627370496 ≤ e * 4503599627370496 := Nat.mul_le_mul_right _ this
        omega
      · have := same (by omega)
        rw [show (last - -1074).toNat = e - 1 by omega]
        have : (e - 1) * 4503599627370496 + 4503599627370496 = e * 4503599627370496 := by
          obtain ⟨d, rfl⟩ : ∃ d, e = d + 1 := ⟨e - 1, by omega⟩
          rw [Nat.add_sub_cancel, Nat.succ_mul]
        omega
/-- words stand as their numbers do -/
theorem read_mono {x z n k : Nat} {q p : Int} (hx : x ≤ z) (hz : z < 9218868437227405312) (hr : D64.read z = .number false n q) (hr2 : D64.read x = .number false k p) : lq k p n q := by
  obtain ⟨n', q', hr', c1⟩ := read_word hz
  rw [hr] at hr'
  injection hr' with _ h1 h2
  subst h1 h2
  obtain ⟨k', p', hr2', c2⟩ := read_word (z := x) (by omega)
  rw [hr2] at hr2'
  injection hr2' with _ h1 h2
  subst h1 h2
  rcases c1 with ⟨a1, a2, a3⟩ | ⟨e, r, a1, a2, a3, a4, a5⟩
  · rcases c2 with ⟨b1, b2, b3⟩ | ⟨e', r', b1, b2, b3, b4, b5⟩
    · refine lq_of (b := -1074) (by omega) (by omega) ?_
      rw [a3, b3]; simp; omega
    · have : 1 * 4503599627370496 ≤ e' * 4503599627370496 := Nat.mul_le_mul_right _ b1
      omega
  · rcases c2 with ⟨b1, b2, b3⟩ | ⟨e', r', b1, b2, b3, b4, b5⟩
    · refine lq_of (b := -1074) (by omega) (by omega) ?_
      rw [b3, Int.sub_self, Int.toNat_zero, Nat.pow_zero, Nat.mul_one]
      refine Nat.le_trans (m := n) (by omega) ?_
      exact Nat.le_mul_of_pos_right _ (Nat.pow_pos (by omega))
    · have hee : e' ≤ e := by
        rcases Nat.lt_or_ge e e' with h | h
        · have : (e + 1) * 4503599627370496 ≤ e' * 4503599627370496 := Nat.mul_le_mul_right _ h
          omega
        · exact h
      rcases Nat.lt_or_eq_of_le hee with h | h
      · refine lq_of (b := p) (Int.le_refl _) (by omega) ?_
        rw [Int.sub_self, Int.toNat_zero, Nat.pow_zero, Nat.mul_one]
        have h2 : 2 ^ 1 ≤ 2 ^ (q - p).toNat := Nat.pow_le_pow_right (by omega) (by omega)
        have h3 : n * 2 ≤ n * 2 ^ (q - p).toNat := Nat.mul_le_mul_left _ h2
        omega
      · subst h
        refine lq_of (b := p) (Int.le_refl _) (by omega) ?_
        rw [show q = p by omega]
        exact Nat.mul_le_mul_right _ (by omega)
end Go.Proofs.Ytjgdeijodjihlaa
