/- Whole numbers up to 2^53 as floats: sums and comparisons are exact. No program in sight. -/
import Derived.Test.YtkpjnikmcojdlaaFly
import Derived.Test.YtkpjnikmcojdlaaFld
namespace Go.Proofs.Ytkpjnikmcojdlaa
open Ieee
set_option linter.unusedVariables false

def whl (m : Nat) : Nat := floatOfInt .f64 (m : Int)
theorem whl_zero : whl 0 = 0 := by kernel_rfl
theorem whl_top : whl 9007199254740992 = 4845873199050653696 := by kernel_rfl
theorem whl_read {m : Nat} (h : m ≤ 9007199254740992) : whl m < 9218868437227405312 ∧ ∃ n q, D64.read (whl m) = .number false n q ∧ lq n q m 0 ∧ lq m 0 n q := by
  by_cases h0 : m = 0
  · subst h0
    rw [whl_zero]
    refine ⟨by omega, 0, -1074, ?_, ?_, ?_⟩
    · rw [read_zero, d_least]
    · unfold lq; simp
    · unfold lq; simp
  · by_cases h1 : m = 9007199254740992
    · subst h1
      rw [whl_top]
      refine ⟨by omega, 2 ^ 52, 1, read_53, ?_, ?_⟩
      · refine lq_of (b := 0) (by omega) (by omega) ?_
        exact Nat.le_of_eq (by kernel_rfl)
      · refine lq_of (b := 0) (by omega) (by omega) ?_
        exact Nat.le_of_eq (by kernel_rfl)
    · have h53 : m < 9007199254740992 := by omega
      have hk := log2_le (m := m) (by omega) h53
      have e : whl m = enc m 0 := ofInt_enc (by omega) h53
      have hr := read_enc (m := m) (by omega) h53 0 (by omega) (by omega)
      have hf := full (m := m) (by omega) h53
      rw [e]
      refine ⟨?_, _, _, hr, ?_, ?_⟩
      · unfold enc
        have h2 : (0 + (m.log2 : Int) + 1022).toNat ≤ 1074 := by omega
        obtain ⟨A, hA⟩ : ∃ A, (0 + (m.log2 : Int) + 1022).toNat = A := ⟨_, rfl⟩
        obtain ⟨B, hB⟩ : ∃ B, m * 2 ^ (52 - m.log2) = B := ⟨_, rfl⟩
        rw [hA] at h2 ⊢
        rw [hB] at hf ⊢
        clear hr e hA hB
        omega
      · refine lq_of (b := 0 + (m.log2 : Int) - 52) (by omega) (by omega) ?_
        rw [Int.sub_self, Int.toNat_zero, Nat.pow_zero, Nat.mul_one, show (0 - (0 + (m.log2 : Int) - 52)).toNat = 52 - m.log2 by omega]
        exact Nat.le_refl _
      · refine lq_of (b := 0 + (m.log2 : Int) - 52) (by omega) (by omega) ?_
        rw [Int.sub_self, Int.toNat_zero, Nat.pow_zero, Nat.mul_one, show (0 - (0 + (m.log2 : Int) - 52)).toNat = 52 - m.log2 by omega]
        exact Nat.le_refl _
attribute [irreducible] whl
theorem whl_good {m : Nat} (h : m ≤ 9007199254740992) : good (whl m) := by
  have := (whl_read h).1
  unfold good inf64; omega
theorem whl_nearest {m : Nat} (h : m ≤ 9007199254740992) : D64.nearest false m 0 = whl m := by
  obtain ⟨hz, n, q, hr, h1, h2⟩ := whl_read h
  exact nearest_self hz hr h2 h1
theorem lq_whole {a b : Nat} : lq a 0 b 0 ↔ a ≤ b := by
  unfold lq; simp
theorem whl_add {a b : Nat} (h : a + b ≤ 9007199254740992) : floatBits .add .f64 (whl a) (whl b) = some (whl (a + b)) := by
  obtain ⟨_, n, p, r1, a1, a2⟩ := whl_read (m := a) (by omega)
  obtain ⟨_, k, q, r2, b1, b2⟩ := whl_read (m := b) (by omega)
  obtain ⟨hz, c, s, r3, c1, c2⟩ := whl_read h
  show D64.add _ _ = _
  unfold Format.add
  rw [r1, r2, sum_pos, Option.map_some, write_number]
  refine congrArg some ?_
  have key : ∀ d : Int, d ≤ min p q → d ≤ 0 → (n * 2 ^ (p - min p q).toNat + k * 2 ^ (q - min p q).toNat) * 2 ^ (min p q - d).toNat = n * 2 ^ (p - d).toNat + k * 2 ^ (q - d).toNat := fun d h1 h2 => by
    rw [Nat.add_mul, Nat.mul_assoc, Nat.mul_assoc, ← Nat.pow_add, ← Nat.pow_add,
      show (p - min p q).toNat + (min p q - d).toNat = (p - d).toNat by omega, show (q - min p q).toNat + (min p q - d).toNat = (q - d).toNat by omega]
  obtain ⟨d, hd⟩ : ∃ d : Int, d = min (min p q) 0 := ⟨_, rfl⟩
  have d1 : d ≤ min p q := by omega
  have d2 : d ≤ 0 := by omega
  refine nearest_self hz r3 (lq_trans (b := a + b) (q := 0) ?_ c2) (lq_trans (b := a + b) (q := 0) c1 ?_)
  · refine lq_of d1 d2 ?_
    rw [key d d1 d2, Nat.add_mul]
    exact Nat.add_le_add (lq_at a1 (by omega) d2) (lq_at b1 (by omega) d2)
  · refine lq_of d2 d1 ?_
    rw [key d d1 d2, Nat.add_mul]
    exact Nat.add_le_add (lq_at a2 d2 (by omega)) (lq_at b2 d2 (by omega))
theorem whl_mono {a b : Nat} (h : a ≤ b) (hb : b ≤ 9007199254740992) : whl a ≤ whl b := by
  obtain ⟨hz, n, q, hr, h1, h2⟩ := whl_read (m := a) (by omega)
  rw [← whl_nearest hb]
  exact nearest_ge hz hr (lq_trans h1 (lq_whole.2 h))
theorem whl_lt {a b : Nat} (ha : a ≤ 9007199254740992) (hb : b ≤ 9007199254740992) : whl a < whl b ↔ a < b := by
  constructor
  · intro h
    rcases Nat.lt_or_ge a b with h1 | h1
    · exact h1
    · have := whl_mono h1 ha; omega
  · intro h
    have hm := whl_mono (Nat.le_of_lt h) hb
    rcases Nat.lt_or_eq_of_le hm with h1 | h1
    · exact h1
    · obtain ⟨_, n, q, r1, a1, a2⟩ := whl_read ha
      obtain ⟨_, k, p, r2, b1, b2⟩ := whl_read hb
      rw [h1, r2] at r1
      injection r1 with _ e1 e2
      subst e1 e2
      have := lq_whole.1 (lq_trans b2 a1)
      omega
end Go.Proofs.Ytkpjnikmcojdlaa
