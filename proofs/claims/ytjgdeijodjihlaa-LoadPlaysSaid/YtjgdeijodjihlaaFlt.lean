/- Floats of 64 bits that are not below nought: sums, comparisons. No program in sight. -/
import Derived.WalkLawsBesides
namespace Go.Proofs.Ytjgdeijodjihlaa
open Ieee
set_option linter.unusedVariables false

abbrev D64 : Format := FloatKind.f64.format
def inf64 : Nat := 9218868437227405312
/-- not below nought, and no NaN; -0 is none of these -/
def good (x : Nat) : Prop := x ≤ inf64
def nn (x : Nat) : Prop := good x ∨ x = 9223372036854775808
theorem d_sw : D64.signWeight = 9223372036854775808 := by kernel_rfl
theorem d_bin : D64.binade = 4503599627370496 := by kernel_rfl
theorem d_inf : D64.infRung = 9218868437227405312 := by kernel_rfl
theorem signed_false (m k : Nat) : signed false m k = ((m <<< k : Nat) : Int) := rfl
theorem read_cases (x : Nat) (hx : x < 18446744073709551616) :
    (∃ s m p, D64.read x = .number s m p ∧ (x < 9223372036854775808 → s = false) ∧ (9223372036854775808 ≤ x → s = true) ∧ (m = 0 → x % 9223372036854775808 = 0) ∧ (x % 9223372036854775808 = 0 → m = 0) ∧ x % 9223372036854775808 < 9218868437227405312) ∨
    (∃ s, D64.read x = .infinity s ∧ (x < 9223372036854775808 → s = false) ∧ (9223372036854775808 ≤ x → s = true) ∧ x % 9223372036854775808 = 9218868437227405312) ∨
    (∃ s f, D64.read x = .nan s f ∧ 9218868437227405312 < x % 9223372036854775808) := by
  unfold Format.read
  rw [d_sw, d_bin, d_inf]
  have hs0 : x < 9223372036854775808 → (x / 9223372036854775808 % 2 == 1) = false := fun h => by
    rw [Nat.div_eq_of_lt h]; rfl
  have hs1 : 9223372036854775808 ≤ x → (x / 9223372036854775808 % 2 == 1) = true := fun h => by
    have : x / 9223372036854775808 = 1 := by omega
    rw [this]; rfl
  simp only
  generalize (x / 9223372036854775808 % 2 == 1) = s at *
  split
  · exact Or.inl ⟨_, _, _, rfl, hs0, hs1, fun h => h, fun h => h, by omega⟩
  · split
    · exact Or.inl ⟨_, _, _, rfl, hs0, hs1, fun h => by omega, fun h => by omega, by omega⟩
    · split
      · exact Or.inr (Or.inl ⟨_, rfl, hs0, hs1, by omega⟩)
      · exact Or.inr (Or.inr ⟨_, _, rfl, by omega⟩)
theorem write_good (m : Nat) (p : Int) : good (D64.write (.number false m p)) := by
  have h : ∀ f : Format, f.write (.number false m p) ≤ f.infRung := fun f => by
    unfold Format.write Format.nearest Format.word
    simp only
    split
    · exact Nat.zero_le _
    · exact Nat.min_le_right _ _
  have := h D64
  rw [d_inf] at this
  exact this
theorem word_inf : good (D64.write (.infinity false)) := by
  have h : ∀ f : Format, f.write (.infinity false) = f.infRung := fun f => rfl
  rw [h, d_inf]; unfold good inf64; exact Nat.le_refl _
theorem add_good {x y : Nat} (hx : good x) (hy : nn y) : ∃ z, good z ∧ floatBits .add .f64 x y = some z := by
  unfold good inf64 at hx
  have hxl : x < 18446744073709551616 := by omega
  have hyl : y < 18446744073709551616 := by unfold nn good inf64 at hy; omega
  show ∃ z, good z ∧ D64.add x y = some z
  unfold Format.add
  rcases read_cases x hxl with ⟨s, m, p, hr, h0, _⟩ | ⟨s, hr, h0, _⟩ | ⟨s, f, hr, h1⟩
  · obtain rfl := h0 (by omega)
    rw [hr]
    rcases read_cases y hyl with ⟨t, n, q, hr2, g0, g1, _, g3, _⟩ | ⟨t, hr2, g0, _, g2⟩ | ⟨t, f, hr2, g1⟩
    · rw [hr2]
      have hn : t = true → n = 0 := fun ht => by
        rcases hy with hy | hy
        · have := g0 (by unfold good inf64 at hy; omega)
          rw [this] at ht; cases ht
        · exact g3 (by omega)
      have hneg : (if signed false m (p - min p q).toNat + signed t n (q - min p q).toNat = 0 then false && t else decide (signed false m (p - min p q).toNat + signed t n (q - min p q).toNat < 0)) = false := by
        split
        · rfl
        · refine decide_eq_false ?_
          have a1 : 0 ≤ signed false m (p - min p q).toNat := by rw [signed_false]; exact Int.natCast_nonneg _
          have a2 : 0 ≤ signed t n (q - min p q).toNat := by
            cases t with
            | false => rw [signed_false]; exact Int.natCast_nonneg _
            | true => rw [hn rfl]; unfold signed; simp
          omega
      refine ⟨_, write_good (signed false m (p - min p q).toNat + signed t n (q - min p q).toNat).natAbs (min p q), ?_⟩
      have hsum : Datum.sum (.number false m p) (.number t n q) = some (.number false (signed false m (p - min p q).toNat + signed t n (q - min p q).toNat).natAbs (min p q)) := by
        simp only [Datum.sum, hneg]
      rw [hsum, Option.map_some]
    · rw [hr2]
      have : t = false := by
        rcases hy with hy | hy
        · exact g0 (by unfold good inf64 at hy; omega)
        · rw [hy] at g2; simp at g2
      subst this
      exact ⟨_, word_inf, by simp [Datum.sum]⟩
    · rcases hy with hy | hy
      · unfold good inf64 at hy; omega
      · omega
  · obtain rfl := h0 (by omega)
    rw [hr]
    rcases read_cases y hyl with ⟨t, n, q, hr2, g0, g1, _, g3, _⟩ | ⟨t, hr2, g0, _, g2⟩ | ⟨t, f, hr2, g1⟩
    · rw [hr2]
      exact ⟨_, word_inf, by simp [Datum.sum]⟩
    · rw [hr2]
      have : t = false := by
        rcases hy with hy | hy
        · exact g0 (by unfold good inf64 at hy; omega)
        · rw [hy] at g2; simp at g2
      subst this
      exact ⟨_, word_inf, by simp [Datum.sum]⟩
    · rcases hy with hy | hy
      · unfold good inf64 at hy; omega
      · omega
  · omega
/-- is it not below nought, as Go asks? -/
def gb (x : Nat) : Bool := FloatKind.f64.format.order x 0 == some .gt || FloatKind.f64.format.order x 0 == some .eq
theorem read_zero : D64.read 0 = .number false 0 D64.leastPlace := by kernel_rfl
theorem signed_zero (k : Nat) : signed false 0 k = 0 := by unfold signed; simp
theorem cmp_self (a : Int) : compare a a = .eq := by simp [compare, compareOfLessAndEq]
theorem gb_nn {x : Nat} (hx : x < 18446744073709551616) (h : gb x = true) : nn x := by
  unfold gb at h
  unfold Format.order at h
  rw [show FloatKind.f64.format.read 0 = _ from read_zero] at h
  rcases read_cases x hx with ⟨s, m, p, hr, h0, h1, h2, h3, h4⟩ | ⟨s, hr, h0, h1, h2⟩ | ⟨s, f, hr, h1⟩
  · rw [show FloatKind.f64.format.read x = _ from hr] at h
    simp only [Datum.order, signed_zero] at h
    by_cases hlt : x < 9223372036854775808
    · left; unfold good inf64; rw [Nat.mod_eq_of_lt hlt] at h4; omega
    · right
      have hs := h1 (by omega)
      subst hs
      by_cases hm : m = 0
      · have := h2 hm; omega
      · exfalso
        have : signed true m (p - min p D64.leastPlace).toNat < 0 := by
          unfold signed
          simp only [if_true]
          have : 0 < m <<< (p - min p D64.leastPlace).toNat := by
            rw [Nat.shiftLeft_eq]
            exact Nat.mul_pos (by omega) (Nat.pow_pos (by omega))
          omega
        have hc : compare (signed true m (p - min p D64.leastPlace).toNat) 0 = .lt := by
          simp [compare, compareOfLessAndEq, this]
        rw [hc] at h
        simp at h
  · rw [show FloatKind.f64.format.read x = _ from hr] at h
    simp only [Datum.order] at h
    by_cases hlt : x < 9223372036854775808
    · left; unfold good inf64; rw [Nat.mod_eq_of_lt hlt] at h2; omega
    · have hs := h1 (by omega)
      subst hs
      simp at h
  · rw [show FloatKind.f64.format.read x = _ from hr] at h
    simp [Datum.order] at h
/-- the program asks it the other way round -/
theorem gb_neg (x : Nat) (hx : x < 18446744073709551616) : (FloatKind.f64.format.order x x != some .eq || FloatKind.f64.format.order x 0 == some .lt) = !gb x := by
  unfold gb Format.order
  rw [show FloatKind.f64.format.read 0 = _ from read_zero]
  rcases read_cases x hx with ⟨s, m, p, hr, _⟩ | ⟨s, hr, _⟩ | ⟨s, f, hr, _⟩
  · rw [show FloatKind.f64.format.read x = _ from hr]
    simp only [Datum.order, cmp_self]
    have key : ∀ c : Ordering, ((some Ordering.eq : Option Ordering) != some .eq || (some c == some Ordering.lt)) = !((some c == some Ordering.gt) || (some c == some Ordering.eq)) := by intro c; cases c <;> rfl
    exact key _
  · rw [show FloatKind.f64.format.read x = _ from hr]
    simp only [Datum.order]
    cases s <;> rfl
  · rw [show FloatKind.f64.format.read x = _ from hr]
    rfl
theorem gb_eq (x : Nat) : gb x = (FloatKind.f64.format.order x 0 == some .gt || FloatKind.f64.format.order x 0 == some .eq) := rfl
attribute [irreducible] gb
end Go.Proofs.Ytjgdeijodjihlaa
