/- Floats doubled: sums, products and comparisons of doubled ones are the doubled. No program in sight. -/
import Derived.Test.YtkpjnikmcojdlaaFlo
namespace Go.Proofs.Ytkpjnikmcojdlaa
open Ieee
set_option linter.unusedVariables false

def dbl (x : Nat) : Nat := if x % 9223372036854775808 = 0 then x else x + 4503599627370496
theorem dbl_zero : dbl 0 = 0 := by unfold dbl; simp
theorem dbl_neg : dbl 9223372036854775808 = 9223372036854775808 := by unfold dbl; simp
theorem dbl_pos {x : Nat} (h : 0 < x) (h2 : x < 9223372036854775808) : dbl x = x + 4503599627370496 := by
  unfold dbl; rw [if_neg (by rw [Nat.mod_eq_of_lt h2]; omega)]
/-- a word that is no zero: its digits, its place -/
theorem read_normal {z : Nat} (h1 : 4503599627370496 ≤ z) (h2 : z < 9218868437227405312) : ∃ e r, 1 ≤ e ∧ e ≤ 2046 ∧ r < 4503599627370496 ∧ z = e * 4503599627370496 + r ∧ D64.read z = .number false (4503599627370496 + r) ((e : Int) - 1075) := by
  obtain ⟨n, q, hr, h | ⟨e, r, a, b, c, d, f⟩⟩ := read_word h2
  · omega
  · subst d f
    refine ⟨e, r, a, ?_, b, c, hr⟩
    rcases Nat.lt_or_ge 2046 e with h | h
    · have : 2047 * 4503599627370496 ≤ e * 4503599627370496 := Nat.mul_le_mul_right _ h
      omega
    · exact h
theorem read_er {e r : Nat} (h1 : 1 ≤ e) (h2 : e ≤ 2046) (h3 : r < 4503599627370496) : D64.read (e * 4503599627370496 + r) = .number false (4503599627370496 + r) ((e : Int) - 1075) := by
  have ha : e * 4503599627370496 ≤ 2046 * 4503599627370496 := Nat.mul_le_mul_right _ h2
  have hb : 1 * 4503599627370496 ≤ e * 4503599627370496 := Nat.mul_le_mul_right _ h1
  have hz1 : 4503599627370496 ≤ e * 4503599627370496 + r := by
    rw [Nat.one_mul] at hb
    exact Nat.le_trans hb (Nat.le_add_right _ _)
  have hz2 : e * 4503599627370496 + r < 9218868437227405312 := by omega
  obtain ⟨e', r', a, b, c, d, f⟩ := read_normal hz1 hz2
  have he : e = e' := by
    rcases Nat.lt_trichotomy e e' with h | h | h
    · have : (e + 1) * 4503599627370496 ≤ e' * 4503599627370496 := Nat.mul_le_mul_right _ h
      omega
    · exact h
    · have : (e' + 1) * 4503599627370496 ≤ e * 4503599627370496 := Nat.mul_le_mul_right _ h
      omega
  subst he
  have : r = r' := by omega
  subst this
  exact f
theorem nearest_self {z n : Nat} {q : Int} (hz : z < 9218868437227405312) (hr : D64.read z = .number false n q) {m : Nat} {p : Int} (h1 : lq m p n q) (h2 : lq n q m p) : D64.nearest false m p = z :=
  Nat.le_antisymm (nearest_le hz hr h1) (nearest_ge hz hr h2)
theorem nearest_shift {m : Nat} (hm : m ≠ 0) (p : Int) (h1 : -1074 ≤ p + (m.log2 : Int) - 52) (h2 : D64.nearest false m p < 9214364837600034816) : D64.nearest false m (p + 1) = D64.nearest false m p + 4503599627370496 := by
  have hform : ∀ p last : Int, last = max (p + (m.log2 : Int) - 52) (-1074) → D64.nearest false m p = min ((last - -1074).toNat * 4503599627370496 + Toward.even.cut false (m <<< (p - last).toNat) (last - p).toNat) 9218868437227405312 := fun p last hl => by
    unfold Format.nearest Format.word
    rw [if_neg hm, d_frac, d_least, d_bin, d_inf]
    simp only [Bool.false_eq_true, if_false]
    subst hl
    rfl
  rw [hform p (p + m.log2 - 52) (by omega)] at h2 ⊢
  rw [hform (p + 1) (p + m.log2 - 52 + 1) (by omega)]
  rw [show (p + 1 - (p + (m.log2 : Int) - 52 + 1)) = p - (p + m.log2 - 52) by omega, show (p + (m.log2 : Int) - 52 + 1 - (p + 1)) = p + m.log2 - 52 - p by omega]
  generalize Toward.even.cut false (m <<< (p - (p + (m.log2 : Int) - 52)).toNat) (p + (m.log2 : Int) - 52 - p).toNat = kept at *
  rw [show (p + (m.log2 : Int) - 52 + 1 - -1074).toNat = (p + (m.log2 : Int) - 52 - -1074).toNat + 1 by omega, Nat.succ_mul]
  generalize (p + (m.log2 : Int) - 52 - -1074).toNat * 4503599627370496 = A at *
  omega
theorem read_two : D64.read 4611686018427387904 = .number false 4503599627370496 (-51) := by kernel_rfl
theorem two_neg : floatBits .mul .f64 4611686018427387904 9223372036854775808 = some 9223372036854775808 := by kernel_rfl
theorem two_zero : floatBits .mul .f64 4611686018427387904 0 = some 0 := by kernel_rfl
/-- 0, or a number that is far from the least and from the greatest -/
def mid (x : Nat) : Prop := x = 0 ∨ 553942754166571008 ≤ x ∧ x < 8660422083433463808
def midn (x : Nat) : Prop := mid x ∨ x = 9223372036854775808
theorem mid_good {x : Nat} (h : mid x) : good x := by unfold mid at h; unfold good inf64; omega
theorem midn_nn {x : Nat} (h : midn x) : nn x := by
  rcases h with h | h
  · exact Or.inl (mid_good h)
  · exact Or.inr h
theorem dbl_mid {x : Nat} (h : mid x) : dbl x = if x = 0 then 0 else x + 4503599627370496 := by
  rcases h with h | ⟨h, h2⟩
  · subst h; simp [dbl]
  · rw [if_neg (by omega), dbl_pos (by omega) (by omega)]
theorem dbl_good {x : Nat} (h : mid x) : good (dbl x) := by
  rw [dbl_mid h]; unfold mid at h; unfold good inf64; split <;> omega
theorem dbl_nn {x : Nat} (h : midn x) : nn (dbl x) := by
  rcases h with h | h
  · exact Or.inl (dbl_good h)
  · subst h; rw [dbl_neg]; exact Or.inr rfl
theorem mul_two {x : Nat} (h : midn x) : floatBits .mul .f64 4611686018427387904 x = some (dbl x) := by
  rcases h with (h | ⟨h1, h2⟩) | h
  · subst h; rw [two_zero, dbl_zero]
  · rw [dbl_pos (by omega) (by omega)]
    obtain ⟨e, r, a, b, c, d, f⟩ := read_normal (z := x) (by omega) (by omega)
    have he : e ≤ 1922 := by
      rcases Nat.lt_or_ge 1922 e with h | h
      · have : 1923 * 4503599627370496 ≤ e * 4503599627370496 := Nat.mul_le_mul_right _ h
        omega
      · exact h
    show D64.mul 4611686018427387904 x = _
    unfold Format.mul
    rw [f, read_two]
    show some (D64.write (.number false (4503599627370496 * (4503599627370496 + r)) (-51 + ((e : Int) - 1075)))) = _
    rw [write_number]
    have hr2 := read_er (e := e + 1) (r := r) (by omega) (by omega) c
    rw [show (e + 1) * 4503599627370496 + r = x + 4503599627370496 by rw [Nat.succ_mul]; omega] at hr2
    refine congrArg some ?_
    have hq : (4503599627370496 + r) * 2 ^ (((e + 1 : Nat) : Int) - 1075 - (-51 + ((e : Int) - 1075))).toNat = 4503599627370496 * (4503599627370496 + r) := by
      rw [show (((e + 1 : Nat) : Int) - 1075 - (-51 + ((e : Int) - 1075))).toNat = 52 by omega, Nat.mul_comm]
    refine nearest_self (by omega) hr2 (lq_of (b := -51 + ((e : Int) - 1075)) (by omega) (by omega) ?_) (lq_of (b := -51 + ((e : Int) - 1075)) (by omega) (by omega) ?_)
    · rw [hq, Int.sub_self, Int.toNat_zero, Nat.pow_zero, Nat.mul_one]; exact Nat.le_refl _
    · rw [hq, Int.sub_self, Int.toNat_zero, Nat.pow_zero, Nat.mul_one]; exact Nat.le_refl _
  · subst h; rw [two_neg, dbl_neg]
theorem write_read {z m : Nat} {p : Int} (hz : z < 9218868437227405312) (hr : D64.read z = .number false m p) {b : Int} (hb : b ≤ p) : D64.nearest false (m * 2 ^ (p - b).toNat) b = z := by
  refine nearest_self hz hr (lq_of (b := b) (by omega) (by omega) ?_) (lq_of (b := b) (by omega) (by omega) ?_)
  · rw [Int.sub_self, Int.toNat_zero, Nat.pow_zero, Nat.mul_one]; exact Nat.le_refl _
  · rw [Int.sub_self, Int.toNat_zero, Nat.pow_zero, Nat.mul_one]; exact Nat.le_refl _
theorem sum_pos {m n : Nat} {p q : Int} : Datum.sum (.number false m p) (.number false n q) = some (.number false (m * 2 ^ (p - min p q).toNat + n * 2 ^ (q - min p q).toNat) (min p q)) := by
  simp only [Datum.sum, signed_false, Nat.shiftLeft_eq]
  have e1 : (((m * 2 ^ (p - min p q).toNat : Nat) : Int) + ((n * 2 ^ (q - min p q).toNat : Nat) : Int)) = ((m * 2 ^ (p - min p q).toNat + n * 2 ^ (q - min p q).toNat : Nat) : Int) := (Int.natCast_add _ _).symm
  rw [e1]
  generalize m * 2 ^ (p - min p q).toNat + n * 2 ^ (q - min p q).toNat = T
  have e2 : (if (T : Int) = 0 then false && false else decide ((T : Int) < 0)) = false := by
    split
    · rfl
    · exact decide_eq_false (by omega)
  rw [e2]; rfl
theorem read_neg0 : D64.read 9223372036854775808 = .number true 0 (-1074) := by kernel_rfl
/-- nothing more -/
theorem add_zero_right {x y : Nat} (hx : good x) (hy : y = 0 ∨ y = 9223372036854775808) : floatBits .add .f64 x y = some x := by
  show D64.add x y = _
  unfold good inf64 at hx
  unfold Format.add
  have hry : ∃ t, D64.read y = .number t 0 (-1074) := by
    rcases hy with h | h
    · exact ⟨false, by rw [h, read_zero, d_least]⟩
    · exact ⟨true, by rw [h, read_neg0]⟩
  obtain ⟨t, hry⟩ := hry
  by_cases hxi : x = 9218868437227405312
  · subst hxi
    rw [read_inf, hry]
    show some (D64.write (.infinity false)) = _
    kernel_rfl
  · obtain ⟨m, p, hr, hc⟩ := read_word (z := x) (by omega)
    have hp : -1074 ≤ p := by rcases hc with ⟨_, _, h⟩ | ⟨e, r, h1, _, _, _, h⟩ <;> omega
    rw [hr, hry]
    have hs : Datum.sum (.number false m p) (.number t 0 (-1074)) = some (.number false (m * 2 ^ (p - -1074).toNat) (-1074)) := by
      have h0 : signed t 0 (-1074 - min p (-1074)).toNat = 0 := by cases t <;> simp [signed]
      simp only [Datum.sum, signed_false, Nat.shiftLeft_eq, h0, Int.add_zero]
      rw [show min p (-1074) = -1074 by omega]
      generalize m * 2 ^ (p - -1074).toNat = T
      have e2 : (if (T : Int) = 0 then false && t else decide ((T : Int) < 0)) = false := by
        split
        · rfl
        · exact decide_eq_false (by omega)
      rw [e2]; rfl
    rw [hs, Option.map_some, write_number, write_read (by omega) hr hp]
theorem add_zero_left {x : Nat} (hx : x < 9218868437227405312) : floatBits .add .f64 0 x = some x := by
  show D64.add 0 x = _
  unfold Format.add
  obtain ⟨m, p, hr, hc⟩ := read_word hx
  have hp : -1074 ≤ p := by rcases hc with ⟨_, _, h⟩ | ⟨e, r, h1, _, _, _, h⟩ <;> omega
  rw [hr, read_zero, d_least, sum_pos, show min (-1074) p = -1074 by omega, Nat.zero_mul, Nat.zero_add, Option.map_some, write_number, write_read hx hr hp]
/-- doubled numbers add to the doubled sum -/
theorem add_dbl {x y z : Nat} (hx : mid x) (hy : midn y) (h : floatBits .add .f64 x y = some z) (hz : z < 8660422083433463808) : floatBits .add .f64 (dbl x) (dbl y) = some (dbl z) ∧ mid z := by
  rcases hy with (hy | hy) | hy
  · subst hy
    rw [add_zero_right (mid_good hx) (Or.inl rfl)] at h
    cases h
    rw [dbl_zero]
    exact ⟨add_zero_right (dbl_good hx) (Or.inl rfl), hx⟩
  · rcases hx with hx | hx
    · subst hx
      rw [add_zero_left (by omega)] at h
      cases h
      rw [dbl_zero, dbl_pos (by omega) (by omega)]
      exact ⟨add_zero_left (by omega), Or.inr hy⟩
    · have hge := add_ge (mid_good (Or.inr hx)) (Or.inl (mid_good (Or.inr hy))) h
      refine ⟨?_, Or.inr ⟨by omega, hz⟩⟩
      obtain ⟨e, r, a1, a2, a3, a4, a5⟩ := read_normal (z := x) (by omega) (by omega)
      obtain ⟨e', r', b1, b2, b3, b4, b5⟩ := read_normal (z := y) (by omega) (by omega)
      have he : ∀ {e r x : Nat}, x = e * 4503599627370496 + r → x < 8660422083433463808 → e ≤ 1922 := fun {e r x} hx h2 => by
        rcases Nat.lt_or_ge 1922 e with h | h
        · have : 1923 * 4503599627370496 ≤ e * 4503599627370496 := Nat.mul_le_mul_right _ h
          omega
        · exact h
      have he1 := he a4 hx.2
      have he2 := he b4 hy.2
      have h' : D64.add x y = some z := h
      unfold Format.add at h'
      rw [a5, b5, sum_pos, Option.map_some, write_number] at h'
      have hzz := Option.some.inj h'
      rw [dbl_pos (x := x) (by omega) (by omega), dbl_pos (x := y) (by omega) (by omega), dbl_pos (x := z) (by omega) (by omega)]
      show D64.add _ _ = _
      unfold Format.add
      have r1 := read_er (e := e + 1) (r := r) (by omega) (by omega) a3
      have r2 := read_er (e := e' + 1) (r := r') (by omega) (by omega) b3
      rw [show (e + 1) * 4503599627370496 + r = x + 4503599627370496 by rw [Nat.succ_mul]; omega] at r1
      rw [show (e' + 1) * 4503599627370496 + r' = y + 4503599627370496 by rw [Nat.succ_mul]; omega] at r2
      rw [r1, r2, sum_pos, Option.map_some, write_number]
      rw [show min (((e + 1 : Nat) : Int) - 1075) (((e' + 1 : Nat) : Int) - 1075) = min ((e : Int) - 1075) ((e' : Int) - 1075) + 1 by omega,
        show (((e + 1 : Nat) : Int) - 1075 - (min ((e : Int) - 1075) ((e' : Int) - 1075) + 1)) = (e : Int) - 1075 - min ((e : Int) - 1075) ((e' : Int) - 1075) by omega,
        show (((e' + 1 : Nat) : Int) - 1075 - (min ((e : Int) - 1075) ((e' : Int) - 1075) + 1)) = (e' : Int) - 1075 - min ((e : Int) - 1075) ((e' : Int) - 1075) by omega]
      refine congrArg some ?_
      have hM : 4503599627370496 ≤ (4503599627370496 + r) * 2 ^ ((e : Int) - 1075 - min ((e : Int) - 1075) ((e' : Int) - 1075)).toNat + (4503599627370496 + r') * 2 ^ ((e' : Int) - 1075 - min ((e : Int) - 1075) ((e' : Int) - 1075)).toNat := by
        have := Nat.le_mul_of_pos_right (4503599627370496 + r) (Nat.pow_pos (n := ((e : Int) - 1075 - min ((e : Int) - 1075) ((e' : Int) - 1075)).toNat) (show 0 < 2 by omega))
        omega
      have hp : -1074 ≤ min ((e : Int) - 1075) ((e' : Int) - 1075) := by omega
      generalize min ((e : Int) - 1075) ((e' : Int) - 1075) = b at *
      generalize (4503599627370496 + r) * 2 ^ ((e : Int) - 1075 - b).toNat + (4503599627370496 + r') * 2 ^ ((e' : Int) - 1075 - b).toNat = M at *
      have hl : 52 ≤ M.log2 := (Nat.le_log2 (by omega)).2 (by omega)
      rw [nearest_shift (by omega) b (by omega) (by omega), hzz]
  · subst hy
    rw [add_zero_right (mid_good hx) (Or.inr rfl)] at h
    cases h
    rw [dbl_neg]
    exact ⟨add_zero_right (dbl_good hx) (Or.inr rfl), hx⟩
/-- a real below 1 times the doubled -/
theorem mul_dbl {m T : Nat} (hm : m < 9007199254740992) (h0 : T ≠ 0) (hT : mid T) : ∃ x, floatBits .mul .f64 (realW m) T = some x ∧ x ≤ T ∧ floatBits .mul .f64 (realW m) (dbl T) = some (dbl x) := by
  have hT' : 553942754166571008 ≤ T ∧ T < 8660422083433463808 := by unfold mid at hT; omega
  obtain ⟨e, r, a1, a2, a3, a4, a5⟩ := read_normal (z := T) (by omega) (by omega)
  have he1 : e ≤ 1922 := by
    rcases Nat.lt_or_ge 1922 e with h | h
    · have : 1923 * 4503599627370496 ≤ e * 4503599627370496 := Nat.mul_le_mul_right _ h
      omega
    · exact h
  have he0 : 123 ≤ e := by
    rcases Nat.lt_or_ge e 123 with h | h
    · have : e * 4503599627370496 ≤ 122 * 4503599627370496 := Nat.mul_le_mul_right _ (by omega)
      omega
    · exact h
  have r1 := read_er (e := e + 1) (r := r) (by omega) (by omega) a3
  rw [show (e + 1) * 4503599627370496 + r = T + 4503599627370496 by rw [Nat.succ_mul]; omega] at r1
  rw [dbl_pos (x := T) (by omega) (by omega)]
  show ∃ x, D64.mul _ _ = some x ∧ x ≤ T ∧ D64.mul _ _ = some (dbl x)
  unfold Format.mul
  rw [a5, r1]
  unfold realW
  by_cases h : m = 0
  · rw [if_pos h, read_zero]
    show ∃ x, some (D64.write (.number false (0 * (4503599627370496 + r)) _)) = some x ∧ x ≤ T ∧ some (D64.write (.number false (0 * (4503599627370496 + r)) _)) = some (dbl x)
    rw [Nat.zero_mul, write_number, write_number, near_zero, near_zero]
    exact ⟨0, rfl, Nat.zero_le _, by rw [dbl_zero]⟩
  · rw [if_neg h]
    have hk := log2_le (m := m) (by omega) hm
    have hf := full (m := m) (by omega) hm
    rw [read_enc (by omega) hm (-53) (by omega) (by omega)]
    generalize m * 2 ^ (52 - m.log2) = M at *
    show ∃ x, some (D64.write (.number false (M * (4503599627370496 + r)) (-53 + (m.log2 : Int) - 52 + ((e : Int) - 1075)))) = some x ∧ x ≤ T ∧ some (D64.write (.number false (M * (4503599627370496 + r)) (-53 + (m.log2 : Int) - 52 + (((e + 1 : Nat) : Int) - 1075)))) = some (dbl x)
    rw [write_number, write_number]
    refine ⟨_, rfl, ?_, ?_⟩
    · refine nearest_le (by omega) a5 (lq_of (b := -53 + (m.log2 : Int) - 52 + ((e : Int) - 1075)) (by omega) (by omega) ?_)
      rw [Int.sub_self, Int.toNat_zero, Nat.pow_zero, Nat.mul_one, Nat.mul_comm]
      refine Nat.mul_le_mul_left _ ?_
      have : 2 ^ 53 ≤ 2 ^ ((e : Int) - 1075 - (-53 + (m.log2 : Int) - 52 + ((e : Int) - 1075))).toNat := Nat.pow_le_pow_right (by omega) (by omega)
      omega
    · have hle : D64.nearest false (M * (4503599627370496 + r)) (-53 + (m.log2 : Int) - 52 + ((e : Int) - 1075)) ≤ T := by
        refine nearest_le (by omega) a5 (lq_of (b := -53 + (m.log2 : Int) - 52 + ((e : Int) - 1075)) (by omega) (by omega) ?_)
        rw [Int.sub_self, Int.toNat_zero, Nat.pow_zero, Nat.mul_one, Nat.mul_comm]
        refine Nat.mul_le_mul_left _ ?_
        have : 2 ^ 53 ≤ 2 ^ ((e : Int) - 1075 - (-53 + (m.log2 : Int) - 52 + ((e : Int) - 1075))).toNat := Nat.pow_le_pow_right (by omega) (by omega)
        omega
      have hMM : 4503599627370496 * 4503599627370496 ≤ M * (4503599627370496 + r) := Nat.mul_le_mul hf.1 (by omega)
      have hl : 104 ≤ (M * (4503599627370496 + r)).log2 := (Nat.le_log2 (by omega)).2 (by omega)
      rw [show -53 + (m.log2 : Int) - 52 + (((e + 1 : Nat) : Int) - 1075) = -53 + (m.log2 : Int) - 52 + ((e : Int) - 1075) + 1 by omega]
      generalize hN : M * (4503599627370496 + r) = N at *
      generalize hP : -53 + (m.log2 : Int) - 52 + ((e : Int) - 1075) = P at *
      have hpos : 0 < D64.nearest false N P := by
        have := nearest_ge (z := 4503599627370496) (m := N) (p := P) (by omega) (read_er (e := 1) (r := 0) (by omega) (by omega) (by omega)) (lq_of (b := -1074) (by omega) (by omega) ?_)
        · omega
        · rw [show (((1 : Nat) : Int) - 1075 - -1074).toNat = 0 by omega, Nat.pow_zero, Nat.mul_one]
          exact Nat.le_trans (by omega) (Nat.le_mul_of_pos_right N (Nat.pow_pos (by omega)))
      rw [nearest_shift (by omega) P (by omega) (by omega), dbl_pos (by omega) (by omega)]
end Go.Proofs.Ytkpjnikmcojdlaa
