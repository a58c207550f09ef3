/- Floats that are not below nought stand as their words do; a number that is not below a word's is rounded to no smaller word. No program in sight. -/
import Derived.Test.YtkpjnikmcojdlaaFlm
namespace Go.Proofs.Ytkpjnikmcojdlaa
open Ieee
set_option linter.unusedVariables false

theorem cut_ge (n d B : Nat) (h : B * 2 ^ d ≤ n) : B ≤ Toward.even.cut false n d := by
  unfold Toward.cut
  simp only [Nat.one_shiftLeft]
  rcases Nat.lt_or_ge (n.log2 + 2) d with h1 | h1
  · have h2 : n < 2 ^ (n.log2 + 1) := Nat.lt_log2_self
    have h3 : 2 ^ (n.log2 + 1) ≤ 2 ^ d := Nat.pow_le_pow_right (by omega) (by omega)
    have : B = 0 := by
      rcases Nat.eq_zero_or_pos B with h0 | h0
      · exact h0
      · have : 1 * 2 ^ d ≤ B * 2 ^ d := Nat.mul_le_mul_right _ h0
        omega
    subst this
    exact Nat.zero_le _
  · rw [Nat.min_eq_left h1]
    refine Nat.le_trans ?_ (Nat.le_add_right _ _)
    exact (Nat.le_div_iff_mul_le (Nat.pow_pos (by omega))).2 h
theorem nearest_ge {m : Nat} {p : Int} {z n : Nat} {q : Int} (hz : z < 9218868437227405312) (hr : D64.read z = .number false n q) (h : lq n q m p) : z ≤ D64.nearest false m p := by
  obtain ⟨n', q', hr', hcase⟩ := read_word hz
  rw [hr] at hr'
  injection hr' with _ h1 h2
  subst h1 h2
  by_cases hm : m = 0
  · subst hm
    have hn : n = 0 := by
      unfold lq at h
      rw [Nat.zero_mul] at h
      have := Nat.pow_pos (n := (q - min q p).toNat) (show 0 < 2 by omega)
      rcases Nat.eq_zero_or_pos n with h0 | h0
      · exact h0
      · have := Nat.mul_pos h0 this; omega
    rcases hcase with ⟨h3, h4, h5⟩ | ⟨e, r, h3, h4, h5, h6, h7⟩ <;> omega
  · obtain ⟨L, hL⟩ : ∃ L, m.log2 = L := ⟨_, rfl⟩
    have hb := log2_bd (m := m) (by omega)
    rw [hL] at hb
    have hform : ∀ last : Int, last = max (p + (m.log2 : Int) - 52) (-1074) → D64.nearest false m p = min ((last - -1074).toNat * 4503599627370496 + Toward.even.cut false (m <<< (p - last).toNat) (last - p).toNat) 9218868437227405312 := fun last hl => by
      unfold Format.nearest Format.word
      rw [if_neg hm, d_frac, d_least, d_bin, d_inf]
      simp only [Bool.false_eq_true, if_false]
      subst hl
      rfl
    obtain ⟨last, hlast⟩ : ∃ x : Int, x = max (p + (m.log2 : Int) - 52) (-1074) := ⟨_, rfl⟩
    rw [hform last hlast]
    rw [hL] at hlast
    refine Nat.le_min.2 ⟨?_, Nat.le_of_lt hz⟩
    have same : q = last → n ≤ Toward.even.cut false (m <<< (p - last).toNat) (last - p).toNat := fun e => by
      refine cut_ge _ _ _ ?_
      rw [Nat.shiftLeft_eq]
      have := lq_at h (b := min p last) (by omega) (by omega)
      rw [show (p - min p last).toNat = (p - last).toNat by omega, show (q - min p last).toNat = (last - p).toNat by omega] at this
      exact this
    have full : -1074 < last → 4503599627370496 ≤ Toward.even.cut false (m <<< (p - last).toNat) (last - p).toNat := fun hl => by
      refine cut_ge _ _ _ ?_
      rw [Nat.shiftLeft_eq]
      have h3 : 2 ^ L * 2 ^ (p - last).toNat ≤ m * 2 ^ (p - last).toNat := Nat.mul_le_mul_right _ hb.1
      refine Nat.le_trans ?_ h3
      rw [show (4503599627370496 : Nat) = 2 ^ 52 by decide, ← Nat.pow_add, ← Nat.pow_add]
      exact Nat.pow_le_pow_right (by omega) (by omega)
    generalize Toward.even.cut false (m <<< (p - last).toNat) (last - p).toNat = kept at *
    rcases hcase with ⟨h3, h4, h5⟩ | ⟨e, r, h3, h4, h5, h6, h7⟩
    · by_cases hl : last = -1074
      · have := same (by omega)
        rw [hl]
        simp
        omega
      · have := full (by omega)
        omega
    · have h8 : (52 : Int) + q < ((L + 1 : Nat) : Int) + p := lq_log (L := 52) h (show 2 ^ 52 ≤ n by omega) hb.2
      rcases Int.lt_or_eq_of_le (show q ≤ last by omega) with h9 | h9
      · have := full (by omega)
        have : e ≤ (last - -1074).toNat := by omega
        generalize (last - -1074).toNat = E at *
        have := Nat.mul_le_mul_right 4503599627370496 this
        omega
      · have := same (by omega)
        rw [show (last - -1074).toNat = e - 1 by omega]
        have : (e - 1) * 4503599627370496 + 4503599627370496 = e * 4503599627370496 := by
          obtain ⟨d, rfl⟩ : ∃ d, e = d + 1 := ⟨e - 1, by omega⟩
          rw [Nat.add_sub_cancel, Nat.succ_mul]
        omega
theorem read_strict {x z n k : Nat} {q p : Int} (hz : z < 9218868437227405312) (hx : x < z) (hr : D64.read z = .number false n q) (hr2 : D64.read x = .number false k p) : ¬ lq n q k p := fun h => by
  have h1 := nearest_ge hz hr h
  have h2 := nearest_le (by omega) hr2 (lq_refl k p)
  omega
theorem cmp_nat {a b : Nat} : compare (a : Int) (b : Int) = compare a b := by
  rcases Nat.lt_trichotomy a b with h | h | h
  · rw [cmp_lt (by omega)]; exact (Nat.compare_eq_lt.2 h).symm
  · subst h; rw [cmp_self]; exact (Nat.compare_eq_eq.2 rfl).symm
  · rw [cmp_gt (by omega)]; exact (Nat.compare_eq_gt.2 h).symm
theorem read_inf : D64.read 9218868437227405312 = .infinity false := by kernel_rfl
/-- floats that are not below nought stand as their words do -/
theorem order_good {x y : Nat} (hx : good x) (hy : good y) : D64.order x y = some (compare x y) := by
  unfold good inf64 at hx hy
  unfold Format.order
  by_cases hxi : x = 9218868437227405312
  · subst hxi
    rw [read_inf]
    by_cases hyi : y = 9218868437227405312
    · subst hyi; rw [read_inf]; simp [Datum.order]
    · obtain ⟨n, q, hr, hcc⟩ := read_word (z := y) (by omega)
      clear hcc
      rw [hr]
      show some Ordering.gt = _
      rw [Nat.compare_eq_gt.2 (by omega)]
  · obtain ⟨m, p, hr, hcc⟩ := read_word (z := x) (by omega)
    clear hcc
    rw [hr]
    by_cases hyi : y = 9218868437227405312
    · subst hyi; rw [read_inf]
      show some Ordering.lt = _
      rw [Nat.compare_eq_lt.2 (by omega)]
    · obtain ⟨n, q, hr2, hcc⟩ := read_word (z := y) (by omega)
      clear hcc
      rw [hr2]
      show some (compare (signed false m (p - min p q).toNat) (signed false n (q - min p q).toNat)) = _
      rw [signed_false, signed_false, Nat.shiftLeft_eq, Nat.shiftLeft_eq, cmp_nat]
      congr 1
      rcases Nat.lt_trichotomy x y with h | h | h
      · have h1 : ¬ lq n q m p := read_strict (by omega) h hr2 hr
        unfold lq at h1
        rw [Int.min_comm] at h1
        rw [Nat.compare_eq_lt.2 h]
        exact Nat.compare_eq_lt.2 (by omega)
      · subst h
        rw [hr] at hr2
        injection hr2 with _ e1 e2
        rw [← e1, ← e2, Nat.compare_eq_eq.2 rfl]
        exact (Nat.compare_eq_eq.2 rfl).symm
      · have h1 : ¬ lq m p n q := read_strict (by omega) h hr hr2
        unfold lq at h1
        rw [Nat.compare_eq_gt.2 h]
        exact Nat.compare_eq_gt.2 (by omega)
/-- a sum is not below what was there -/
theorem add_ge {x y z : Nat} (hx : good x) (hy : nn y) (h : floatBits .add .f64 x y = some z) : x ≤ z := by
  have hx' := hx
  unfold good inf64 at hx
  have hyl : y < 18446744073709551616 := by unfold nn good inf64 at hy; omega
  have h' : D64.add x y = some z := h
  unfold Format.add at h'
  by_cases hxi : x = 9218868437227405312
  · subst hxi
    rw [read_inf] at h'
    rcases read_cases y hyl with ⟨t, n, q, hr2, _⟩ | ⟨t, hr2, g0, _, g2⟩ | ⟨t, f, hr2, g1⟩
    · rw [hr2] at h'
      have : some (D64.write (.infinity false)) = some z := h'
      have e := Option.some.inj this
      have e2 : D64.write (.infinity false) = 9218868437227405312 := by kernel_rfl
      omega
    · rw [hr2] at h'
      have : t = false := by
        rcases hy with hy | hy
        · exact g0 (by unfold good inf64 at hy; omega)
        · rw [hy] at g2; simp at g2
      subst this
      have : some (D64.write (.infinity false)) = some z := h'
      have e := Option.some.inj this
      have e2 : D64.write (.infinity false) = 9218868437227405312 := by kernel_rfl
      omega
    · rw [hr2] at h'
      cases h'
  · obtain ⟨m, p, hr, hcc⟩ := read_word (z := x) (by omega)
    clear hcc
    rw [hr] at h'
    rcases read_cases y hyl with ⟨t, n, q, hr2, g0, _, _, g3, _⟩ | ⟨t, hr2, g0, _, g2⟩ | ⟨t, f, hr2, g1⟩
    · rw [hr2] at h'
      have hn : t = true → n = 0 := fun ht => by
        rcases hy with hy | hy
        · have := g0 (by unfold good inf64 at hy; omega)
          rw [this] at ht; cases ht
        · exact g3 (by omega)
      have hs2 : signed t n (q - min p q).toNat = ((n * 2 ^ (q - min p q).toNat : Nat) : Int) := by
        cases t with
        | false => rw [signed_false, Nat.shiftLeft_eq]
        | true => rw [hn rfl]; unfold signed; simp
      have hs1 : signed false m (p - min p q).toNat = ((m * 2 ^ (p - min p q).toNat : Nat) : Int) := by rw [signed_false, Nat.shiftLeft_eq]
      obtain ⟨T, hT⟩ : ∃ T, m * 2 ^ (p - min p q).toNat + n * 2 ^ (q - min p q).toNat = T := ⟨_, rfl⟩
      have hsum : Datum.sum (.number false m p) (.number t n q) = some (.number false T (min p q)) := by
        simp only [Datum.sum, hs1, hs2]
        have e1 : (((m * 2 ^ (p - min p q).toNat : Nat) : Int) + ((n * 2 ^ (q - min p q).toNat : Nat) : Int)) = (T : Int) := by rw [← hT]; exact (Int.natCast_add _ _).symm
        rw [e1]
        have e2 : (if (T : Int) = 0 then false && t else decide ((T : Int) < 0)) = false := by
          split
          · rfl
          · exact decide_eq_false (by omega)
        rw [e2]; rfl
      rw [hsum, Option.map_some, write_number] at h'
      have e := Option.some.inj h'
      rw [← e]
      refine nearest_ge (by omega) hr (lq_of (b := min p q) (by omega) (by omega) ?_)
      rw [Int.sub_self, Int.toNat_zero, Nat.pow_zero, Nat.mul_one, ← hT]
      exact Nat.le_add_right _ _
    · rw [hr2] at h'
      have : t = false := by
        rcases hy with hy | hy
        · exact g0 (by unfold good inf64 at hy; omega)
        · rw [hy] at g2; simp at g2
      subst this
      have : some (D64.write (.infinity false)) = some z := h'
      have e := Option.some.inj this
      have e2 : D64.write (.infinity false) = 9218868437227405312 := by kernel_rfl
      omega
    · rw [hr2] at h'
      cases h'
end Go.Proofs.Ytkpjnikmcojdlaa
