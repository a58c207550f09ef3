/- LoadBounds: sums that are nought; tops; the rhythm and its mirror. No program but the words of the walk. -/
import Derived.Test.YtjgdeijodjihlaaD9t
namespace Go.Proofs.Ytjgdeijodjihlaa
open Go.RowKit
open Ieee
set_option linter.unusedVariables false

theorem cut_zero (way : Toward) (n : Nat) : way.cut false n 0 = n := by
  unfold Toward.cut
  simp
  cases way <;> simp [Nat.mod_one]
theorem nearest_pos {t : Nat} {base : Int} (ht : 0 < t) (hb : -1074 ≤ base) : 0 < D64.nearest false t base := by
  have gen : D64.nearest false t base = min ((max (base + (t.log2 : Int) - 52) (-1074) - -1074).toNat * 4503599627370496 + Toward.even.cut false (t <<< (base - max (base + (t.log2 : Int) - 52) (-1074)).toNat) (max (base + (t.log2 : Int) - 52) (-1074) - base).toNat) 9218868437227405312 := by
    unfold Format.nearest Format.word
    rw [if_neg (by omega), d_frac, d_least, d_bin, d_inf]
    simp only [Bool.false_eq_true, if_false]
    rfl
  rw [gen]
  obtain ⟨last, hl⟩ : ∃ x : Int, x = max (base + (t.log2 : Int) - 52) (-1074) := ⟨_, rfl⟩
  rw [← hl]
  refine Nat.lt_min.2 ⟨?_, by omega⟩
  rcases Int.lt_or_eq_of_le (show (-1074 : Int) ≤ last by omega) with h | h
  · have : 1 ≤ (last - -1074).toNat := by omega
    have := Nat.mul_le_mul_right 4503599627370496 this
    omega
  · rw [← h, show (-1074 - base).toNat = 0 by omega, cut_zero, Nat.shiftLeft_eq]
    have := Nat.mul_pos ht (Nat.pow_pos (n := (base - -1074).toNat) (show 0 < 2 by omega))
    omega
/-- a finite word that is not below nought, read -/
theorem good_read {k x : Nat} (hx : bd k x) (hk : k ≤ 1023) (hg : good x) : ∃ m p, D64.read x = .number false m p ∧ -1074 ≤ p ∧ (m = 0 → x = 0) := by
  obtain ⟨s, m', p', hr', _⟩ := bd_num hx hk
  obtain ⟨m, p, hr⟩ := good_num hg ⟨s, m', p', hr'⟩
  have hlt : x < 9218868437227405312 := by
    rcases Nat.lt_or_ge x 9218868437227405312 with h | h
    · exact h
    · exfalso
      unfold good inf64 at hg
      have : x = 9218868437227405312 := by omega
      subst this
      have : D64.read 9218868437227405312 = .infinity false := by kernel_rfl
      rw [this] at hr
      cases hr
  obtain ⟨n, q, hr2, hc⟩ := read_word hlt
  rw [hr] at hr2
  injection hr2 with _ h1 h2
  subst h1 h2
  rcases hc with ⟨c1, c2, c3⟩ | ⟨e, r, c1, c2, c3, c4, c5⟩
  · exact ⟨m, p, hr, by omega, fun h => by omega⟩
  · exact ⟨m, p, hr, by omega, fun h => by omega⟩
theorem fadd_zero {k x y : Nat} (hx : bd k x) (hy : bd k y) (hk : k ≤ 1023) (gx : good x) (gy : good y) (h : fadd x y = 0) : x = 0 ∧ y = 0 := by
  obtain ⟨m, i, hr, hi, h1⟩ := good_read hx hk gx
  obtain ⟨n, j, hr2, hj, h2⟩ := good_read hy hk gy
  have e : signed false m (i - min i j).toNat + signed false n (j - min i j).toNat = ((m * 2 ^ (i - min i j).toNat + n * 2 ^ (j - min i j).toNat : Nat) : Int) := by
    rw [signed_false, signed_false, Nat.shiftLeft_eq, Nat.shiftLeft_eq, Int.natCast_add]
  have hs : floatBits .add .f64 x y = some (D64.write (.number false (m * 2 ^ (i - min i j).toNat + n * 2 ^ (j - min i j).toNat) (min i j))) := by
    show D64.add x y = _
    unfold Format.add
    rw [hr, hr2]
    have hneg : (if ((m * 2 ^ (i - min i j).toNat + n * 2 ^ (j - min i j).toNat : Nat) : Int) = 0 then false && false else decide (((m * 2 ^ (i - min i j).toNat + n * 2 ^ (j - min i j).toNat : Nat) : Int) < 0)) = false := by
      split
      · rfl
      · exact decide_eq_false (by omega)
    simp only [Datum.sum, e, hneg, Int.natAbs_natCast]
    rfl
  have hz : D64.nearest false (m * 2 ^ (i - min i j).toNat + n * 2 ^ (j - min i j).toNat) (min i j) = 0 := by
    unfold fadd at h
    rw [hs, write_number] at h
    exact h
  have p1 : 0 < 2 ^ (i - min i j).toNat := Nat.pow_pos (by omega)
  have p2 : 0 < 2 ^ (j - min i j).toNat := Nat.pow_pos (by omega)
  have hm : m = 0 := by
    rcases Nat.eq_zero_or_pos m with h | h
    · exact h
    · have := Nat.mul_pos h p1
      have := nearest_pos (t := m * 2 ^ (i - min i j).toNat + n * 2 ^ (j - min i j).toNat) (base := min i j) (by omega) (by omega)
      omega
  have hn : n = 0 := by
    rcases Nat.eq_zero_or_pos n with h | h
    · exact h
    · have := Nat.mul_pos h p2
      have := nearest_pos (t := m * 2 ^ (i - min i j).toNat + n * 2 ^ (j - min i j).toNat) (base := min i j) (by omega) (by omega)
      omega
  exact ⟨h1 hm, h2 hn⟩
theorem sum_zero : ∀ (l : List Nat) (k y : Nat), bd k y → good y → 83 ≤ k → (∀ x ∈ l, bd 83 x) → (∀ x ∈ l, good x) → k + l.length ≤ 1000 → sumF y l = 0 → y = 0 ∧ ∀ x ∈ l, x = 0
  | [], k, y, _, _, _, _, _, _, h => ⟨h, fun x hx => by cases hx⟩
  | x :: r, k, y, hy, gy, hk, hl, gl, hn, h => by
    rw [sumF_cons] at h
    simp only [List.length_cons] at hn
    have hx := hl x (by simp)
    have gx := gl x (by simp)
    obtain ⟨a, b⟩ := sum_zero r (k + 1) _ (fadd_bd hy (bd_mono hx hk) (by omega)).2 (fadd_eq gy (Or.inl gx)).2 (by omega) (fun z hz => hl z (by simp [hz])) (fun z hz => gl z (by simp [hz])) (by omega) h
    obtain ⟨c, d⟩ := fadd_zero hy (bd_mono hx hk) (by omega) gy gx a
    exact ⟨c, fun z hz => by
      rcases List.mem_cons.1 hz with rfl | hz
      · exact d
      · exact b z hz⟩
theorem fadd00 : fadd 0 0 = 0 := by unfold fadd; kernel_rfl
theorem fsub00 : fsub 0 0 = 0 := by unfold fsub; kernel_rfl
theorem fml00 : fml 0 0 = 0 := by unfold fml; kernel_rfl
theorem fsqrt0 : fsqrt 0 = 0 := by unfold fsqrt; kernel_rfl
theorem fquo0 {N : Nat} (h0 : 0 < N) (h53 : N < 9007199254740992) : fquo 0 (wholeW N) = 0 := by
  obtain ⟨n, j, hr, hn, h1⟩ := whole_read h0 h53
  have hq : ∃ p, Datum.quotient 54 (.number false 0 D64.leastPlace) (.number false n j) = some (.number false 0 p) := by
    unfold Datum.quotient
    simp only
    rw [if_neg (by omega)]
    simp
  obtain ⟨p, hq⟩ := hq
  have he : floatBits .quo .f64 0 (wholeW N) = some (D64.write (.number false 0 p)) := by
    show D64.div 0 (wholeW N) = _
    unfold Format.div
    rw [read_zero, hr, d_frac, hq, Option.map_some]
  unfold fquo
  rw [he, write_number, near_zero]
  rfl
theorem sumF_zero : ∀ l : List Nat, (∀ x ∈ l, x = 0) → sumF 0 l = 0
  | [], _ => rfl
  | x :: r, h => by
    rw [sumF_cons, h x (by simp), fadd00]
    exact sumF_zero r (fun z hz => h z (by simp [hz]))
theorem spF_zero : ∀ l : List Nat, (∀ x ∈ l, x = 0) → spF 0 0 l = 0
  | [], _ => by rw [spF_nil]
  | x :: r, h => by
    rw [spF_cons, h x (by simp), fsub00, fml00, fadd00]
    exact spF_zero r (fun z hz => h z (by simp [hz]))
/-- nothing at all has no spread -/
theorem spread_zero {L : List Nat} (hl : ∀ x ∈ L, bd 83 x) (gl : ∀ x ∈ L, good x) (h1 : 1 ≤ L.length) (h2 : L.length ≤ 64) (h : sumF 0 L = 0) : spreadP L = 0 := by
  obtain ⟨_, hz⟩ := sum_zero L 83 0 (bd_zero _) good0 (by omega) hl gl (by omega) h
  unfold spreadP meanP
  rw [h, fquo0 h1 (by omega), spF_zero L hz, fquo0 h1 (by omega), fsqrt0]
theorem good_geq {k x : Nat} (hx : bd k x) (hk : k ≤ 1023) (hg : good x) : gb x = true := by
  obtain ⟨m, p, hr, _⟩ := good_read hx hk hg
  unfold gb Format.order
  rw [show FloatKind.f64.format.read x = _ from hr, show FloatKind.f64.format.read 0 = _ from read_zero]
  simp only [Datum.order, signed_false, Nat.zero_shiftLeft]
  rcases Nat.eq_zero_or_pos (m <<< (p - min p D64.leastPlace).toNat) with h | h
  · rw [h]; simp
  · have : (0 : Int) < ((m <<< (p - min p D64.leastPlace).toNat : Nat) : Int) := by omega
    rw [show ((0 : Nat) : Int) = 0 from rfl, cmp_gt this]; rfl
/-- not below nought, and equal to nought: nought -/
theorem eq_zero_iff {k x : Nat} (hx : bd k x) (hk : k ≤ 1023) (hg : good x) : (FloatKind.f64.format.order x 0 == some .eq) = decide (x = 0) := by
  obtain ⟨m, p, hr, _, h0⟩ := good_read hx hk hg
  by_cases h : x = 0
  · subst h; kernel_rfl
  · rw [decide_eq_false h]
    unfold Format.order
    rw [show FloatKind.f64.format.read x = _ from hr, show FloatKind.f64.format.read 0 = _ from read_zero]
    simp only [Datum.order, signed_false, Nat.zero_shiftLeft]
    have hm : 0 < m := by
      rcases Nat.eq_zero_or_pos m with hh | hh
      · exact absurd (h0 hh) h
      · exact hh
    have : (0 : Int) < ((m <<< (p - min p D64.leastPlace).toNat : Nat) : Int) := by
      rw [Nat.shiftLeft_eq]
      exact_mod_cast Nat.mul_pos hm (Nat.pow_pos (by omega))
    rw [show ((0 : Nat) : Int) = 0 from rfl, cmp_gt this]; rfl
/-- the first step of a top -/
theorem top_first {L : List Nat} (h : 1 ≤ L.length) : topF L 0 0 L = topF L (-1) 0 L := by
  obtain ⟨x, r, rfl⟩ : ∃ x r, L = x :: r := by
    match L, h with
    | x :: r, _ => exact ⟨x, r, rfl⟩
  have gen : ∀ M : List Nat, topF M 0 0 (x :: r) = topF M (-1) 0 (x :: r) := fun M => by
    rw [topF_cons, topF_cons]
    simp
  exact gen _
end Go.Proofs.Ytjgdeijodjihlaa
