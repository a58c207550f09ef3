/- LoadHalves: what halving many times makes; in one go or in two. -/
import Derived.Test.YtjgdeijodjihlaaD9t
import Derived.Test.YtjgdeijodjihlaaD9j
namespace Go.Proofs.Ytjgdeijodjihlaa
open Go.RowKit
open Ieee
set_option linter.unusedVariables false

theorem place_calls (a n : Int) (ha : -9223372036854775808 ≤ a) (ha' : a ≤ 9223372036854775807) (hn : 1 ≤ n) (hn' : n ≤ 9223372036854775807) (w : World) : Calls Try.prog 24 #[.int .i64 a, .int .i64 n] w fun e w' =>
    e = .returned (.int .i64 (a % n)) ∧ w = w' := by
  have hz : ¬ n = 0 := by omega
  have hb1 : -n < a.tmod n := Int.lt_tmod_of_pos a (by omega)
  have hb2 : a.tmod n < n := Int.tmod_lt_of_pos a (by omega)
  by_cases h0 : 0 ≤ a
  · have hb3 : 0 ≤ a % n := Int.emod_nonneg a (by omega)
    go_enter Try.func24, Try.ntmps24
    go_wp2_with fail
    go_ret
    exact ⟨rfl, rfl⟩
  · have he := Int.emod_eq_tmod (a := a) (b := n)
    have hb3 : a.tmod n ≤ 0 := by
      have e := Int.neg_tmod (a := a) (b := n)
      have := Int.tmod_nonneg (a := -a) n (by omega)
      omega
    by_cases h1 : a.tmod n < 0
    · have hd : ¬ n ∣ a := fun h => by have := Int.tmod_eq_zero_of_dvd h; omega
      have hr : a % n = a.tmod n + n := by rw [he, if_neg (by simp [hd, h0])]; omega
      rw [hr]
      clear he hr hd
      go_enter Try.func24, Try.ntmps24
      go_wp2_with fail
      go_ret
      exact ⟨rfl, rfl⟩
    · have h2 : a.tmod n = 0 := by omega
      have hr : a % n = a.tmod n := by
        rw [he, if_pos (Or.inr (Int.dvd_of_tmod_eq_zero h2))]; omega
      rw [hr]
      clear he hr h2
      go_enter Try.func24, Try.ntmps24
      go_wp2_with fail
      go_ret
      exact ⟨rfl, rfl⟩
/-- a number that is not above 2 ^ e -/
def vp (e : Int) (x : Nat) : Prop := x < 9218868437227405312 ∧ ∃ m p, D64.read x = .number false m p ∧ lq m p 1 e
theorem two_word {e : Int} (h1 : -1074 ≤ e) (h2 : e ≤ 1000) : ∃ z n q, z < 9218868437227405312 ∧ D64.read z = .number false n q ∧ lq n q 1 e ∧ lq 1 e n q ∧ (e = -1074 → z = 1) := by
  by_cases h : e < -1022
  · obtain ⟨k, hk⟩ : ∃ k : Nat, e = -1074 + k := ⟨(e + 1074).toNat, by omega⟩
    have hk52 : k < 52 := by omega
    have hlt : 2 ^ k < 4503599627370496 := by
      have : 2 ^ k < 2 ^ 52 := Nat.pow_lt_pow_right (by omega) hk52
      simpa using this
    obtain ⟨n, q, hr, hc⟩ := read_word (z := 2 ^ k) (by omega)
    rcases hc with ⟨_, c2, c3⟩ | ⟨e', r, c1, c2, c3, _⟩
    · refine ⟨2 ^ k, n, q, by omega, hr, ?_, ?_, fun he => ?_⟩
      · refine lq_of (b := -1074) (by omega) (by omega) ?_
        rw [c2, c3, show ((-1074 : Int) - -1074).toNat = 0 from rfl, show (e - -1074).toNat = k by omega]
        simp
      · refine lq_of (b := -1074) (by omega) (by omega) ?_
        rw [c2, c3, show ((-1074 : Int) - -1074).toNat = 0 from rfl, show (e - -1074).toNat = k by omega]
        simp
      · have : k = 0 := by omega
        subst this; rfl
    · have : 1 * 4503599627370496 ≤ e' * 4503599627370496 := Nat.mul_le_mul_right _ c1
      omega
  · obtain ⟨E, hE⟩ : ∃ E : Nat, e = (E : Int) - 1023 := ⟨(e + 1023).toNat, by omega⟩
    have hE1 : 1 ≤ E := by omega
    have hE2 : E ≤ 2023 := by omega
    have hz : E * 4503599627370496 < 9218868437227405312 := by omega
    obtain ⟨n, q, hr, hc⟩ := read_word hz
    rcases hc with ⟨c1, _⟩ | ⟨e', r, c1, c2, c3, c4, c5⟩
    · omega
    · have he' : e' = E := by omega
      subst he'
      have hr0 : r = 0 := by omega
      subst hr0
      have e52 : (4503599627370496 : Nat) = 2 ^ 52 := by decide
      refine ⟨e' * 4503599627370496, n, q, hz, hr, ?_, ?_, fun he => by omega⟩
      · refine lq_of (b := q) (by omega) (by omega) ?_
        rw [c4, Int.sub_self, show (e - q).toNat = 52 by omega, e52]
        simp
      · refine lq_of (b := q) (by omega) (by omega) ?_
        rw [c4, Int.sub_self, show (e - q).toNat = 52 by omega, e52]
        simp
theorem vp_half {e : Int} {x : Nat} (hx : vp e x) (h1 : -1074 ≤ e - 1) (h2 : e ≤ 1000) : vp (e - 1) (fhalf x) := by
  obtain ⟨hl, m, p, hr, h3⟩ := hx
  obtain ⟨n, hn⟩ : ∃ n, n = 2 ^ 52 := ⟨_, rfl⟩
  obtain ⟨q, hq⟩ : ∃ q : Int, q = -53 := ⟨_, rfl⟩
  have hh := read_half
  rw [← hn, ← hq] at hh
  have hm := mul_num hr hh
  have hle : lq (m * n) (p + q) 1 (e - 1) := by
    have h4 : lq (m * n) (p + q) m (p - 1) := by
      refine lq_of (b := p - 53) (by omega) (by omega) ?_
      rw [hq, show (p + -53 - (p - 53)).toNat = 0 by omega, show (p - 1 - (p - 53)).toNat = 52 by omega, hn]
      simp
    refine lq_trans h4 ?_
    obtain ⟨B, hB⟩ : ∃ B : Int, B = min p e := ⟨_, rfl⟩
    have := lq_at h3 (b := B) (by omega) (by omega)
    refine lq_of (b := B - 1) (by omega) (by omega) ?_
    rw [show (p - 1 - (B - 1)).toNat = (p - B).toNat by omega, show (e - 1 - (B - 1)).toNat = (e - B).toNat by omega]
    exact this
  obtain ⟨z, nz, qz, hz, hzr, hz1, hz2, _⟩ := two_word h1 (by omega)
  have hw := nearest_le hz hzr (lq_trans hle hz2)
  have hf : fhalf x = D64.nearest false (m * n) (p + q) := by
    unfold fhalf
    rw [hm, write_number]
    rfl
  rw [hf]
  obtain ⟨k, i, hr2, _⟩ := read_word (z := D64.nearest false (m * n) (p + q)) (by omega)
  exact ⟨by omega, k, i, hr2, lq_trans (read_mono hw hz hzr hr2) hz1⟩
theorem half_one : fhalf 1 = 0 := by unfold fhalf; kernel_rfl
theorem half_nil : fhalf 0 = 0 := by unfold fhalf; kernel_rfl
theorem vp_last {x : Nat} (hx : vp (-1074) x) : fhalf x = 0 := by
  obtain ⟨hl, m, p, hr, h3⟩ := hx
  obtain ⟨z, nz, qz, hz, hzr, hz1, hz2, hzz⟩ := two_word (e := -1074) (by omega) (by omega)
  have h1 := hzz rfl
  subst h1
  rcases Nat.lt_or_ge 1 x with h | h
  · exfalso
    have hm := lq_trans (read_mono (x := 2) (by omega) hl hr (show D64.read 2 = .number false 2 (-1074) by kernel_rfl)) h3
    unfold lq at hm
    simp at hm
  · rcases Nat.lt_or_ge 0 x with h' | h'
    · obtain rfl : x = 1 := by omega
      exact half_one
    · obtain rfl : x = 0 := by omega
      exact half_nil
theorem vp_halves {x : Nat} {e : Int} (hx : vp e x) (h2 : e ≤ 1000) : ∀ n : Nat, -1074 ≤ e - n → vp (e - n) (halves n x)
  | 0, _ => by
    show vp (e - ((0 : Nat) : Int)) x
    rw [show e - ((0 : Nat) : Int) = e by omega]
    exact hx
  | n + 1, h => by
    have ih := vp_halves hx h2 n (by omega)
    have := vp_half ih (by omega) (by omega)
    rw [show e - (n : Int) - 1 = e - ((n + 1 : Nat) : Int) by omega] at this
    exact this
theorem halves_nil (n : Nat) : halves n 0 = 0 := by
  induction n with
  | zero => rfl
  | succ n ih => show fhalf (halves n 0) = 0; rw [ih]; exact half_nil
theorem halves_add (a b x : Nat) : halves (a + b) x = halves b (halves a x) := by
  induction b with
  | zero => rfl
  | succ b ih => show fhalf (halves (a + b) x) = fhalf (halves b (halves a x)); rw [ih]
theorem halves_end {K x : Nat} (hx : vle K x) (hK : K ≤ 8796093022208) {n : Nat} (hn : 1158 ≤ n) : halves n x = 0 := by
  obtain ⟨h1, m, p, h2, h3⟩ := hx
  have hv : vp 83 x := ⟨h1, m, p, h2, lq_trans h3 (lq_of (b := 40) (by omega) (by omega) (by
    rw [show ((40 : Int) - 40).toNat = 0 from rfl, show ((83 : Int) - 40).toNat = 43 from rfl]
    simp; omega))⟩
  have hl := vp_last (vp_halves hv (by omega) 1157 (by omega))
  obtain ⟨d, rfl⟩ : ∃ d, n = 1158 + d := ⟨n - 1158, by omega⟩
  rw [halves_add, show halves 1158 x = fhalf (halves 1157 x) from rfl, hl]
  exact halves_nil d
theorem halves_min {K x : Nat} (hx : vle K x) (hK : K ≤ 8796093022208) (n : Nat) : halves (min n 2200) x = halves n x := by
  rcases Nat.lt_or_ge n 2200 with h | h
  · rw [Nat.min_eq_left (by omega)]
  · rw [Nat.min_eq_right h, halves_end hx hK (by omega), halves_end hx hK (by omega)]
/-- is it above nought? -/
theorem gt_zero {x : Nat} (hx : x < 9218868437227405312) : gtB x 0 = decide (x ≠ 0) := by
  obtain ⟨n, q, hr, hc⟩ := read_word hx
  unfold gtB Format.order
  rw [show FloatKind.f64.format.read x = _ from hr, show FloatKind.f64.format.read 0 = _ from read_zero]
  simp only [Datum.order, signed_false, Nat.zero_shiftLeft]
  have hn : n = 0 ↔ x = 0 := by
    rcases hc with ⟨_, h, _⟩ | ⟨e, r, h1, _, h3, h4, _⟩
    · omega
    · have : 1 * 4503599627370496 ≤ e * 4503599627370496 := Nat.mul_le_mul_right _ h1
      omega
  by_cases h : n = 0
  · rw [decide_eq_false (by simp [hn.1 h]), h]
    simp
  · rw [decide_eq_true (by simpa using fun e => h (hn.2 e))]
    have : (0 : Int) < ((n <<< (q - min q D64.leastPlace).toNat : Nat) : Int) := by
      rw [Nat.shiftLeft_eq]
      exact_mod_cast Nat.mul_pos (by omega) (Nat.pow_pos (by omega))
    rw [show (((0 : Nat) : Int)) = 0 from rfl, cmp_gt this]
    rfl
theorem ages_whole (m : Mt) (a : Nat) (h : 1 ≤ m.half) : ages m (m.now + m.half * a) = a := by
  unfold ages
  rw [Nat.add_mul_div_left _ _ (by omega)]
  omega
theorem shift_two (a b : Nat) (w : List Nat) (h8 : w.length = 8) : shiftW (min b 8) (shiftW (min a 8) w) = shiftW (min (a + b) 8) w := by
  unfold shiftW
  apply List.ext_getElem?
  intro i
  simp only [List.getElem?_append, List.length_drop, List.length_append, List.length_replicate, List.getElem?_drop, List.getElem?_replicate, h8]
  by_cases c1 : i < 8 - min (a + b) 8
  · rw [if_pos (by omega), if_pos (by omega), if_pos c1]
    congr 1
    omega
  · rw [if_neg c1]
    by_cases c2 : i < 8
    · rw [if_pos (show i - (8 - min (a + b) 8) < min (a + b) 8 by omega)]
      by_cases c3 : i < 8 - min a 8 + min a 8 - min b 8
      · rw [if_pos c3, if_neg (by omega), if_pos (by omega)]
      · rw [if_neg c3, if_pos (by omega)]
    · rw [if_neg (by omega), if_neg (by omega), if_neg (by omega)]
theorem on_two {K : Nat} {m : Mt} (hb : Bnd K m) (hK : K ≤ 8796093022208) (hok : m.ok) (a b : Nat) : onM (onM m (m.now + m.half * a)) (m.now + m.half * (a + b)) = onM m (m.now + m.half * (a + b)) := by
  have h1 := hok.h1
  have ea := ages_whole m a h1
  have eab := ages_whole m (a + b) h1
  have e2 : ages (onM m (m.now + m.half * a)) (m.now + m.half * (a + b)) = b := by
    have := ages_whole (onM m (m.now + m.half * a)) b h1
    have e : (onM m (m.now + m.half * a)).now + (onM m (m.now + m.half * a)).half * b = m.now + m.half * (a + b) := by
      show m.now + m.half * a + m.half * b = _
      rw [Nat.mul_add]; omega
    rw [e] at this
    exact this
  unfold onM at e2 ⊢
  simp only at e2 ⊢
  rw [e2, eab, ea]
  congr 1
  · rw [List.map_map]
    apply List.map_congr_left
    intro x hx
    have hv := hb.l x hx
    show halves (min b 2200) (halves (min a 2200) x) = _
    rw [halves_min hv hK]
    have h0 : 0 < max K 1 := by omega
    have hv2 := vle_halves (vle_mono hv (show K ≤ max K 1 by omega)) h0 (by omega) a
    rw [halves_min hv2 (by omega), ← halves_add, halves_min hv hK]
  · exact shift_two a b m.win hok.w8
/-- as the law halves: as often, or until nothing is left -/
theorem of_on {K : Nat} {m : Mt} (hb : Bnd K m) (hK : K ≤ 8796093022208) (hok : m.ok) (a i : Nat) (hi : i < m.L.length) : ofP (onM m (m.now + m.half * a)) i = halves a m.L[i] := by
  have hl : (onM m (m.now + m.half * a)).L.length = m.L.length := by unfold onM; simp
  unfold ofP
  rw [hl, if_pos (by omega), Int.toNat_natCast]
  unfold onM
  simp only
  rw [getD_map, if_pos hi, ages_whole m a hok.h1, List.getD_eq_getElem?_getD, List.getElem?_eq_getElem hi]
  exact halves_min (hb.l _ (List.getElem_mem _)) hK a
theorem onP_whole {m : Mt} (hok : m.ok) (t : Nat) (h1 : m.now ≤ t) (h2 : t ≤ 1099511627776) : onP m t = (0, onM m t) := by
  unfold onP
  rw [if_neg (by omega), if_neg (by omega), Int.toNat_natCast]
end Go.Proofs.Ytjgdeijodjihlaa
