/- The walks of layer 2 (seal): the document's product and its steps. -/
import Derived.Test.YtbamkkbdcodafaaP2c
namespace Go.Proofs.Ytbamkkbdcodafaa
open Go.RowKit
set_option linter.unusedVariables false

theorem times_calls (a b : BitVec 32) (w : World) : Calls Try.prog 46 #[c32 a, c32 b] w fun e w' => e = .returned (c32 (tmsN 32 0#32 a b)) ∧ w = w' := by
  obtain ⟨r, hr⟩ : ∃ r, tmsN 32 0#32 a b = r := ⟨_, rfl⟩
  have HR := Lib.hid hr
  rw [hr]
  have h0 : (0 : Int) = Bv 0#32 := by kernel_rfl
  have H0 := Lib.hid (show Value.int .u32 0 = c32 0#32 by rw [h0])
  clear hr h0
  go_enter Try.func46, Try.ntmps46
  go_wp2_with fail
  go_loop [0, 1, 5, 6] (fun xa xb xo j => ∃ (m : Nat) (p q o : BitVec 32), m ≤ 32 ∧ j = .int .i64 m ∧ xa = c32 p ∧ xb = c32 q ∧ xo = c32 o ∧ Hid (tmsN (32 - m) o p q = r)) (fun _ _ _ j => (32 - intOf j).toNat)
  case atStart => exact ⟨0, a, b, 0#32, by omega, rfl, rfl, rfl, H0.out, HR.out⟩
  case round =>
    obtain ⟨m, p, q, o, hm, rfl, rfl, rfl, rfl, hz⟩ := hrel
    by_cases hlm : m < 32
    · have hz' := hz.out
      rw [show 32 - m = (32 - (m + 1)) + 1 by omega, tmsN_succ] at hz'
      have HZ := Lib.hid hz'
      clear hz HR hz'
      cases h : (p >>> 31 == 1#32) with
      | true =>
        go_wp2_with fail
        refine (rstep_calls q w).mono ?_; rintro e w' ⟨rfl, rfl⟩
        go_wp2_with fail
        go_round
        case measure => simp only [intOf]; omega
        case rel => exact ⟨m + 1, _, _, _, by omega, by go_num, rfl, rfl, rfl, by have := HZ.out; rw [h] at this; exact this⟩
      | false =>
        go_wp2_with fail
        refine (rstep_calls q w).mono ?_; rintro e w' ⟨rfl, rfl⟩
        go_wp2_with fail
        go_round
        case measure => simp only [intOf]; omega
        case rel => exact ⟨m + 1, _, _, _, by omega, by go_num, rfl, rfl, rfl, by have := HZ.out; rw [h] at this; exact this⟩
    · obtain rfl : m = 32 := by omega
      have hz' := hz.out
      rw [Nat.sub_self, tmsN_zero] at hz'
      subst hz'
      clear hz HR H0
      go_wp2_with fail
      go_ret
      exact ⟨rfl, rfl⟩
theorem Bv_pow8 : (8388608 : Int) = Bv (stpN 8 one32) := by rw [pow8]; kernel_rfl
theorem steps_calls (v : BitVec 32) (n : Int) (hn : -9223372036854775808 ≤ n ∧ n ≤ 9223372036854775807) (w : World) : Calls Try.prog 38 #[c32 v, .int .i64 n] w fun e w' => e = .returned (c32 (stn v n)) ∧ w = w' := by
  obtain ⟨r, hr⟩ : ∃ r, stn v n = r := ⟨_, rfl⟩
  have HR := Lib.hid hr
  rw [hr]
  have h0 := Lib.hid (show Value.int .u32 8388608 = c32 (stpN 8 one32) by rw [Bv_pow8])
  clear hr
  go_enter Try.func38, Try.ntmps38
  go_wp2_with fail
  go_loop [0, 1, 5] (fun xv xn xp => ∃ (K : Nat) (m : Int) (u : BitVec 32), m ≤ 9223372036854775807 ∧ -9223372036854775808 ≤ m ∧ xn = .int .i64 m ∧ xv = c32 u ∧ xp = c32 (stpN K one32) ∧ Hid (stpN (K * m.toNat) u = r)) (fun _ xn _ => (intOf xn).toNat)
  case atStart => exact ⟨8, n, v, hn.2, hn.1, rfl, rfl, h0.out, by have := HR.out; rw [stn_eq] at this; exact this⟩
  case round =>
    clear HR h0 hn
    obtain ⟨K, m, u, hm, hm0, rfl, rfl, rfl, hz⟩ := hrel
    by_cases hpos : 0 < m
    · obtain ⟨k, rfl⟩ : ∃ k : Nat, m = (k : Int) := ⟨m.toNat, by omega⟩
      have hp2 : tmsN 32 0#32 (stpN K one32) (stpN K one32) = stpN (2 * K) one32 := by rw [tms_pow, ← stpN_add]; congr 1; omega
      have hu : tmsN 32 0#32 u (stpN K one32) = stpN K u := tms_pow K u
      have HP := Lib.hid hp2
      have HU := Lib.hid hu
      have T1 := Lib.hid (times_calls u (stpN K one32) w)
      have T2 := Lib.hid (times_calls (stpN K one32) (stpN K one32) w)
      rw [hu] at T1
      rw [hp2] at T2
      have hz' := hz.out
      rw [Int.toNat_natCast] at hz'
      clear hp2 hu hz
      have hk2 := Lib.hid (show (k : Int) / 2 = ((k / 2 : Nat) : Int) by omega)
      rcases Nat.mod_two_eq_zero_or_one k with h | h
      · have hz2 := Lib.hid (show stpN (2 * K * (k / 2)) u = r by rw [← hz']; congr 1; rw [Nat.mul_comm 2 K, Nat.mul_assoc]; congr 1; omega)
        have t1 : (k : Int).tmod 2 = 0 := by rw [Int.tmod_eq_emod_of_nonneg (by omega)]; omega
        clear hz'
        go_wp2_with (first | (go_at_call 46; refine T2.out.mono ?_; clear T2; rintro e w' ⟨rfl, rfl⟩) | fail)
        go_round
        case measure => simp only [intOf]; omega
        case rel => exact ⟨2 * K, ((k / 2 : Nat) : Int), u, by omega, by omega, by rw [← hk2.out], rfl, rfl, by rw [Int.toNat_natCast]; exact hz2⟩
      · have hz2 := Lib.hid (show stpN (2 * K * (k / 2)) (stpN K u) = r by rw [← hz', ← stpN_add]; congr 1; rw [Nat.mul_comm 2 K, Nat.mul_assoc, show K + K * (2 * (k / 2)) = K * (1 + 2 * (k / 2)) by rw [Nat.mul_add, Nat.mul_one]]; congr 1; omega)
        have t1 : (k : Int).tmod 2 = 1 := by rw [Int.tmod_eq_emod_of_nonneg (by omega)]; omega
        clear hz'
        go_wp2_with (first
          | (go_at_call 46; refine T1.out.mono ?_; clear T1; rintro e w' ⟨rfl, rfl⟩)
          | (go_at_call 46; refine T2.out.mono ?_; clear T2; rintro e w' ⟨rfl, rfl⟩) | fail)
        go_round
        case measure => simp only [intOf]; omega
        case rel => exact ⟨2 * K, ((k / 2 : Nat) : Int), stpN K u, by omega, by omega, by rw [← hk2.out], rfl, rfl, by rw [Int.toNat_natCast]; exact hz2⟩
    · have hz' := hz.out
      rw [show m.toNat = 0 by omega, Nat.mul_zero, stpN_zero] at hz'
      subst hz'
      have t1 : decide (0 < m) = false := decide_eq_false hpos
      clear hz
      go_wp2_with fail
      go_ret
      exact ⟨rfl, rfl⟩
end Go.Proofs.Ytbamkkbdcodafaa
