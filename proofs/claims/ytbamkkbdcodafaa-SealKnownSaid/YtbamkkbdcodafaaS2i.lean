/- The walks of layer 2 (seal): the four bytes that lead to a sum. -/
import Derived.Test.YtbamkkbdcodafaaS2h
import Derived.Test.YtbamkkbdcodafaaP2b
namespace Go.Proofs.Ytbamkkbdcodafaa
open Go.RowKit
set_option linter.unusedVariables false

def unstN : Nat → BitVec 32 → BitVec 32
  | 0, v => v
  | k + 1, v => unstN k (unst v)
theorem unstN_zero (v : BitVec 32) : unstN 0 v = v := rfl
theorem unstN_succ (k : Nat) (v : BitVec 32) : unstN (k + 1) v = unstN k (unst v) := rfl
attribute [irreducible] unstN
def four8 (v : BitVec 32) : List (BitVec 8) := [v.setWidth 8, (v >>> 8).setWidth 8, (v >>> 16).setWidth 8, (v >>> 24).setWidth 8]
theorem four8_len (v : BitVec 32) : (four8 v).length = 4 := rfl
theorem V_four8 (v : BitVec 32) : #[.int .u8 (Bv (v.setWidth 8)), .int .u8 (Bv ((v >>> 8).setWidth 8)), .int .u8 (Bv ((v >>> 16).setWidth 8)), .int .u8 (Bv ((v >>> 24).setWidth 8))] = V cb (four8 v) := by unfold V; rfl
attribute [irreducible] four8
def tailw (a want : BitVec 32) : BitVec 32 := unstN 32 (~~~want) ^^^ ~~~a
theorem Try.size30 : (Try.prog.info? 30).map (·.size) = some 4 := by kernel_rfl
theorem tail_calls (a want : BitVec 32) (w : World) : Calls Try.prog 26 #[c32 a, c32 want] w fun e w' => e = .returned (.agg (V cb (four8 (tailw a want)))) ∧ ∃ A, w.alloc A = w' := by
  obtain ⟨r, hr⟩ : ∃ r, unstN 32 (~~~want) = r := ⟨_, rfl⟩
  have HR := Lib.hid hr
  clear hr
  go_enter Try.func26, Try.ntmps26
  go_wp2_with fail
  go_loop [5, 8] (fun v j => ∃ (m : Nat) (z : BitVec 32), m ≤ 32 ∧ j = .int .i64 m ∧ v = c32 z ∧ Hid (unstN (32 - m) z = r)) (fun _ j => (32 - intOf j).toNat)
  case atStart => exact ⟨0, _, by omega, rfl, rfl, HR.out⟩
  case round =>
    obtain ⟨m, z, hm, rfl, rfl, hz⟩ := hrel
    by_cases hlm : m < 32
    · have hz' : unstN (32 - (m + 1)) (unst z) = r := by have := hz.out; rw [show 32 - m = (32 - (m + 1)) + 1 by omega, unstN_succ] at this; exact this
      have HZ := Lib.hid hz'
      clear hz HR hz'
      cases h : (z >>> 31 == 1#32) with
      | true =>
        go_wp2_with fail
        go_round
        case measure => simp only [intOf]; omega
        case rel => exact ⟨m + 1, _, by omega, by go_num, rfl, by have := HZ.out; unfold unst at this; rw [h] at this; exact this⟩
      | false =>
        go_wp2_with fail
        go_round
        case measure => simp only [intOf]; omega
        case rel => exact ⟨m + 1, _, by omega, by go_num, rfl, by have := HZ.out; unfold unst at this; rw [h] at this; exact this⟩
    · obtain rfl : m = 32 := by omega
      have hz' := hz.out
      rw [Nat.sub_self, unstN_zero] at hz'
      subst hz'
      clear hz
      go_wp2_with fail
      have hv : #[.int .u8 (Bv (BitVec.setWidth 8 z ^^^ ~~~BitVec.setWidth 8 a)), .int .u8 (Bv (BitVec.setWidth 8 ((z ^^^ ~~~a) >>> 8))), .int .u8 (Bv (BitVec.setWidth 8 ((z ^^^ ~~~a) >>> 16))), .int .u8 (Bv (BitVec.setWidth 8 ((z ^^^ ~~~a) >>> 24)))] = V cb (four8 (z ^^^ ~~~a)) := by
        rw [← V_four8, BitVec.setWidth_xor, BitVec.setWidth_not (by omega)]
      rw [hv]
      refine bodyPost_ret (results_cell_row rfl _ _ w.heap.size 30 (V cb (four8 (z ^^^ ~~~a))) (0, 0) _ rfl (heap_alloc_last _ _) Try.underlying30 rfl (by rw [Try.size30, V_size, four8_len])) rfl ?_
      refine ⟨?_, _, rfl⟩
      unfold tailw
      rw [HR.out]
theorem runst_calls (v : BitVec 32) (w : World) : Calls Try.prog 39 #[c32 v] w fun e w' => e = .returned (c32 (unst v)) ∧ w = w' := unst_calls v w
theorem rtail_calls (a want : BitVec 32) (w : World) : Calls Try.prog 30 #[c32 a, c32 want] w fun e w' => e = .returned (.agg (V cb (four8 (tailw a want)))) ∧ ∃ A, w.alloc A = w' := by
  obtain ⟨r, hr⟩ : ∃ r, unstN 32 (~~~want) = r := ⟨_, rfl⟩
  have hw : want ^^^ 4294967295#32 = ~~~want := by rw [show (4294967295#32) = BitVec.allOnes 32 from rfl, BitVec.xor_allOnes]
  have HR := Lib.hid (show unstN 32 (want ^^^ 4294967295#32) = r by rw [hw]; exact hr)
  have HR0 := Lib.hid hr
  clear hr hw
  go_enter Try.func30, Try.ntmps30
  go_wp2_with fail
  go_loop [5, 6] (fun v j => ∃ (m : Nat) (z : BitVec 32), m ≤ 32 ∧ j = .int .i64 m ∧ v = c32 z ∧ Hid (unstN (32 - m) z = r)) (fun _ j => (32 - intOf j).toNat)
  case atStart => exact ⟨0, _, by omega, rfl, rfl, HR.out⟩
  case round =>
    obtain ⟨m, z, hm, rfl, rfl, hz⟩ := hrel
    by_cases hlm : m < 32
    · have hz' : unstN (32 - (m + 1)) (unst z) = r := by have := hz.out; rw [show 32 - m = (32 - (m + 1)) + 1 by omega, unstN_succ] at this; exact this
      have HZ := Lib.hid hz'
      clear hz HR hz'
      go_wp2_with fail
      refine (unst_calls z _).mono ?_; rintro e w' ⟨rfl, rfl⟩
      go_wp2_with fail
      go_round
      case measure => simp only [intOf]; omega
      case rel => exact ⟨m + 1, _, by omega, by go_num, rfl, HZ⟩
    · obtain rfl : m = 32 := by omega
      have hz' := hz.out
      rw [Nat.sub_self, unstN_zero] at hz'
      subst hz'
      clear hz
      go_wp2_with fail
      have hv : #[.int .u8 (Bv (BitVec.setWidth 8 z ^^^ BitVec.setWidth 8 a ^^^ 255#8)), .int .u8 (Bv (BitVec.setWidth 8 ((z ^^^ a ^^^ 4294967295#32) >>> 8))), .int .u8 (Bv (BitVec.setWidth 8 ((z ^^^ a ^^^ 4294967295#32) >>> 16))), .int .u8 (Bv (BitVec.setWidth 8 ((z ^^^ a ^^^ 4294967295#32) >>> 24)))] = V cb (four8 (z ^^^ a ^^^ 4294967295#32)) := by
        rw [← V_four8, BitVec.setWidth_xor, BitVec.setWidth_xor]
        rfl
      rw [hv]
      refine bodyPost_ret (results_cell_row rfl _ _ w.heap.size 30 (V cb (four8 (z ^^^ a ^^^ 4294967295#32))) (0, 0) _ rfl (heap_alloc_last _ _) Try.underlying30 rfl (by rw [Try.size30, V_size, four8_len])) rfl ?_
      refine ⟨?_, _, rfl⟩
      unfold tailw
      rw [HR0.out, BitVec.xor_assoc, show (4294967295#32) = BitVec.allOnes 32 from rfl, BitVec.xor_allOnes]
theorem stpN_unstN : ∀ (k : Nat) (v : BitVec 32), stpN k (unstN k v) = v
  | 0, v => by rw [stpN_zero, unstN_zero]
  | k + 1, v => by
    rw [unstN_succ, stpN_add k 1, stpN_unstN k, stpN_succ, stpN_zero, stp_unst]
theorem byte_bit (v : BitVec 32) (k i : Nat) : ((v >>> k).setWidth 8).getLsbD i = (decide (i < 8) && v.getLsbD (k + i)) := by
  rw [BitVec.getLsbD_setWidth, BitVec.getLsbD_ushiftRight]
theorem le_four8 (v : BitVec 32) : le (four8 v) = v := by
  unfold four8
  simp only [le]
  apply BitVec.eq_of_getLsbD_eq
  intro i hi
  have h0 : ∀ j, (v.setWidth 8).getLsbD j = (decide (j < 8) && v.getLsbD j) := fun j => by rw [BitVec.getLsbD_setWidth]
  simp only [BitVec.getLsbD_xor, BitVec.getLsbD_shiftLeft, BitVec.getLsbD_setWidth, h0, BitVec.getLsbD_zero, Bool.and_false, Bool.xor_false]
  rcases Nat.lt_or_ge i 8 with h1 | h1
  · simp [h1, hi]
  · rcases Nat.lt_or_ge i 16 with h2 | h2
    · simp [hi, show ¬ i < 8 by omega, show i - 8 < 8 by omega, show 8 + (i - 8) = i by omega, show i - 8 < 32 by omega]
    · rcases Nat.lt_or_ge i 24 with h3 | h3
      · simp [hi, show ¬ i < 8 by omega, show ¬ i - 8 < 8 by omega, show i - 8 - 8 < 8 by omega, show 16 + (i - 8 - 8) = i by omega, show i - 8 < 32 by omega, show i - 8 - 8 < 32 by omega]
      · simp [hi, show ¬ i < 8 by omega, show ¬ i - 8 < 8 by omega, show ¬ i - 8 - 8 < 8 by omega, show i - 8 - 8 - 8 < 8 by omega, show 24 + (i - 8 - 8 - 8) = i by omega, show i - 8 < 32 by omega, show i - 8 - 8 < 32 by omega, show i - 8 - 8 - 8 < 32 by omega]
/-- what the four bytes do -/
theorem forged (u want : BitVec 32) : ~~~ tkn u (four8 (tailw (~~~u) want)) = want := by
  rw [tkn_le _ _ (by rw [four8_len]; omega), four8_len, le_four8]
  unfold tailw
  rw [BitVec.not_not, BitVec.xor_comm u, xor_cancel, stpN_unstN, BitVec.not_not]
end Go.Proofs.Ytbamkkbdcodafaa
