/- The walks of layer 7's functions over numbers alone: what each computes, in words of bits. -/
import Derived.Test.YtaneknfhilfalaaProg
import Derived.Test.YtaneknfhilfalaaBv
import Derived.Deep.LoopGhost
import Derived.Lib.Hide
namespace Go.Proofs.Ytaneknfhilfalaa
open Go.RowKit
set_option linter.unusedVariables false

def mix (x : BitVec 64) : BitVec 64 :=
  let a := (x ^^^ x >>> 30) * 0xBF58476D1CE4E5B9#64
  let b := (a ^^^ a >>> 27) * 0x94D049BB133111EB#64
  b ^^^ b >>> 31
def unmix (x : BitVec 64) : BitVec 64 :=
  let a := (x ^^^ (x >>> 31 ^^^ x >>> 62)) * 0x319642B2D24D8EC3#64
  let b := (a ^^^ (a >>> 27 ^^^ a >>> 54)) * 0x96DE1B173F119089#64
  b ^^^ b >>> 30 ^^^ b >>> 60
def stepsOf (x y : BitVec 64) : BitVec 64 := (y - x) * 0xF1DE83E19937733D#64
theorem mix_calls (x : BitVec 64) (w : World) : Calls Try.prog 15 #[.int .u64 (Bv x)] w fun e w' => e = .returned (.int .u64 (Bv (mix x))) ∧ w = w' := by
  have h0 := Bv_nonneg x
  go_enter Try.func15, Try.ntmps15
  go_wp2_with fail
  go_ret
  exact ⟨rfl, rfl⟩
theorem mix'_calls (x : BitVec 64) (w : World) : Calls Try.prog 12 #[.int .u64 (Bv x)] w fun e w' => e = .returned (.int .u64 (Bv (mix x))) ∧ w = w' := by
  have h0 := Bv_nonneg x
  go_enter Try.func12, Try.ntmps12
  go_wp2_with fail
  go_ret
  exact ⟨rfl, rfl⟩
theorem unmix_calls (x : BitVec 64) (w : World) : Calls Try.prog 16 #[.int .u64 (Bv x)] w fun e w' => e = .returned (.int .u64 (Bv (unmix x))) ∧ w = w' := by
  have h0 := Bv_nonneg x
  go_enter Try.func16, Try.ntmps16
  go_wp2_with fail
  go_ret
  exact ⟨rfl, rfl⟩
theorem steps_calls (x y : BitVec 64) (w : World) : Calls Try.prog 17 #[.int .u64 (Bv x), .int .u64 (Bv y)] w fun e w' => e = .returned (.int .u64 (Bv (stepsOf x y))) ∧ w = w' := by
  have h0 := Bv_nonneg x
  go_enter Try.func17, Try.ntmps17
  go_wp2_with fail
  go_ret
  exact ⟨rfl, rfl⟩
/-- a step of 'unshift' at bit b -/
def unshStep (y : BitVec 64) (by_ b : Nat) (x : BitVec 64) : BitVec 64 :=
  x ||| ((if b + by_ < 64 then (y >>> b &&& 1#64) ^^^ (x >>> (b + by_) &&& 1#64) else y >>> b &&& 1#64) <<< b)
def unsh (y : BitVec 64) (by_ : Nat) : Nat → BitVec 64 → BitVec 64
  | 0, x => x
  | b + 1, x => unsh y by_ b (unshStep y by_ b x)
theorem unsh_zero (y : BitVec 64) (d : Nat) (x : BitVec 64) : unsh y d 0 x = x := rfl
theorem unsh_succ (y : BitVec 64) (d b : Nat) (x : BitVec 64) : unsh y d (b + 1) x = unsh y d b (unshStep y d b x) := rfl
attribute [irreducible] unsh
theorem unshift_calls (y : BitVec 64) (d : Nat) (hd : d ≤ 64) (w : World) : Calls Try.prog 37 #[.int .u64 (Bv y), .int .i64 d] w fun e w' => e = .returned (.int .u64 (Bv (unsh y d 64 0#64))) ∧ w = w' := by
  obtain ⟨r, hr⟩ : ∃ r, unsh y d 64 0#64 = r := ⟨_, rfl⟩
  rw [hr]
  have Hr := Lib.hid hr
  clear hr
  have h0 := Bv_nonneg y
  go_enter Try.func37, Try.ntmps37
  go_wp2_with fail
  go_loop [5, 6] (fun x i => ∃ (j : Int) (v : BitVec 64), -1 ≤ j ∧ j ≤ 63 ∧ i = .int .i64 j ∧ x = .int .u64 (Bv v) ∧ Hid (unsh y d (j + 1).toNat v = r)) (fun _ i => (intOf i + 1).toNat)
  case atStart => exact ⟨63, 0#64, by omega, by omega, rfl, by simp [Bv], Hr.out⟩
  case round =>
    clear Hr
    obtain ⟨j, v, hj0, hj1, rfl, rfl, hu⟩ := hrel
    by_cases h : 0 ≤ j
    · obtain ⟨b, rfl⟩ := Int.eq_ofNat_of_zero_le h
      go_wp2_with fail
      all_goals
        go_round
        case measure => simp only [intOf]; omega
        case rel =>
          refine ⟨(b : Int) - 1, _, by omega, by omega, rfl, rfl, ?_⟩
          have hu' := hu.out
          show unsh y d _ _ = _
          rw [show ((b : Int) + 1).toNat = b + 1 by omega, unsh_succ] at hu'
          rw [show ((b : Int) - 1 + 1).toNat = b by omega, ← hu', unshStep]
          first | rw [if_pos (by omega)] | rw [if_neg (by omega)]
    · obtain rfl : j = -1 := by omega
      go_wp2_with fail
      go_ret
      have hu' := hu.out
      rw [show ((-1 : Int) + 1).toNat = 0 by omega, unsh_zero] at hu'
      exact ⟨by rw [← hu']; rfl, rfl⟩
/-- a step of 'inverse' at bit b -/
def invStep (a : BitVec 64) (b : Nat) (x : BitVec 64) : BitVec 64 :=
  if ((a * x) >>> b &&& 1#64) = (if b = 0 then 1#64 else 0#64) then x else x ||| 1#64 <<< b
def inv (a : BitVec 64) : Nat → BitVec 64 → BitVec 64
  | 0, x => x
  | k + 1, x => inv a k (invStep a (63 - k) x)
theorem inv_zero (a x : BitVec 64) : inv a 0 x = x := rfl
theorem inv_succ (a x : BitVec 64) (k : Nat) : inv a (k + 1) x = inv a k (invStep a (63 - k) x) := rfl
attribute [irreducible] inv
theorem inverse_calls (a : BitVec 64) (w : World) : Calls Try.prog 38 #[.int .u64 (Bv a)] w fun e w' => e = .returned (.int .u64 (Bv (inv a 64 0#64))) ∧ w = w' := by
  obtain ⟨r, hr⟩ : ∃ r, inv a 64 0#64 = r := ⟨_, rfl⟩
  rw [hr]
  have Hr := Lib.hid hr
  clear hr
  have h0 := Bv_nonneg a
  go_enter Try.func38, Try.ntmps38
  go_wp2_with fail
  go_loop [3, 4] (fun x i => ∃ (j : Nat) (v : BitVec 64), j ≤ 64 ∧ i = .int .i64 j ∧ x = .int .u64 (Bv v) ∧ Hid (inv a (64 - j) v = r)) (fun _ i => (64 - intOf i).toNat)
  case atStart => exact ⟨0, 0#64, by omega, rfl, by simp [Bv], Hr.out⟩
  case round =>
    clear Hr
    obtain ⟨j, v, hj, rfl, rfl, hu⟩ := hrel
    by_cases h : j < 64
    · have hs : Hid (inv a (64 - (j + 1)) (invStep a j v) = r) := by
        have := hu.out; rw [show 64 - j = (64 - (j + 1)) + 1 by omega, inv_succ, show 63 - (64 - (j + 1)) = j by omega] at this; exact this
      clear hu
      by_cases h0 : j = 0
      · subst h0
        go_wp2_with fail
        all_goals
          rename_i ht
          go_round
          case measure => simp only [intOf]; omega
          case rel =>
            refine ⟨1, _, by omega, rfl, rfl, ?_⟩
            have hs' := hs.out
            simp only [invStep, BitVec.ushiftRight_zero, BitVec.shiftLeft_zero, if_true] at hs'
            first | (rw [if_neg (by simpa using ht)] at hs'; exact hs') | (rw [if_pos (by simpa using ht)] at hs'; exact hs')
      · have hz : ((j : Int) == 0) = false := by simp; omega
        go_wp2_with fail
        all_goals
          rename_i ht
          go_round
          case measure => simp only [intOf]; omega
          case rel =>
            refine ⟨j + 1, _, by omega, by go_num, rfl, ?_⟩
            have hs' := hs.out
            simp only [invStep, if_neg h0] at hs'
            first | (rw [if_neg (by simpa using ht)] at hs'; exact hs') | (rw [if_pos (by simpa using ht)] at hs'; exact hs')
    · obtain rfl : j = 64 := by omega
      go_wp2_with fail
      go_ret
      exact ⟨by have := hu.out; rw [Nat.sub_self, inv_zero] at this; rw [← this]; rfl, rfl⟩
attribute [irreducible] mix unmix stepsOf
end Go.Proofs.Ytaneknfhilfalaa
