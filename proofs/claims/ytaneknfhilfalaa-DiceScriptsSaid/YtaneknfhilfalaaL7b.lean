/- The walk of DiceJumps. -/
import Derived.Test.YtaneknfhilfalaaL7a
namespace Go.Proofs.Ytaneknfhilfalaa
open Go.RowKit
set_option linter.unusedVariables false

theorem stride_one : stride * 0xF1DE83E19937733D#64 = 1#64 := by decide +kernel
theorem steps_on (s n : BitVec 64) : stepsOf s (s + n * stride) = n := by
  unfold stepsOf
  rw [show s + n * stride - s = n * stride by rw [BitVec.add_comm, BitVec.add_sub_cancel], BitVec.mul_assoc, stride_one, BitVec.mul_one]
theorem steps_back (s n : BitVec 64) : stepsOf (s + n * stride) s = -n := by
  unfold stepsOf
  rw [show s - (s + n * stride) = (-n) * stride by
    rw [BitVec.neg_mul, BitVec.sub_eq_add_neg, BitVec.neg_add, BitVec.sub_eq_add_neg, ← BitVec.add_assoc, BitVec.add_right_neg, BitVec.zero_add], BitVec.mul_assoc, stride_one, BitVec.mul_one]
theorem jump_two (s a b : BitVec 64) : s + a * stride + b * stride = s + (a + b) * stride := by
  rw [BitVec.add_mul, BitVec.add_assoc]
theorem jump_next (s a : BitVec 64) : s + a * stride + stride = s + (a + 1#64) * stride := by
  rw [BitVec.add_mul, BitVec.one_mul, BitVec.add_assoc]
theorem jumps_walk (s far more : BitVec 64) (few : Int) (b0 : -9223372036854775808 ≤ few ∧ few ≤ 9223372036854775807) (w : World) :
    Calls Try.prog 7 #[.int .u64 (Bv s), .int .u64 (Bv far), .int .u64 (Bv more), .int .i64 few] w fun e w' => e = .returned (.bool true) ∧ Below w.heap.size w w' := by
  obtain ⟨l0, l1⟩ := b0
  obtain ⟨F, hF⟩ := Bv_of (n := 64) (few % 200) (Int.emod_nonneg _ (by omega)) (by have := Int.emod_lt_of_pos few (show (0 : Int) < 200 by omega); omega)
  have hf : Bv F ≤ 199 := by rw [← hF]; have := Int.emod_lt_of_pos few (show (0 : Int) < 200 by omega); omega
  have hf0 := Bv_nonneg F
  have HF := Lib.hid hF
  clear hF
  have h1 := steps_on s
  have h2 := steps_back s
  have h3 := jump_two s
  go_enter Try.func7, Try.ntmps7
  go_wp2_with (first
    | (go_at_call 18; refine (awake_calls _).mono ?_; rintro e w' ⟨rfl, sa, rfl⟩)
    | (go_at_call 17; refine (steps_calls _ _ _).mono ?_; rintro e w' ⟨rfl, rfl⟩)
    | (go_at_call 19; refine (new_calls _ _).mono ?_; rintro e w' ⟨rfl, rfl⟩)
    | (go_at_call 28; refine (jump_calls _ _ _ _ (by repeat (first | (refine Die.new' ?_; simp; done) | apply Die.alloc))).mono ?_; rintro e w' ⟨rfl, rfl⟩)
    | (go_at_call 22; refine (state_calls _ _ _ (by repeat (first | (refine Die.new' ?_; simp; done) | apply Die.alloc))).mono ?_; rintro e w' ⟨rfl, rfl⟩)
    | (go_at_call 24; refine (round_calls _ _ l0 l1 (by omega) (by omega) _).mono ?_; rintro e w' ⟨rfl, rfl⟩; rw [HF.out]))
  clear h2 h3
  obtain ⟨W1, hW1⟩ : ∃ W1, W1 = (((w.alloc (.cells #[.int .u64 (Bv sa)] 69)).alloc (.cells #[.int .u64 (Bv (s + (far + more) * stride))] 69)).alloc (.cells #[.int .u64 (Bv (s + (far + more) * stride))] 69)) := ⟨_, rfl⟩
  have hz : w.heap.size + 1 + 1 + 1 = W1.heap.size := by rw [hW1]; simp
  have hb : Below w.heap.size w W1 := by rw [hW1]; repeat (first | exact Below.refl _ _ | apply below_alloc)
  rw [← hW1, hz]
  clear hW1
  have HB := Lib.hid hb
  clear hz hb
  go_loopw [14] (fun i wr => ∃ k : Nat, (k : Int) ≤ Bv F ∧ i = .int .i64 k ∧ wr = (W1.alloc (.cells #[.int .u64 (Bv (s + BitVec.ofNat 64 k * stride))] 69)).alloc (.cells #[.int .u64 (Bv s)] 69)) (fun i _ => (Bv F - intOf i).toNat)
  case atStart => exact ⟨0, by simpa using hf0, rfl, by simp⟩
  case round =>
    obtain ⟨k, hk, rfl, rfl⟩ := hrel
    by_cases hlt : (k : Int) < Bv F
    · have hn := jump_next s (BitVec.ofNat 64 k)
      go_wp2_with (go_at_call 20; refine (next_calls _ _ _ (by repeat (first | (refine Die.new' ?_; simp; done) | apply Die.alloc))).mono ?_; rintro e w' ⟨rfl, rfl⟩)
      go_roundw
      case measure => simp only [intOf]; omega
      case rel => exact ⟨k + 1, by omega, by go_num, by simp [BitVec.ofNat_add]⟩
    · have hk' : BitVec.ofNat 64 k = F := by
        have e : (k : Int) = Bv F := by omega
        rw [Bv_cast] at e
        have e' : k = F.toNat := by omega
        rw [e']; simp
      rw [hk']
      clear hk'
      have hn := jump_next s F
      go_wp2_with (first
        | (go_at_call 28; refine (jump_calls _ _ _ _ (by repeat (first | (refine Die.new' ?_; simp; done) | apply Die.alloc))).mono ?_; rintro e w' ⟨rfl, rfl⟩)
        | (go_at_call 20; refine (next_calls _ _ _ (by repeat (first | (refine Die.new' ?_; simp; done) | apply Die.alloc))).mono ?_; rintro e w' ⟨rfl, rfl⟩)
        | (go_at_call 22; refine (state_calls _ _ _ (by repeat (first | (refine Die.new' ?_; simp; done) | apply Die.alloc))).mono ?_; rintro e w' ⟨rfl, rfl⟩)
        | (go_at_call 17; refine (steps_calls _ _ _).mono ?_; rintro e w' ⟨rfl, rfl⟩))
      go_ret
      exact ⟨rfl, below_trans HB.out (by repeat (first | exact Below.refl _ _ | apply below_alloc))⟩
end Go.Proofs.Ytaneknfhilfalaa
