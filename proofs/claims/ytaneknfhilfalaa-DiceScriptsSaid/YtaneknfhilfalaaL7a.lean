/- The walks of DiceOneToOne and of what tells that the dice are awake. -/
import Derived.Test.YtaneknfhilfalaaD7c
namespace Go.Proofs.Ytaneknfhilfalaa
open Go.RowKit
set_option linter.unusedVariables false
attribute [go_sem] unmix_mix mix_unmix

theorem awake_calls (w : World) : Calls Try.prog 18 #[] w fun e w' => e = .returned (.bool true) ∧ ∃ s : BitVec 64, w.alloc (.cells #[.int .u64 (Bv s)] 69) = w' := by
  have h1 : mix stride = 16294208416658607535#64 := by decide +kernel
  have h2 : (roll stride 6#64).1 = 2#64 := by rw [roll_eq]; decide +kernel
  have h3 : (unmix 16294208416658607535#64 == 11400714819323198485#64) = true := by decide +kernel
  go_enter Try.func18, Try.ntmps18
  go_wp2_with fail
  refine (new_calls 0#64 _).mono ?_; rintro e w' ⟨rfl, rfl⟩
  go_wp2_with fail
  refine (next_calls _ 0#64 _ Die.new).mono ?_; rintro e w' ⟨rfl, rfl⟩
  go_wp2_with fail
  refine (roll_calls _ _ _ (by omega) (by omega) _ Die.new).mono ?_; rintro e w' ⟨rfl, rfl⟩
  go_wp2_with fail
  refine (unmix_calls _ _).mono ?_; rintro e w' ⟨rfl, rfl⟩
  go_wp2_with fail
  go_ret
  exact ⟨rfl, _, rfl⟩
theorem mix_inj (x y : BitVec 64) : (mix x == mix y) = (x == y) := by
  rw [Bool.eq_iff_iff, beq_iff_eq, beq_iff_eq]
  exact ⟨fun h => by rw [← unmix_mix x, h, unmix_mix], fun h => by rw [h]⟩
theorem oneToOne_walk (x y : BitVec 64) (w : World) : Calls Try.prog 4 #[.int .u64 (Bv x), .int .u64 (Bv y)] w fun e w' => e = .returned (.bool true) ∧ Below w.heap.size w w' := by
  have hi := mix_inj x y
  have hs : ∀ z : BitVec 64, z + 11400714819323198485#64 = z + stride := fun z => by rw [← stride_eq]
  have hb : x + stride - stride = x := BitVec.add_sub_cancel ..
  go_enter Try.func4, Try.ntmps4
  go_wp2_with (first
    | (go_at_call 18; refine (awake_calls _).mono ?_; rintro e w' ⟨rfl, s, rfl⟩)
    | (go_at_call 15; refine (mix_calls _ _).mono ?_; rintro e w' ⟨rfl, rfl⟩)
    | (go_at_call 16; refine (unmix_calls _ _).mono ?_; rintro e w' ⟨rfl, rfl⟩)
    | (go_at_call 19; refine (new_calls _ _).mono ?_; rintro e w' ⟨rfl, rfl⟩)
    | (go_at_call 20; refine (next_calls _ _ _ (by repeat (first | (refine Die.new' ?_; simp; done) | apply Die.alloc))).mono ?_; rintro e w' ⟨rfl, rfl⟩)
    | (go_at_call 21; refine (before_calls _ _).mono ?_; rintro e w' ⟨rfl, rfl⟩)
    | (go_at_call 22; refine (state_calls _ _ _ (by repeat (first | (refine Die.new' ?_; simp; done) | apply Die.alloc))).mono ?_; rintro e w' ⟨rfl, rfl⟩))
  go_ret
  exact ⟨rfl, by repeat (first | exact Below.refl _ _ | apply below_alloc)⟩
end Go.Proofs.Ytaneknfhilfalaa
