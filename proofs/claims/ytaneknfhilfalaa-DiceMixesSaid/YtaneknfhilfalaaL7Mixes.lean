/- The walk of DiceMixes: the stirring, the unstirring and the strides of the program are those of the document. -/
import Derived.Test.YtaneknfhilfalaaD7p
namespace Go.Proofs.Ytaneknfhilfalaa
open Go.RowKit
theorem mixes_walk (x y : BitVec 64) (w : World) : Calls Try.prog 3 #[.int .u64 (Bv x), .int .u64 (Bv y)] w fun e w' => e = .returned (.bool true) ∧ Below w.heap.size w w' := by
  go_enter Try.func3, Try.ntmps3
  go_wp2_with fail
  refine (mix'_calls _ _).mono ?_; rintro e w' ⟨rfl, rfl⟩
  go_wp2_with fail
  refine (unmixr_calls _ _).mono ?_; rintro e w' ⟨rfl, rfl⟩
  go_wp2_with fail
  refine (stepsr_calls _ _ _).mono ?_; rintro e w' ⟨rfl, rfl⟩
  go_wp2_with fail
  refine (mix_calls _ _).mono ?_; rintro e w' ⟨rfl, rfl⟩
  go_wp2_with fail
  refine (unmix_calls _ _).mono ?_; rintro e w' ⟨rfl, rfl⟩
  go_wp2_with fail
  refine (steps_calls _ _ _).mono ?_; rintro e w' ⟨rfl, rfl⟩
  go_wp2_with fail
  go_ret
  exact ⟨rfl, Below.refl _ _⟩
end Go.Proofs.Ytaneknfhilfalaa
