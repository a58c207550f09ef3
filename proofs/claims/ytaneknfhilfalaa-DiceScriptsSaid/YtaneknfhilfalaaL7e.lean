/- DiceReals: the walk of the law. -/
import Derived.Test.YtaneknfhilfalaaL7a
import Derived.Test.YtaneknfhilfalaaFly
namespace Go.Proofs.Ytaneknfhilfalaa
open Go.RowKit
set_option linter.unusedVariables false

theorem shr11_lt (x : BitVec 64) : (x >>> 11).toNat < 9007199254740992 := by
  have := x.isLt
  rw [BitVec.toNat_ushiftRight, Nat.shiftRight_eq_div_pow]
  omega
theorem real_calls (b : Nat) (s : BitVec 64) (w : World) (h : Die w b s) : Calls Try.prog 27 #[.pointer (some ⟨b, 0, none⟩)] w fun e w' =>
    e = .returned (.float .f64 (realW (mix (s + stride) >>> 11).toNat)) ∧ w.setCell ⟨b, 0, none⟩ (.int .u64 (Bv (s + stride))) = w' := by
  have H := Lib.hid (next_calls b s w h)
  obtain ⟨y, hy⟩ : ∃ y, mix (s + stride) >>> 11 = y := ⟨_, rfl⟩
  have hlt := shr11_lt (mix (s + stride))
  rw [hy] at hlt
  have hcv : ∀ w, (convert 22 37 (.int .u64 (Bv y))).run Try.prog w = .ok (.float .f64 (wholeW y.toNat)) w := fun w => by
    rw [run_convert_int_float (P := Try.prog) w 22 37 .u64 .f64 (Bv y) (by kernel_rfl) (by kernel_rfl)]
    rw [show floatOfInt .f64 (Bv y) = wholeW y.toNat from whole_ofInt hlt]
  have hm := fun w => run_float_arith (P := Try.prog) w .mul 37 .f64 _ _ _ (real_mul hlt)
  rw [hy]
  clear h hlt
  go_enter Try.func27, Try.ntmps27
  go_wp2_with (first
    | (go_at_call 20; refine H.out.mono ?_; rintro e w' ⟨rfl, rfl⟩)
    | fail)
  go_ret
  exact ⟨rfl, rfl⟩
theorem reals_walk (v : BitVec 64) (w : World) : Calls Try.prog 6 #[.int .u64 (Bv v)] w fun e w' => e = .returned (.bool true) ∧ Below w.heap.size w w' := by
  obtain ⟨y, hy⟩ : ∃ y, v >>> 11 = y := ⟨_, rfl⟩
  have hlt := shr11_lt v
  rw [hy] at hlt
  have hcv : ∀ w, (convert 22 37 (.int .u64 (Bv y))).run Try.prog w = .ok (.float .f64 (wholeW y.toNat)) w := fun w => by
    rw [run_convert_int_float (P := Try.prog) w 22 37 .u64 .f64 (Bv y) (by kernel_rfl) (by kernel_rfl)]
    rw [show floatOfInt .f64 (Bv y) = wholeW y.toNat from whole_ofInt hlt]
  have hci : ∀ w, (convert 37 22 (.float .f64 (wholeW y.toNat))).run Try.prog w = .ok (.int .u64 (Bv y)) w := fun w =>
    run_convert_float_int (P := Try.prog) w 37 22 .f64 .u64 (wholeW y.toNat) (Bv y) (by kernel_rfl) (by kernel_rfl) (whole_int hlt)
  have hm := fun w => run_float_arith (P := Try.prog) w .mul 37 .f64 _ _ _ (real_whole hlt)
  have hg := real_geq hlt
  have hl := real_lt hlt
  have he := whole_eq hlt
  have hs : unmix v - stride + stride = unmix v := BitVec.sub_add_cancel ..
  have hyy : (y == y) = true := by simp
  have hun : (unmix v == unmix v) = true := by simp
  have HR := Lib.hid (fun b s w h => real_calls b s w h)
  clear hlt
  go_enter Try.func6, Try.ntmps6
  go_wp2_with (first
    | (go_at_call 18; refine (awake_calls _).mono ?_; rintro e w' ⟨rfl, s, rfl⟩)
    | (go_at_call 21; refine (before_calls _ _).mono ?_; rintro e w' ⟨rfl, rfl⟩)
    | (go_at_call 27; refine (HR.out _ (unmix v - stride) _ (by refine Die.new' ?_; simp)).mono ?_; rintro e w' ⟨rfl, rfl⟩; rw [hs, mix_unmix, hy])
    | (go_at_call 22; refine (state_calls _ (unmix v) _ (by refine Die.new' ?_; simp)).mono ?_; rintro e w' ⟨rfl, rfl⟩)
    | (go_at_call 16; refine (unmix_calls _ _).mono ?_; rintro e w' ⟨rfl, rfl⟩)
    | fail)
  go_ret
  exact ⟨rfl, by repeat (first | exact Below.refl _ _ | apply below_alloc)⟩
end Go.Proofs.Ytaneknfhilfalaa
