/- The walk of WalNeeds. -/
import Derived.Test.YtjcbmlpfpcpakaaProg
import Derived.Test.YtjcbmlpfpcpakaaBv
namespace Go.Proofs.Ytjcbmlpfpcpakaa
open Go.RowKit
set_option linter.unusedVariables false
def needI (n : Int) : Int := if n < 1 then 1 else (n - 1) / 57 + 1
theorem need_calls (n : Int) (b : -9223372036854775808 ≤ n ∧ n ≤ 9223372036854775807) (w : World) : Calls Try.prog 21 #[.int .i64 n] w fun e w' =>
    e = .returned (.int .i64 (needI n)) ∧ w = w' := by
  obtain ⟨b0, b1⟩ := b
  by_cases h : n < 1
  · have hr : Hid (needI n = 1) := if_pos h
    go_enter Try.func21, Try.ntmps21
    go_wp2_with fail
    go_ret
    exact ⟨by rw [hr.out]; rfl, rfl⟩
  · have hr : Hid (needI n = (n - 1) / 57 + 1) := if_neg h
    go_enter Try.func21, Try.ntmps21
    go_wp2_with fail
    go_ret
    exact ⟨by rw [hr.out]; rfl, rfl⟩
theorem ref_need_calls (n : Int) (b : -9223372036854775808 ≤ n ∧ n ≤ 9223372036854775807) (w : World) : Calls Try.prog 22 #[.int .i64 n] w fun e w' =>
    e = .returned (.int .i64 (needI n)) ∧ w = w' := by
  obtain ⟨b0, b1⟩ := b
  by_cases h : n ≤ 57
  · have hr : Hid (needI n = 1) := by show _ = _; unfold needI; split <;> omega
    go_enter Try.func22, Try.ntmps22
    go_wp2_with fail
    go_ret
    exact ⟨by rw [hr.out]; rfl, rfl⟩
  · by_cases h2 : 0 < n % 57
    · have hr : Hid (needI n = n / 57 + 1) := by show _ = _; unfold needI; split <;> omega
      go_enter Try.func22, Try.ntmps22
      go_wp2_with fail
      go_ret
      exact ⟨by rw [hr.out]; rfl, rfl⟩
    · have hr : Hid (needI n = n / 57) := by show _ = _; unfold needI; split <;> omega
      go_enter Try.func22, Try.ntmps22
      go_wp2_with fail
      go_ret
      exact ⟨by rw [hr.out]; rfl, rfl⟩
theorem needs_walk (n : Int) (b : -9223372036854775808 ≤ n ∧ n ≤ 9223372036854775807) (w : World) : Calls Try.prog 3 #[.int .i64 n] w fun e w' =>
    e = .returned (.bool true) ∧ Below w.heap.size w w' := by
  go_enter Try.func3, Try.ntmps3
  go_wp2_with fail
  refine (need_calls n b _).mono ?_; rintro e w' ⟨rfl, rfl⟩
  go_wp2_with fail
  refine (ref_need_calls n b _).mono ?_; rintro e w' ⟨rfl, rfl⟩
  go_wp2_with fail
  go_ret
  exact ⟨by simp, Below.refl _ _⟩
end Go.Proofs.Ytjcbmlpfpcpakaa
