/- Layer 8 (disk): refused images; the examples of the chapter. -/
import Derived.Test.YtjcbmlpfpcpakaaD8n
namespace Go.Proofs.Ytjcbmlpfpcpakaa
open Go.RowKit
set_option linter.unusedVariables false
set_option maxRecDepth 100000 in
theorem load_refused (a : Option Addr) (m c : Nat) (w : World) (hm : m ≤ maxLen) (h : m / 64 < 1 ∨ 65536 < m / 64 ∨ m ≠ m / 64 * 64) :
    Calls Try.prog 36 #[.slice a m c] w fun e w' => e = .returned (.tuple #[.pointer none, ci 82]) ∧ w = w' := by
  obtain ⟨n, hn⟩ : ∃ n, m / 64 = n := ⟨_, rfl⟩
  rw [hn] at h
  have hq : (m : Int) / 64 = (n : Int) := by omega
  have hm' : (m : Int) ≤ 9223372036854775807 := by unfold maxLen at hm; omega
  have hnn : (n : Int) * 64 ≤ m := by omega
  have hw : IntKind.i64.wrap ((n : Int) * 64) = (n : Int) * 64 := by rw [IntKind.wrap_i64]; omega
  clear hm
  by_cases h1 : n < 1
  · have hf1 : decide ((n : Int) < 1) = true := decide_eq_true (by omega)
    have hf1' : (n : Int) < 1 := by omega
    clear h
    go_enter Try.func36, Try.ntmps36
    go_wp2_with fail
    go_ret2
    exact ⟨rfl, rfl⟩
  · have hf1 : decide ((n : Int) < 1) = false := decide_eq_false (by omega)
    by_cases h2 : 65536 < n
    · have hf2 : decide (65536 < (n : Int)) = true := decide_eq_true (by omega)
      have hf2' : 65536 < (n : Int) := by omega
      clear h
      go_enter Try.func36, Try.ntmps36
      go_wp2_with fail
      go_ret2
      exact ⟨rfl, rfl⟩
    · have hf2 : decide (65536 < (n : Int)) = false := decide_eq_false (by omega)
      have h3 : m ≠ n * 64 := by omega
      have hf3 : ((m : Int) != (n : Int) * 64) = true := by simp; omega
      have hf3' : ¬ (m : Int) = (n : Int) * 64 := by omega
      clear h
      go_enter Try.func36, Try.ntmps36
      go_wp2_with fail
      go_ret2
      exact ⟨rfl, rfl⟩
def s1 : List (BitVec 8) := List.replicate 64 1#8
def Q2 : Dk := fuseD K1 1
def Q3 : Dk := writeD Q2 0 s1
def Q4 : Dk := fuseD Q3 (-1)
def Q5 : Dk := syncD Q4
theorem Q_eq : fuseD K1 1 = Q2 ∧ writeD Q2 0 s1 = Q3 ∧ fuseD Q3 (-1) = Q4 ∧ syncD Q4 = Q5 ∧ List.replicate 64 1#8 = s1 := ⟨rfl, rfl, rfl, rfl, rfl⟩
theorem Q_facts : powP Q2 = 0 ∧ powP Q3 = 80 ∧ powP Q4 = 0 ∧ powP Q5 = 0 ∧ Q2.n = 4 ∧ Q5.n = 4 ∧ Q2.R.length = 0 ∧ Q3.R.length = 1 ∧ Q5.R.length = 0 ∧ Q5.c0 = 1 ∧ Q5.c1 = 1 ∧ s1.length = 64 := by unfold Q5 Q4 Q3 Q2 s1 K1; decide +kernel
attribute [irreducible] Q2 Q3 Q4 Q5 s1
end Go.Proofs.Ytjcbmlpfpcpakaa
