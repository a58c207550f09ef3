/- Layer 8 (disk): refusals of writes, reads and syncs. -/
import Derived.Test.YtjcbmlpfpcpakaaD8d
namespace Go.Proofs.Ytjcbmlpfpcpakaa
open Go.RowKit
set_option linter.unusedVariables false
theorem powP_cases (d : Dk) : powP d = 0 ∨ powP d = 80 := by
  unfold powP
  split
  · exact Or.inr rfl
  · exact Or.inl rfl
section
variable {w : World} {B g sb : Nat} {rv : Value} {d : Dk}
set_option maxRecDepth 100000 in
theorem write_power (h : DB w B g sb rv d) (n : Int) (dv : Value) (hp : powP d = 80) : Calls Try.prog 27 #[.pointer (some ⟨g, 0, none⟩), ci n, dv] w fun e w' => e = .returned (ci 80) ∧ w = w' := by
  have H := Lib.hid (power_calls h)
  rw [hp] at H
  clear h hp
  go_enter Try.func27, Try.ntmps27
  go_wp2_with (first | (go_at_call 83; refine H.out.mono ?_; rintro e w1 ⟨rfl, rfl⟩) | fail)
  go_ret
  exact ⟨rfl, rfl⟩
set_option maxRecDepth 100000 in
theorem write_sector (h : DB w B g sb rv d) (n : Int) (dv : Value) (hp : powP d = 0) (hn : n < 0 ∨ (d.n : Int) ≤ n) : Calls Try.prog 27 #[.pointer (some ⟨g, 0, none⟩), ci n, dv] w fun e w' => e = .returned (ci 81) ∧ w = w' := by
  have H := Lib.hid (power_calls h)
  rw [hp] at H
  have c0 := h.cell0
  have hn2 : (d.n : Int) ≤ 65536 := by have := h.ok.n2; omega
  clear h hp
  by_cases h0 : n < 0
  · have hf1 : decide (n < 0) = true := decide_eq_true h0
    clear hn
    go_enter Try.func27, Try.ntmps27
    go_wp2_with (first | (go_at_call 83; refine H.out.mono ?_; rintro e w1 ⟨rfl, rfl⟩) | fail)
    go_ret
    exact ⟨rfl, rfl⟩
  · have hf1 : decide (n < 0) = false := decide_eq_false h0
    have h1 : (d.n : Int) ≤ n := by omega
    have hf2 : decide ((d.n : Int) ≤ n) = true := decide_eq_true h1
    clear hn
    go_enter Try.func27, Try.ntmps27
    go_wp2_with (first | (go_at_call 83; refine H.out.mono ?_; rintro e w1 ⟨rfl, rfl⟩) | fail)
    go_ret
    exact ⟨rfl, rfl⟩
set_option maxRecDepth 100000 in
theorem write_size (h : DB w B g sb rv d) (n : Nat) (a : Option Addr) (m c : Nat) (hp : powP d = 0) (hn : n < d.n) (hl : m ≠ 64) (hm : m ≤ maxLen) : Calls Try.prog 27 #[.pointer (some ⟨g, 0, none⟩), ci n, .slice a m c] w fun e w' => e = .returned (ci 82) ∧ w = w' := by
  have H := Lib.hid (power_calls h)
  rw [hp] at H
  have c0 := h.cell0
  have hn2 : (d.n : Int) ≤ 65536 := by have := h.ok.n2; omega
  have ha' : (n : Int) < d.n := by omega
  have hf1 : decide ((n : Int) < 0) = false := decide_eq_false (by omega)
  have hf2 : decide (d.n ≤ n) = false := decide_eq_false (by omega)
  have hl' : ¬ (m : Int) = 64 := by omega
  have hm' : (m : Int) ≤ 9223372036854775807 := by unfold maxLen at hm; omega
  have hb : (m != 64) = true := by simpa using hl
  clear h hp hm
  go_enter Try.func27, Try.ntmps27
  go_wp2_with (first | (go_at_call 83; refine H.out.mono ?_; rintro e w1 ⟨rfl, rfl⟩) | fail)
  go_ret
  exact ⟨rfl, rfl⟩
theorem read_power (h : DB w B g sb rv d) (n : Int) (hp : powP d = 80) : Calls Try.prog 33 #[.pointer (some ⟨g, 0, none⟩), ci n] w fun e w' => e = .returned (.tuple #[.slice none 0 0, ci 80]) ∧ w = w' := by
  have H := Lib.hid (power_calls h)
  rw [hp] at H
  clear h hp
  go_enter Try.func33, Try.ntmps33
  go_wp2_with (first | (go_at_call 83; refine H.out.mono ?_; rintro e w1 ⟨rfl, rfl⟩) | fail)
  go_ret2
  exact ⟨rfl, rfl⟩
theorem read_sector (h : DB w B g sb rv d) (n : Int) (hp : powP d = 0) (hn : n < 0 ∨ (d.n : Int) ≤ n) : Calls Try.prog 33 #[.pointer (some ⟨g, 0, none⟩), ci n] w fun e w' => e = .returned (.tuple #[.slice none 0 0, ci 81]) ∧ w = w' := by
  have H := Lib.hid (power_calls h)
  rw [hp] at H
  have c0 := h.cell0
  have hn2 : (d.n : Int) ≤ 65536 := by have := h.ok.n2; omega
  clear h hp
  by_cases h0 : n < 0
  · have hf1 : decide (n < 0) = true := decide_eq_true h0
    clear hn
    go_enter Try.func33, Try.ntmps33
    go_wp2_with (first | (go_at_call 83; refine H.out.mono ?_; rintro e w1 ⟨rfl, rfl⟩) | fail)
    go_ret2
    exact ⟨rfl, rfl⟩
  · have hf1 : decide (n < 0) = false := decide_eq_false h0
    have h1 : (d.n : Int) ≤ n := by omega
    have hf2 : decide ((d.n : Int) ≤ n) = true := decide_eq_true h1
    clear hn
    go_enter Try.func33, Try.ntmps33
    go_wp2_with (first | (go_at_call 83; refine H.out.mono ?_; rintro e w1 ⟨rfl, rfl⟩) | fail)
    go_ret2
    exact ⟨rfl, rfl⟩
theorem sync_power (h : DB w B g sb rv d) (hp : powP d = 80) : Calls Try.prog 29 #[.pointer (some ⟨g, 0, none⟩)] w fun e w' => e = .returned (ci 80) ∧ w = w' := by
  have H := Lib.hid (power_calls h)
  rw [hp] at H
  clear h hp
  go_enter Try.func29, Try.ntmps29
  go_wp2_with (first | (go_at_call 83; refine H.out.mono ?_; rintro e w1 ⟨rfl, rfl⟩) | fail)
  go_ret
  exact ⟨rfl, rfl⟩
end
end Go.Proofs.Ytjcbmlpfpcpakaa
