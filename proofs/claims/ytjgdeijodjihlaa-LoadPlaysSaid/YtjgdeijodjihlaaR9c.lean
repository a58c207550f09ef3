/- Layer 9 (load): the reference's windows and its rhythm. -/
import Derived.Test.YtjgdeijodjihlaaR9b
import Derived.Test.YtjgdeijodjihlaaD9w
namespace Go.Proofs.Ytjgdeijodjihlaa
open Go.RowKit
set_option linter.unusedVariables false

theorem wrap_in (x : Int) (h : -9223372036854775808 ≤ x ∧ x ≤ 9223372036854775807) : wrap64 x = x := by unfold wrap64; omega
theorem win_wraps (C : Int) (h0 : 0 ≤ C) (h1 : C ≤ 1099511627776) (t : Int) (h2 : 0 ≤ t) (h3 : t < 8) : wrap64 C = C ∧ wrap64 (C - 8) = C - 8 ∧ wrap64 (C - 8 + 1) = C - 8 + 1 ∧ wrap64 (C - 8 + 1 + t) = C - 7 + t := by
  refine ⟨wrap_in _ (by omega), wrap_in _ (by omega), wrap_in _ (by omega), ?_⟩
  rw [wrap_in _ (by omega)]
  omega
theorem side_calls (n : Nat) (hn : n < 8) (w : World) : Calls Try.prog 46 #[ci n] w fun e w' => e = .returned (cf (tre n)) ∧ w = w' := by
  have h : n = 0 ∨ n = 1 ∨ n = 2 ∨ n = 3 ∨ n = 4 ∨ n = 5 ∨ n = 6 ∨ n = 7 := by omega
  clear hn
  rcases h with rfl | rfl | rfl | rfl | rfl | rfl | rfl | rfl
  all_goals
    go_enter Try.func46, Try.ntmps46
    go_wp2_with fail
    go_ret
    exact ⟨by unfold tre; rfl, rfl⟩
theorem winF_drop (c : Int) (v : Nat) (A : List Ht) (k : Nat) (hk : k < A.length) : winF c v (A.drop k) = winF c (wstp c v A[k]) (A.drop (k + 1)) := by
  rw [List.drop_eq_getElem_cons hk, winF_cons]
set_option maxHeartbeats 2000000 in
set_option maxRecDepth 100000 in
theorem window_calls (r : Nat) (m : Mt) (av : Value) (A : List Ht) (t : Nat) (ht : t < 8) (W : World) (h : Rm W r m av A) :
    Calls Try.prog 45 #[.pointer (some ⟨r, 0, none⟩), ci t] W fun e w' => e = .returned (cf (m.win.getD t 0)) ∧ ∃ n, W.drewN n = w' := by
  rw [h.rl.w t ht]
  obtain ⟨qa, c, rfl, hc1, hc2, hcell⟩ := h.b.row
  have HC := Lib.hid hcell
  have hc1' : (A.length : Int) ≤ c := by omega
  have hc2' : (c : Int) ≤ 9223372036854775807 := by simp only [maxLen] at hc2; omega
  clear hc2
  have HW := Lib.hid h.rl.a
  have k1 := h.b.c1
  have k2 := h.b.c2
  have k3 := h.b.c3
  have HAL := Lib.hid h.len
  have hAl : (A.length : Int) < 8796093022208 := by have := h.len; omega
  have hdv : ((m.now / m.half : Nat) : Int) ≤ 1099511627776 := by have := Nat.div_le_self m.now m.half; have := h.ok.n1; omega
  have htd : Int.tdiv (m.now : Int) (m.half : Int) = ((m.now / m.half : Nat) : Int) := by rw [Int.tdiv_eq_ediv_of_nonneg (by omega)]; rfl
  have hh0 : (m.half : Int) ≠ 0 := by have := h.ok.h1; omega
  obtain ⟨C, hC⟩ : ∃ x, m.now / m.half = x := ⟨_, rfl⟩
  rw [hC] at htd hdv HW ⊢
  obtain ⟨N, hN⟩ : ∃ x, m.now = x := ⟨_, rfl⟩
  obtain ⟨H, hH⟩ : ∃ x, m.half = x := ⟨_, rfl⟩
  rw [hN, hH] at htd
  rw [hH] at hh0 k1
  rw [hN] at k2
  obtain ⟨D, hD⟩ : ∃ x : Int, (C : Int) - 7 + t = x := ⟨_, rfl⟩
  have ht' : (t : Int) < 8 := by omega
  have hwr : ∀ C : Int, 0 ≤ C → C ≤ 1099511627776 → ∀ t : Int, 0 ≤ t → t < 8 → wrap64 C = C ∧ wrap64 (C - 8) = C - 8 ∧ wrap64 (C - 8 + 1) = C - 8 + 1 ∧ wrap64 (C - 8 + 1 + t) = C - 7 + t := win_wraps
  have HWR := Lib.hid (hwr C (Int.natCast_nonneg _) hdv t (Int.natCast_nonneg _) ht')
  rw [hD] at HWR
  clear hwr
  clear h hcell hC hN hH ht ht'
  rw [hD]
  clear hD
  go_enter Try.func45, Try.ntmps45
  go_wp2_with fail
  go_loopw [5, 6] (fun xv iv wr => ∃ (k x q : Nat), k ≤ A.length ∧ wr = W.drewN q ∧ iv = .int .i64 k ∧ xv = cf x ∧ Hid (winF D x (A.drop k) = winF D 0 A ∧ good x ∧ vle (1 + k) x)) (fun _ iv _ => (A.length - (intOf iv).toNat))
  case atStart => exact ⟨0, 0, 0, by omega, rfl, rfl, rfl, by rw [List.drop_zero], good0, vle_zero 1⟩
  case round =>
    obtain ⟨k, x, q, hk, rfl, rfl, rfl, hT⟩ := hrel
    by_cases hlt : k < A.length
    · have hlt' : (k : Int) < A.length := by omega
      obtain ⟨b, rfl, c0, c1, c2⟩ := HC.out k hlt
      have hT1 := hT.out.1
      rw [winF_drop D x A k hlt] at hT1
      have hwk := HW.out.w A[k] (List.getElem_mem _)
      have hAi := HAL.out
      have hok := wstp_ok D (h := A[k]) hwk hT.out.2.1 hT.out.2.2 (by omega) (by omega)
      generalize A[k] = h at *
      obtain ⟨hs, hg, hx⟩ := h
      replace hwk : wtB hx = true ∧ hx < 18446744073709551616 := hwk
      replace c0 : W.cell? ⟨b, k * 3, none⟩ = some (ci hs) := c0
      replace c1 : W.cell? ⟨b, k * 3 + 1, none⟩ = some (ci hg) := c1
      replace c2 : W.cell? ⟨b, k * 3 + 2, none⟩ = some (cf hx) := c2
      by_cases e : (hg : Int) = D
      · have de : ((hg : Int) == D) = true := beq_iff_eq.2 e
        have est : wstp D x (hs, hg, hx) = fadd x hx := by unfold wstp; rw [if_pos e]
        rw [est] at hT1 hok
        have hadd := (fadd_eq hT.out.2.1 (wt_nn hwk.1 hwk.2)).1
        have hfa := fun w => run_float_arith (P := Try.prog) w .add 33 .f64 _ _ _ hadd
        have HT := Lib.hid (And.intro hT1 hok)
        have DE := Lib.hid de
        generalize fadd x hx = z at *
        clear hT hT1 hok est hwk hadd e hAi de hdv
        go_wp2_with fail
        go_quiet (fail)
        rw [HWR.out.1, HWR.out.2.1, HWR.out.2.2.1, HWR.out.2.2.2, DE.out]
        go_wp2_with fail
        go_roundw
        case measure => simp only [intOf]; omega
        case rel => exact ⟨k + 1, z, _, by omega, rfl, by go_num, rfl, HT.out.1, HT.out.2.1, by rw [show 1 + (k + 1) = 1 + k + 1 by omega]; exact HT.out.2.2⟩
      · have de : ((hg : Int) == D) = false := beq_eq_false_iff_ne.2 e
        have est : wstp D x (hs, hg, hx) = x := by unfold wstp; rw [if_neg e]
        rw [est] at hT1 hok
        have HT := Lib.hid (And.intro hT1 hok)
        have DE := Lib.hid de
        clear hT hT1 hok est hwk e hAi de hdv
        go_wp2_with fail
        go_quiet (fail)
        rw [HWR.out.1, HWR.out.2.1, HWR.out.2.2.1, HWR.out.2.2.2, DE.out]
        go_wp2_with fail
        go_roundw
        case measure => simp only [intOf]; omega
        case rel => exact ⟨k + 1, x, _, by omega, rfl, by go_num, rfl, HT.out.1, HT.out.2.1, by rw [show 1 + (k + 1) = 1 + k + 1 by omega]; exact HT.out.2.2⟩
    · obtain rfl : k = A.length := by omega
      have HO : Hid (x = winF D 0 A) := by have hT1 := hT.out.1; rw [List.drop_length, winF_nil] at hT1; exact hT1
      clear hT
      go_wp2_with fail
      go_ret
      exact ⟨by rw [← HO.out]; rfl, _, rfl⟩
end Go.Proofs.Ytjgdeijodjihlaa
