/- Layer 9 (load): the reference's rhythm. -/
import Derived.Test.YtjgdeijodjihlaaR9c
namespace Go.Proofs.Ytjgdeijodjihlaa
open Go.RowKit
set_option linter.unusedVariables false

/-- one step of the rhythm, taken apart -/
theorem wstep_facts {v n t k : Nat} {p : Nat × Nat} {l : List Nat} {R : Nat × Nat} (hv : bd 83 v) (h1 : bd (83 + t) p.1) (h2 : bd (83 + t) p.2) (ht : t ≤ 8) (hn : n ≤ 49) (hst : wvF k (t + 1) (wst v n p) l = R) :
    ∃ j i x1 x2 z1 z2 u1 u2 : Nat, (j : Int) < 8 ∧ (i : Int) < 8 ∧ Int.tmod (n : Int) 8 = (j : Int) ∧ Int.tmod ((j : Int) + 6) 8 = (i : Int) ∧
      (∀ w, Calls Try.prog 46 #[ci j] w fun e w' => e = .returned (cf x1) ∧ w = w') ∧ (∀ w, Calls Try.prog 46 #[ci i] w fun e w' => e = .returned (cf x2) ∧ w = w') ∧
      floatBits .mul .f64 v x1 = some z1 ∧ floatBits .mul .f64 v x2 = some z2 ∧ floatBits .add .f64 p.1 z1 = some u1 ∧ floatBits .add .f64 p.2 z2 = some u2 ∧
      (wvF k (t + 1) (u1, u2) l = R ∧ bd (83 + (t + 1)) u1 ∧ bd (83 + (t + 1)) u2) := by
  obtain ⟨c1, c2, _, c4, c5⟩ := wst_bd (n := n) hv h1 h2 ht
  obtain ⟨a1, a2⟩ := fml_bd hv (tre_bd (n % 8)) (by omega)
  obtain ⟨b1, b2⟩ := fml_bd hv (tre_bd ((n + 6) % 8)) (by omega)
  have d1 := (fadd_bd h1 (bd_mono a2 (show 83 + 0 ≤ 83 + t by omega)) (by omega)).1
  have d2 := (fadd_bd h2 (bd_mono b2 (show 83 + 0 ≤ 83 + t by omega)) (by omega)).1
  have e : (n + 6) % 8 = (n % 8 + 6) % 8 := by omega
  unfold wst at hst c4 c5
  refine ⟨n % 8, (n + 6) % 8, tre (n % 8), tre ((n + 6) % 8), _, _, _, _, by omega, by omega, ?_, ?_, side_calls _ (by omega), side_calls _ (by omega), c1, c2, d1, d2, hst, c4, c5⟩
  · rw [Int.tmod_eq_emod_of_nonneg (by omega)]; omega
  · rw [Int.tmod_eq_emod_of_nonneg (by omega), e]; omega
set_option maxHeartbeats 2000000 in
set_option maxRecDepth 100000 in
theorem rwave_calls (r : Nat) (m : Mt) (av : Value) (A : List Ht) (k : Nat) (hk : k < 8) (W : World) (h : Rm W r m av A) (hb : ∀ v ∈ m.win, bd 83 v) :
    Calls Try.prog 42 #[.pointer (some ⟨r, 0, none⟩), ci k] W fun e w' => e = .returned (.tuple #[cf (wvF k 0 (0, 0) m.win).1, cf (wvF k 0 (0, 0) m.win).2]) ∧ ∃ n, W.drewN n = w' := by
  have H := Lib.hid h
  have HB := Lib.hid hb
  have h8 : m.win.length = 8 := h.ok.w8
  have hk' : (k : Int) < 8 := by omega
  clear h hb
  go_enter Try.func42, Try.ntmps42
  go_wp2_with fail
  go_loopw [6, 7, 8] (fun xv yv iv wr => ∃ (t q : Nat) (p : Nat × Nat), t ≤ 8 ∧ wr = W.drewN q ∧ iv = .int .i64 t ∧ xv = cf p.1 ∧ yv = cf p.2 ∧ Hid (wvF k t p (m.win.drop t) = wvF k 0 (0, 0) m.win ∧ bd (83 + t) p.1 ∧ bd (83 + t) p.2)) (fun _ _ iv _ => (8 - (intOf iv).toNat))
  case atStart => exact ⟨0, 0, (0, 0), by omega, rfl, rfl, rfl, rfl, by rw [List.drop_zero], bd_zero _, bd_zero _⟩
  case round =>
    obtain ⟨t, q, p, ht, rfl, rfl, rfl, rfl, hT⟩ := hrel
    by_cases hlt : t < 8
    · have hlt' : (t : Int) < 8 := by omega
      have HWN := Lib.hid (window_calls r m av A t hlt (W.drewN q) (H.out.ext ((Ext.refl W).drewN q)))
      have hst := hT.out.1
      rw [List.drop_eq_getElem_cons (by omega), wvF_cons] at hst
      have hv := HB.out (m.win[t]'(by omega)) (List.getElem_mem _)
      have hg : m.win.getD t 0 = m.win[t]'(by omega) := by rw [List.getD_eq_getElem?_getD, List.getElem?_eq_getElem (by omega)]; rfl
      rw [hg] at HWN
      generalize m.win[t]'(by omega) = v at *
      obtain ⟨n, hn⟩ : ∃ n, k * t = n := ⟨_, rfl⟩
      rw [hn] at hst
      have hnb : n ≤ 49 := by rw [← hn]; exact Nat.mul_le_mul (show k ≤ 7 by omega) (show t ≤ 7 by omega)
      have hkt : (k : Int) * (t : Int) = (n : Int) := by rw [← hn]; exact (Int.natCast_mul k t).symm
      obtain ⟨j, i, x1, x2, z1, z2, u1, u2, hj8, hi8, hr1, hr2, S1, S2, hm1, hm2, hs1, hs2, hst2⟩ := wstep_facts hv hT.out.2.1 hT.out.2.2 (show t ≤ 8 by omega) hnb hst
      have HST := Lib.hid hst2
      have hnb' : (n : Int) ≤ 49 := by omega
      have hkw : IntKind.i64.wrap ((k : Int) * (t : Int)) = (n : Int) := by rw [hkt]; exact IntWalk.i64_in _ (by omega)
      have hkx : wrap64 ((k : Int) * (t : Int)) = (n : Int) := by rw [hkt]; exact wrap_in _ ⟨by omega, by omega⟩
      have hm1' := fun w => run_float_arith (P := Try.prog) w .mul 33 .f64 _ _ _ hm1
      have hm2' := fun w => run_float_arith (P := Try.prog) w .mul 33 .f64 _ _ _ hm2
      have hs1' := fun w => run_float_arith (P := Try.prog) w .add 33 .f64 _ _ _ hs1
      have hs2' := fun w => run_float_arith (P := Try.prog) w .add 33 .f64 _ _ _ hs2
      have S1 := Lib.hid S1
      have S2 := Lib.hid S2
      obtain ⟨pa, pb⟩ := p
      clear hst hst2 hv hg hT hn hkt hnb hm1 hm2 hs1 hs2
      go_wp2_with (first
        | (go_at_call 45; refine HWN.out.mono ?_; clear HWN; rintro e w1 ⟨rfl, q2, hq2⟩
           obtain ⟨y, hy⟩ : ∃ y, w1 = W.drewN y := ⟨q + q2, by rw [← hq2, World.drewN_drewN]⟩
           clear hq2
           subst hy)
        | (go_at_call 46; refine (S1.out _).mono ?_; clear S1; rintro e w2 ⟨rfl, rfl⟩)
        | (go_at_call 46; refine (S2.out _).mono ?_; clear S2; rintro e w2 ⟨rfl, rfl⟩)
        | fail)
      go_roundw
      case measure => simp only [intOf]; omega
      case rel => exact ⟨t + 1, y, (u1, u2), by omega, rfl, by go_num, rfl, rfl, HST.out⟩
    · obtain rfl : t = 8 := by omega
      have HO : Hid (p = wvF k 0 (0, 0) m.win) := by have h1 := hT.out.1; rw [List.drop_of_length_le (by omega), wvF_nil] at h1; exact h1
      clear hT
      go_wp2_with fail
      go_ret2
      exact ⟨by rw [← HO.out]; rfl, _, rfl⟩
end Go.Proofs.Ytjgdeijodjihlaa
