/- Layer 9 (load): the walks of the mean and the spread. -/
import Derived.Test.YtjgdeijodjihlaaD9s
namespace Go.Proofs.Ytjgdeijodjihlaa
open Go.RowKit
set_option linter.unusedVariables false

theorem sqrt_calls (n r : Nat) (h : D64.sqrt n = some r) (w : World) : Calls Try.prog 43 #[cf n] w fun e w' => e = .returned (cf r) ∧ w = w' := by
  have H := sqrt_run n r h
  clear h
  go_enter Try.func43, Try.ntmps43
  go_wp2_with fail
  go_ret
  exact ⟨rfl, rfl⟩
theorem len_run (N : Nat) (h : N < 9007199254740992) (w : World) : (convert 3 33 (.int .i64 (N : Int))).run Try.prog w = .ok (cf (wholeW N)) w := by
  rw [run_convert_int_float (P := Try.prog) w 3 33 .i64 .f64 _ (by kernel_rfl) (by kernel_rfl), whole_ofInt h]
theorem mean_calls (g lb : Nat) (m : Mt) (w : World) (h : MB w g lb m) (hb : ∀ x ∈ m.L, bd 83 x) :
    Calls Try.prog 28 #[.pointer (some ⟨g, 0, none⟩)] w fun e w' => e = .returned (cf (meanP m.L)) ∧ Ext w w' := by
  have H := Lib.hid (fun w (h : MB w g lb m) => sum_calls g lb m w h)
  have hl2 : (m.L.length : Int) ≤ 64 := by have := h.ok.l2; omega
  have hrun := len_run m.L.length (by omega)
  have hq := (mean_bd hb h.ok.l1 h.ok.l2).1
  have hquo := fun w => run_float_arith (P := Try.prog) w .quo 33 .f64 _ _ _ hq
  obtain ⟨W, hW⟩ : ∃ x, wholeW m.L.length = x := ⟨_, rfl⟩
  obtain ⟨S, hS⟩ : ∃ x, sumF 0 m.L = x := ⟨_, rfl⟩
  obtain ⟨Q, hQ⟩ : ∃ x, meanP m.L = x := ⟨_, rfl⟩
  rw [hW] at hrun hquo
  rw [hS] at hquo H
  rw [hQ] at hquo ⊢
  have HM := Lib.hid h
  have K0 := h.loads
  clear h hb hq hW hS hQ
  go_enter Try.func28, Try.ntmps28
  go_wp2_with fail
  go_region_held (fun w' => w'.cell? ⟨g, 2, none⟩ = some (.slice (some ⟨lb, 0, none⟩) m.L.length m.L.length)) (first | exact K1 | exact K0)
    (first
      | (go_at_call 27; refine (H.out _ (HM.out.ext (Ext.refl _).drew)).mono ?_; clear H; rintro e w1 ⟨rfl, h1⟩
         have E1 := Lib.hid (((Ext.refl w).drew).trans h1)
         have K1 := (HM.out.ext E1.out).loads
         clear h1))
  go_wp2_with fail
  go_ret
  exact ⟨rfl, E1.out⟩
set_option maxHeartbeats 1000000 in
theorem spread_calls (g lb : Nat) (m : Mt) (w : World) (h : MB w g lb m) (hb : ∀ x ∈ m.L, bd 83 x) :
    Calls Try.prog 26 #[.pointer (some ⟨g, 0, none⟩)] w fun e w' => e = .returned (cf (spreadP m.L)) ∧ Ext w w' := by
  have H := Lib.hid (mean_calls g lb m w h hb)
  have hl2 : (m.L.length : Int) ≤ 64 := by have := h.ok.l2; omega
  have hrun := len_run m.L.length (by omega)
  obtain ⟨f1, f2, _⟩ := spread_fin hb h.ok.l1 h.ok.l2
  have HMB := Lib.hid (mean_bd hb h.ok.l1 h.ok.l2).2
  have HB := Lib.hid hb
  have hquo := fun w => run_float_arith (P := Try.prog) w .quo 33 .f64 _ _ _ f1
  have HSQ := Lib.hid (sqrt_calls _ _ f2)
  obtain ⟨W, hW⟩ : ∃ x, wholeW m.L.length = x := ⟨_, rfl⟩
  obtain ⟨Q, hQ⟩ : ∃ x, meanP m.L = x := ⟨_, rfl⟩
  obtain ⟨S, hS⟩ : ∃ x, spF Q 0 m.L = x := ⟨_, rfl⟩
  have HS := Lib.hid hS
  rw [hW] at hrun hquo HSQ
  rw [hQ] at hquo H HMB HSQ
  rw [hS] at hquo HSQ
  obtain ⟨T, hT⟩ : ∃ x, fquo S W = x := ⟨_, rfl⟩
  obtain ⟨Z, hZ⟩ : ∃ x, spreadP m.L = x := ⟨_, rfl⟩
  rw [hT] at hquo HSQ
  rw [hZ] at HSQ ⊢
  have HM := Lib.hid h
  clear h hb f1 f2 hW hQ hS hT hZ
  go_enter Try.func26, Try.ntmps26
  go_wp2_with (first
    | (go_at_call 28; refine H.out.mono ?_; clear H; rintro e w1 ⟨rfl, h1⟩
       have E1 := Lib.hid h1
       have M1 := Lib.hid (HM.out.ext h1)
       have hc1 := M1.out.loads
       clear h1)
    | fail)
  go_loop [4, 6, 7, 17] (fun y _ _ i => ∃ (k z : Nat), k ≤ m.L.length ∧ i = .int .i64 k ∧ y = cf z ∧ Hid (bd (298 + k) z ∧ good z ∧ spF Q z (m.L.drop k) = S)) (fun _ _ _ i => m.L.length - (intOf i).toNat)
  case atStart => exact ⟨0, 0, by omega, rfl, rfl, bd_zero _, good0, by rw [List.drop_zero]; exact HS.out⟩
  case round =>
    obtain ⟨k, z, hk, rfl, rfl, hT⟩ := hrel
    by_cases hlt : k < m.L.length
    · have hck := M1.out.at k hlt
      have hst := hT.out.2.2
      rw [dropcons hlt, spF_cons] at hst
      have hx := HB.out m.L[k] (List.getElem_mem _)
      generalize m.L[k] = x at *
      obtain ⟨s1, s2, s3, s4, s5⟩ := sp_step HMB.out hx hT.out.1 hT.out.2.1 (by omega)
      have r1 := fun w => run_float_arith (P := Try.prog) w .sub 33 .f64 _ _ _ s1
      have r2 := fun w => run_float_arith (P := Try.prog) w .mul 33 .f64 _ _ _ s2
      have r3 := fun w => run_float_arith (P := Try.prog) w .add 33 .f64 _ _ _ s3
      obtain ⟨d, hd⟩ : ∃ d, fsub x Q = d := ⟨_, rfl⟩
      rw [hd] at r1 r2 r3 s4 s5 hst
      obtain ⟨q, hq⟩ : ∃ q, fml d d = q := ⟨_, rfl⟩
      rw [hq] at r2 r3 s4 s5 hst
      have HST : Hid (bd (298 + (k + 1)) (fadd z q) ∧ good (fadd z q) ∧ spF Q (fadd z q) (m.L.drop (k + 1)) = S) := ⟨s4, s5, hst⟩
      clear s1 s2 s3 s4 s5 hst hx hT hd hq
      go_wp2_with fail
      go_round
      case measure => simp only [intOf]; omega
      case rel => exact ⟨k + 1, _, by omega, by go_num, rfl, HST.out⟩
    · obtain rfl : m.L.length = k := by omega
      have hz : Hid (z = S) := by have := hT.out.2.2; rw [List.drop_length, spF_nil] at this; exact this
      have hzz := hz.out
      subst hzz
      clear hT HS
      go_wp2_with (first
        | (go_at_call 43; refine (HSQ.out _).mono ?_; clear HSQ; rintro e w2 ⟨rfl, rfl⟩)
        | fail)
      go_ret
      exact ⟨rfl, E1.out⟩
end Go.Proofs.Ytjgdeijodjihlaa
