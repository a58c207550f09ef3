/- Layer 7 (dice): are these weights that may be picked? -/
import Derived.Test.YtaneknfhilfalaaD7i
import Derived.StillTailTactics
namespace Go.Proofs.Ytaneknfhilfalaa
open Go.RowKit
set_option linter.unusedVariables false

def geB (x : Nat) : Bool := FloatKind.f64.format.order x 0 == some .gt || FloatKind.f64.format.order x 0 == some .eq
theorem geB_eq (x : Nat) : geB x = (FloatKind.f64.format.order x 0 == some .gt || FloatKind.f64.format.order x 0 == some .eq) := rfl
theorem geB_nn {x : Nat} (h : nn x) : geB x = true := by
  unfold geB
  rcases h with h | h
  · rw [show FloatKind.f64.format.order x 0 = some (compare x 0) from order_good h zero_good]
    rcases Nat.eq_zero_or_pos x with h0 | h0
    · rw [Nat.compare_eq_eq.2 h0]; rfl
    · rw [Nat.compare_eq_gt.2 h0]; rfl
  · subst h; kernel_rfl
theorem geB_of {x : Nat} (hb : x < 18446744073709551616) (h : geB x = false) : okB x = false := by
  cases ho : okB x with
  | false => rfl
  | true => rw [geB_nn (okB_nn hb ho)] at h; cases h
theorem geB_gb (x : Nat) : geB x = gb x := by rw [gb_eq]; rfl
theorem geB_good {x : Nat} (hb : x < 18446744073709551616) (h : geB x = true) : nn x := gb_nn hb (by rw [← geB_gb]; exact h)
def rt (ws : List Nat) : Bool := match chk 0 ws with
  | none => false
  | some T => totB T
attribute [irreducible] geB
set_option maxHeartbeats 1000000 in
theorem right_calls (wv : Value) (ws : List Nat) (w : World) (hw : Rd w cf wv ws) (hb : ∀ x ∈ ws, x < 18446744073709551616) (hm : ws.length ≤ 9223372036854775807) :
    Calls Try.prog 32 #[wv] w fun e w' => e = .returned (.bool (rt ws)) ∧ ∃ k, w.drewN k = w' := by
  have hm' : (ws.length : Int) ≤ 9223372036854775807 := by omega
  obtain ⟨ad, c, rfl, hat⟩ := hw.at
  have HA := Lib.hid hat
  have HB := Lib.hid hb
  obtain ⟨P, hP⟩ : ∃ P, rt ws = P := ⟨_, rfl⟩
  have HP := Lib.hid hP
  rw [hP]
  clear hw hat hb hm hP
  obtain ⟨C, hC⟩ : ∃ C, chk 0 ws = C := ⟨_, rfl⟩
  have HC := Lib.hid hC
  have HP1 : Hid (C = none → P = false) := fun h => by rw [← HP.out]; unfold rt; rw [hC, h]
  have HP2 : Hid (∀ T, C = some T → P = totB T) := fun T h => by rw [← HP.out]; unfold rt; rw [hC, h]
  clear hC HP
  go_enter Try.func32, Try.ntmps32
  go_wp2_with fail
  go_loopw [3, 4] (fun y i wr => ∃ (k z d : Nat), k ≤ ws.length ∧ i = .int .i64 k ∧ y = cf z ∧ wr = w.drewN d ∧ Hid (good z ∧ chk z (ws.drop k) = C)) (fun _ i _ => ws.length - (intOf i).toNat)
  case atStart => exact ⟨0, 0, 0, by omega, rfl, rfl, rfl, ⟨zero_good, by rw [List.drop_zero]; exact HC.out⟩⟩
  case round =>
    clear HC
    obtain ⟨k, z, d, hk, rfl, rfl, rfl, hT⟩ := hrel
    by_cases hlt : k < ws.length
    · obtain ⟨b1, o1, rfl, hc⟩ := HA.out k hlt
      have hst := hT.out.2
      rw [dropcons hlt, chk_cons] at hst
      have hxb := HB.out ws[k] (List.getElem_mem _)
      generalize ws[k] = x at *
      have HST := Lib.hid hst
      have HXB := Lib.hid hxb
      clear hst hxb
      cases hl : geB x with
      | false =>
        have hp := Lib.hid (HP1.out (by have := HST.out; rw [geB_of HXB.out hl] at this; simpa using this.symm))
        rw [geB_eq] at hl
        go_wp2_with fail
        go_quiet (fail)
        go_wp2_with fail
        go_ret
        exact ⟨by rw [hp.out]; rfl, _, (World.drewN_drewN ..).symm⟩
      | true =>
        by_cases hn : num x
        · have hs := fun w => run_float_arith (P := Try.prog) w .sub 37 .f64 _ _ _ (sub_num hn)
          have ho := order_zero
          obtain ⟨ha, hgz⟩ := fadd_eq hT.out.1 (geB_good HXB.out hl)
          have hadd := fun w => run_float_arith (P := Try.prog) w .add 37 .f64 _ _ _ ha
          have hnx : Hid (chk (fadd z x) (ws.drop (k + 1)) = C) := by
            show _ = _
            have := HST.out
            rw [show okB x = true by unfold okB; rw [ord_nn (geB_good HXB.out hl), (fin_num HXB.out).2 hn]; rfl] at this
            simpa using this
          have HGZ := Lib.hid hgz
          rw [geB_eq] at hl
          clear hn ha hgz
          go_wp2_with fail
          go_quiet (fail)
          go_wp2_with fail
          go_roundw
          case measure => simp only [intOf]; omega
          case rel => exact ⟨k + 1, _, _, by omega, by go_num, rfl, rfl, HGZ.out, hnx.out⟩
        · have HRUN := Lib.hid (fun w => run_sub_nan (P := Try.prog) 37 x x (sub_none HXB.out hn) w)
          have hp := Lib.hid (HP1.out (by
            have := HST.out
            rw [show okB x = false by
              unfold okB
              cases hf : fin64 x with
              | true => exact absurd ((fin_num HXB.out).1 hf) hn
              | false => simp] at this
            simpa using this.symm))
          rw [geB_eq] at hl
          clear hn
          go_wp2_with fail
          refine wp_region_still_tail 15 (by kernel_rfl) (by kernel_rfl) ?_
          simp only [List.take_succ_cons, List.take_zero, List.drop_succ_cons, List.drop_zero]
          change wpStill _ _ (World.drew _) _ _ _
          repeat still_step
          refine wpStill_nil ?_
          change wpList _ _ _ _ _ (World.drew (w.drewN d))
          obtain ⟨wx, hwx⟩ : ∃ x, (w.drewN d).drew = x := ⟨_, rfl⟩
          rw [hwx]
          obtain ⟨q, hq, hrun⟩ := HRUN.out wx
          have ho := nan_order hq
          have HWX := Lib.hid hwx
          clear hq hwx hc
          go_wp2_with fail
          go_ret
          exact ⟨by rw [hp.out]; rfl, d + 2, by rw [← HWX.out]; rfl⟩
    · obtain rfl : ws.length = k := by omega
      have hCz : Hid (C = some z) := by show _ = _; have := hT.out.2; rw [List.drop_length, chk_nil] at this; exact this.symm
      have hp := Lib.hid (HP2.out z hCz.out)
      have hgz := hT.out.1
      cases he : gtB z 0 with
      | false =>
        have hp2 : Hid (P = false) := by
          show _ = _
          rw [hp.out, totB_good hgz]
          rw [gtB_good hgz zero_good] at he
          have := of_decide_eq_false he
          exact decide_eq_false (by omega)
        rw [gtB_eq] at he
        clear hT hgz
        go_wp2_with fail
        go_ret
        exact ⟨by rw [hp2.out]; rfl, d, rfl⟩
      | true =>
        have he' : Hid (z ≠ 0) := by
          show _ ≠ _
          rw [gtB_good hgz zero_good] at he
          have := of_decide_eq_true he
          omega
        by_cases hn : num z
        · have hs := fun w => run_float_arith (P := Try.prog) w .sub 37 .f64 _ _ _ (sub_num hn)
          have ho : (FloatKind.f64.format.order 0 0 == some .eq) = true := by kernel_rfl
          have hp2 : Hid (P = true) := by
            show _ = _
            rw [hp.out, totB_good hgz]
            refine decide_eq_true ⟨he'.out, fun e => ?_⟩
            subst e
            obtain ⟨s, m, p, hr⟩ := hn
            rw [read_inf] at hr; cases hr
          rw [gtB_eq] at he
          clear hT hgz hn
          go_wp2_with fail
          go_ret
          exact ⟨by rw [hp2.out]; rfl, d, rfl⟩
        · have HZ := Lib.hid (good_lt hgz)
          have HRUN := Lib.hid (fun w => run_sub_nan (P := Try.prog) 37 z z (sub_none HZ.out hn) w)
          have hp2 : Hid (P = false) := by
            show _ = _
            rw [hp.out, totB_good hgz]
            refine decide_eq_false (fun e => hn (good_num' ?_))
            unfold good inf64 at hgz
            omega
          rw [gtB_eq] at he
          clear hT hgz hn
          obtain ⟨q, hq, hrun⟩ := HRUN.out (w.drewN d)
          have ho : (FloatKind.f64.format.order q 0 == some .eq) = false := by have := nan_order hq; simpa using this
          clear hq
          go_wp2_with fail
          go_ret
          exact ⟨by rw [hp2.out]; rfl, d + 1, rfl⟩
end Go.Proofs.Ytaneknfhilfalaa
