/- Layer 25 (balance): each server's load: both. -/
import Derived.Test.YtkpjnikmcojdlaaB25h
namespace Go.Proofs.Ytkpjnikmcojdlaa
open Go.RowKit
set_option linter.unusedVariables false

set_option maxHeartbeats 1000000 in
theorem right_calls (lv ov : Value) (ld : List Nat) (ow : List Int) (s : Int) (w : World) (hl : Rd w cf lv ld) (ho : Rd w ci ov ow) (hb : ∀ x ∈ ld, x < 18446744073709551616) (hlm : ld.length ≤ 9223372036854775807) (hom : ow.length ≤ 9223372036854775807) :
    Calls Try.prog 38 #[lv, ov, ci s] w fun e w' => e = .returned (.bool (rightB ld ow s)) ∧ Ext w w' := by
  have hlm' : (ld.length : Int) ≤ 9223372036854775807 := by omega
  have hom' : (ow.length : Int) ≤ 9223372036854775807 := by omega
  have H33 := Lib.hid (crowd_calls ov ow s w ho hom)
  obtain ⟨ad, c, rfl, hat⟩ := hl.at
  obtain ⟨ad2, c2, rfl, hat2⟩ := ho.at
  have HA := Lib.hid hat
  have HB := Lib.hid hb
  clear hl ho hat hat2 hb hlm hom
  rw [right_crowd]
  obtain ⟨cr, hcr⟩ : ∃ b, crowd ow s = b := ⟨_, rfl⟩
  rw [hcr] at H33 ⊢
  clear hcr
  cases cr with
  | false =>
    go_enter Try.func38, Try.ntmps38
    go_wp2_with (first | (go_at_call 33; refine H33.out.mono ?_; clear H33; rintro e w1 ⟨rfl, e1⟩; have E1 := Lib.hid e1; clear e1) | fail)
    go_ret
    exact ⟨rfl, E1.out⟩
  | true =>
    by_cases h1 : ld.length = ow.length
    · have t1 : ((ld.length : Int) != (ow.length : Int)) = false := by simp [h1]
      rw [decide_eq_true h1]
      simp only [Bool.true_and]
      clear h1
      obtain ⟨R, hR⟩ : ∃ R, rest2 0 ld = R := ⟨_, rfl⟩
      have HR := Lib.hid hR
      rw [hR]
      clear hR
      go_enter Try.func38, Try.ntmps38
      go_wp2_with (first | (go_at_call 33; refine H33.out.mono ?_; clear H33; rintro e w1 ⟨rfl, e1⟩; have E1 := Lib.hid e1; clear e1) | fail)
      go_loop [7, 9, 23] (fun y _ i => ∃ (k z : Nat), k ≤ ld.length ∧ i = .int .i64 k ∧ y = cf z ∧ Hid (good z ∧ rest2 z (ld.drop k) = R)) (fun _ _ i => ld.length - (intOf i).toNat)
      case atStart => exact ⟨0, 0, by omega, rfl, rfl, ⟨by unfold good inf64; omega, by rw [List.drop_zero]; exact HR.out⟩⟩
      case round =>
        clear HR
        obtain ⟨k, z, hk, rfl, rfl, hT⟩ := hrel
        by_cases hlt : k < ld.length
        · obtain ⟨b, o, rfl, hc'⟩ := HA.out k hlt
          have hc := E1.out.cell hc'
          have hst := hT.out.2
          rw [dropcons hlt, rest2_cons] at hst
          have hxb := HB.out ld[k] (List.getElem_mem _)
          generalize ld[k] = x at *
          have HST := Lib.hid hst
          have hneg := gb_neg x hxb
          clear hst hc'
          cases hg : gb x with
          | false =>
            rw [hg] at hneg
            have hR : Hid (R = false) := by show _ = _; have := HST.out; rw [hg] at this; simpa using this.symm
            cases h5 : (FloatKind.f64.format.order x x != some .eq) with
            | true =>
              clear hg hneg
              go_wp2_with fail
              go_ret
              exact ⟨by rw [hR.out]; rfl, E1.out⟩
            | false =>
              have h6 : (FloatKind.f64.format.order x 0 == some .lt) = true := by rw [h5] at hneg; simpa using hneg
              clear hg hneg
              go_wp2_with fail
              go_ret
              exact ⟨by rw [hR.out]; rfl, E1.out⟩
          | true =>
            rw [hg] at hneg
            have h5 : (FloatKind.f64.format.order x x != some .eq) = false := by
              cases h : (FloatKind.f64.format.order x x != some .eq) with
              | false => rfl
              | true => rw [h] at hneg; simp at hneg
            have h6 : (FloatKind.f64.format.order x 0 == some .lt) = false := by rw [h5] at hneg; simpa using hneg
            obtain ⟨ha, hgz⟩ := fadd_eq hT.out.1 (gb_nn hxb hg)
            have hadd := fun w => run_float_arith (P := Try.prog) w .add 48 .f64 _ _ _ ha
            have hn : Hid (rest2 (fadd z x) (ld.drop (k + 1)) = R) := by
              show _ = _
              have := HST.out
              rw [hg] at this
              simpa using this
            have HGZ := Lib.hid hgz
            clear hg ha hgz hneg
            go_wp2_with fail
            go_round
            case measure => simp only [intOf]; omega
            case rel => exact ⟨k + 1, _, by omega, by go_num, rfl, HGZ.out, hn.out⟩
        · obtain rfl : ld.length = k := by omega
          have hR := hT.out.2
          rw [List.drop_length, rest2_nil, leH_eq] at hR
          go_wp2_with fail
          go_ret
          exact ⟨by rw [← hR]; rfl, E1.out⟩
    · have t1 : ((ld.length : Int) != (ow.length : Int)) = true := by simp; omega
      rw [decide_eq_false h1]
      clear h1
      go_enter Try.func38, Try.ntmps38
      go_wp2_with (first | (go_at_call 33; refine H33.out.mono ?_; clear H33; rintro e w1 ⟨rfl, e1⟩; have E1 := Lib.hid e1; clear e1) | fail)
      go_ret
      exact ⟨by simp, E1.out⟩
/-- a server's load -/
def ldS (v : Int) : Nat → List Nat → List Int → Nat
  | y, x :: r, o :: q => ldS v (if o = v then fadd y x else y) r q
  | y, [], _ => y
  | y, _ :: _, [] => y
theorem ldS_cons (v : Int) (y x : Nat) (r : List Nat) (o : Int) (q : List Int) : ldS v y (x :: r) (o :: q) = ldS v (if o = v then fadd y x else y) r q := rfl
theorem ldS_nil (v : Int) (y : Nat) (q : List Int) : ldS v y [] q = y := by cases q <;> rfl
attribute [irreducible] ldS
theorem load_calls (lv ov : Value) (ld : List Nat) (ow : List Int) (v : Int) (w : World) (hl : Rd w cf lv ld) (ho : Rd w ci ov ow) (hlen : ld.length = ow.length) (hnn : ∀ x ∈ ld, nn x) (hlm : ld.length ≤ 9223372036854775807) :
    Calls Try.prog 36 #[lv, ov, ci v] w fun e w' => (e = .returned (cf (ldS v 0 ld ow)) ∧ good (ldS v 0 ld ow)) ∧ w = w' := by
  have hlm' : (ld.length : Int) ≤ 9223372036854775807 := by omega
  have hom' : (ow.length : Int) ≤ 9223372036854775807 := by omega
  obtain ⟨ad, c, rfl, hat⟩ := hl.at
  obtain ⟨ad2, c2, rfl, hat2⟩ := ho.at
  have HA := Lib.hid hat
  have HA2 := Lib.hid hat2
  have HN := Lib.hid hnn
  have H1 := Lib.hid hlen
  clear hl ho hat hat2 hnn hlm hlen
  obtain ⟨R, hR⟩ : ∃ R, ldS v 0 ld ow = R := ⟨_, rfl⟩
  have HR := Lib.hid hR
  rw [hR]
  clear hR
  go_enter Try.func36, Try.ntmps36
  go_wp2_with fail
  go_loop [7, 8] (fun y i => ∃ (k z : Nat), k ≤ ld.length ∧ i = .int .i64 k ∧ y = cf z ∧ Hid (good z ∧ ldS v z (ld.drop k) (ow.drop k) = R)) (fun _ i => ld.length - (intOf i).toNat)
  case atStart => exact ⟨0, 0, by omega, rfl, rfl, ⟨by unfold good inf64; omega, by rw [List.drop_zero, List.drop_zero]; exact HR.out⟩⟩
  case round =>
    clear HR
    obtain ⟨k, z, hk, rfl, rfl, hT⟩ := hrel
    by_cases hlt : k < ld.length
    · have hlt2 : k < ow.length := by rw [← H1.out]; exact hlt
      obtain ⟨b, o, rfl, hc⟩ := HA.out k hlt
      obtain ⟨b2, o2, rfl, hc2⟩ := HA2.out k hlt2
      have hst := hT.out.2
      rw [dropcons hlt, dropcons hlt2, ldS_cons] at hst
      have hxn := HN.out ld[k] (List.getElem_mem _)
      generalize ld[k] = x at *
      generalize ow[k] = y at *
      have HST := Lib.hid hst
      clear hst
      by_cases h5 : y = v
      · have t5 : (y == v) = true := by simp [h5]
        obtain ⟨ha, hgz⟩ := fadd_eq hT.out.1 hxn
        have hadd := fun w => run_float_arith (P := Try.prog) w .add 48 .f64 _ _ _ ha
        have hn : Hid (ldS v (fadd z x) (ld.drop (k + 1)) (ow.drop (k + 1)) = R) := by
          show _ = _
          have := HST.out
          rw [if_pos h5] at this
          exact this
        have HGZ := Lib.hid hgz
        clear h5 ha hgz hxn
        go_wp2_with fail
        go_round
        case measure => simp only [intOf]; omega
        case rel => exact ⟨k + 1, _, by omega, by go_num, rfl, HGZ.out, hn.out⟩
      · have t5 : (y == v) = false := by simp [h5]
        have hn : Hid (ldS v z (ld.drop (k + 1)) (ow.drop (k + 1)) = R) := by
          show _ = _
          have := HST.out
          rw [if_neg h5] at this
          exact this
        clear h5 hxn
        go_wp2_with fail
        go_round
        case measure => simp only [intOf]; omega
        case rel => exact ⟨k + 1, _, by omega, by go_num, rfl, hT.out.1, hn.out⟩
    · obtain rfl : ld.length = k := by omega
      have hR := hT.out.2
      rw [List.drop_length, ldS_nil] at hR
      subst hR
      have hg := Lib.hid hT.out.1
      clear hT
      go_wp2_with fail
      go_ret
      exact ⟨⟨rfl, hg.out⟩, rfl⟩
end Go.Proofs.Ytkpjnikmcojdlaa
