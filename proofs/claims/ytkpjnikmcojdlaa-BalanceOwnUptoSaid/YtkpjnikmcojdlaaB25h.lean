/- Layer 25 (balance): is it a right case? Both. -/
import Derived.Test.YtkpjnikmcojdlaaB25g
namespace Go.Proofs.Ytkpjnikmcojdlaa
open Go.RowKit
set_option linter.unusedVariables false

def fadd (x y : Nat) : Nat := (floatBits .add .f64 x y).getD 0
theorem fadd_eq {x y : Nat} (hx : good x) (hy : nn y) : floatBits .add .f64 x y = some (fadd x y) ∧ good (fadd x y) := by
  obtain ⟨z, hz, h⟩ := add_good hx hy
  unfold fadd
  rw [h]; exact ⟨rfl, hz⟩
def half : Nat := 9214364837600034815
def leH (x : Nat) : Bool := FloatKind.f64.format.order x half == some .lt || FloatKind.f64.format.order x half == some .eq
def rest (s : Int) : Nat → List Nat → List Int → Bool
  | y, x :: r, o :: q => if (gb x && !stranger s o) = true then rest s (fadd y x) r q else false
  | y, [], _ => leH y
  | _, _ :: _, [] => false
def rest2 : Nat → List Nat → Bool
  | y, x :: r => if gb x = true then rest2 (fadd y x) r else false
  | y, [] => leH y
theorem leH_eq (x : Nat) : leH x = (FloatKind.f64.format.order x 9214364837600034815 == some .lt || FloatKind.f64.format.order x 9214364837600034815 == some .eq) := rfl
theorem rest_cons (s : Int) (y x : Nat) (r : List Nat) (o : Int) (q : List Int) : rest s y (x :: r) (o :: q) = if (gb x && !stranger s o) = true then rest s (fadd y x) r q else false := rfl
theorem rest_nil (s : Int) (y : Nat) (q : List Int) : rest s y [] q = leH y := by cases q <;> rfl
theorem rest2_cons (y x : Nat) (r : List Nat) : rest2 y (x :: r) = if gb x = true then rest2 (fadd y x) r else false := rfl
theorem rest2_nil (y : Nat) : rest2 y [] = leH y := rfl
theorem rest_same (s : Int) : ∀ (l : List Nat) (y : Nat) (q : List Int), l.length = q.length → q.any (stranger s) = false → rest s y l q = rest2 y l
  | [], y, q, _, _ => by rw [rest_nil, rest2_nil]
  | x :: r, y, [], h, _ => by simp at h
  | x :: r, y, o :: q, h, ha => by
    rw [List.any_cons, Bool.or_eq_false_iff] at ha
    rw [rest_cons, rest2_cons, ha.1, rest_same s r _ q (by simpa using h) ha.2]
    simp
theorem rest_any (s : Int) : ∀ (l : List Nat) (y : Nat) (q : List Int), l.length = q.length → q.any (stranger s) = true → rest s y l q = false
  | [], y, [], _, ha => by simp at ha
  | [], y, o :: q, h, _ => by simp at h
  | x :: r, y, [], h, _ => by simp at h
  | x :: r, y, o :: q, h, ha => by
    rw [rest_cons]
    cases ho : stranger s o with
    | true => simp
    | false =>
      rw [List.any_cons, ho, Bool.false_or] at ha
      split
      · exact rest_any s r _ q (by simpa using h) ha
      · rfl
attribute [irreducible] rest rest2 fadd leH half
def rightB (ld : List Nat) (ow : List Int) (s : Int) : Bool := decide (ld.length = ow.length) && (decide (ow.length ≤ 64) && (decide (0 < s) && (decide (s ≤ 8) && rest s 0 ld ow)))
theorem right_crowd (ld : List Nat) (ow : List Int) (s : Int) : rightB ld ow s = (crowd ow s && (decide (ld.length = ow.length) && rest2 0 ld)) := by
  unfold rightB crowd
  cases ha : ow.any (stranger s) with
  | false =>
    by_cases h : ld.length = ow.length
    · rw [rest_same s ld 0 ow h ha, decide_eq_true h]
      generalize decide (ow.length ≤ 64) = a
      generalize decide (0 < s) = b
      generalize decide (s ≤ 8) = c
      generalize rest2 0 ld = d
      cases a <;> cases b <;> cases c <;> cases d <;> rfl
    · rw [decide_eq_false h]; simp
  | true =>
    by_cases h : ld.length = ow.length
    · rw [rest_any s ld 0 ow h ha]; simp
    · rw [decide_eq_false h]; simp
/-- doubling, 1023 times -/
theorem doubles : (List.range 1023).all (fun k => floatBits .mul .f64 4611686018427387904 ((1023 + k) * 4503599627370496) == some ((1024 + k) * 4503599627370496)) = true := by kernel_rfl
theorem double_at (k : Nat) (hk : k < 1023) : floatBits .mul .f64 4611686018427387904 ((1023 + k) * 4503599627370496) = some ((1024 + k) * 4503599627370496) := by
  have h := List.all_eq_true.1 doubles k (List.mem_range.2 hk)
  exact eq_of_beq h
theorem greatest_mul : floatBits .mul .f64 9214364837600034816 4607182418800017406 = some 9214364837600034814 := by kernel_rfl
theorem greatest_add : floatBits .add .f64 9214364837600034816 9214364837600034814 = some 9218868437227405311 := by kernel_rfl
theorem greatest_half : floatBits .quo .f64 9218868437227405311 4611686018427387904 = some 9214364837600034815 := by kernel_rfl
theorem greatest_calls (w : World) : Calls Try.prog 46 #[] w fun e w' => e = .returned (cf 9218868437227405311) ∧ w = w' := by
  have hm := fun w => run_float_arith (P := Try.prog) w .mul 48 .f64 _ _ _ greatest_mul
  have ha := fun w => run_float_arith (P := Try.prog) w .add 48 .f64 _ _ _ greatest_add
  go_enter Try.func46, Try.ntmps46
  go_wp2_with fail
  go_loop [1, 2] (fun x i => ∃ (k z : Nat), k ≤ 1023 ∧ i = .int .i64 k ∧ x = cf z ∧ Hid (z = (1023 + k) * 4503599627370496)) (fun _ i => 1023 - (intOf i).toNat)
  case atStart => exact ⟨0, _, by omega, rfl, rfl, rfl⟩
  case round =>
    obtain ⟨k, z, hk, rfl, rfl, hz⟩ := hrel
    by_cases hlt : k < 1023
    · have hd := fun w => run_float_arith (P := Try.prog) w .mul 48 .f64 _ _ _ (double_at k hlt)
      rw [← hz.out] at hd
      have hk' : (k : Int) < 1023 := by omega
      obtain ⟨y, hy⟩ : ∃ z, (1024 + k) * 4503599627370496 = z := ⟨_, rfl⟩
      rw [hy] at hd
      have HY := Lib.hid hy
      clear hy hz
      go_wp2_with fail
      go_round
      case measure => simp only [intOf]; omega
      case rel => exact ⟨k + 1, _, by omega, by go_num, rfl, by show _ = _; rw [← HY.out]; congr 1; omega⟩
    · have hz2 : z = 9214364837600034816 := by have := hz.out; omega
      have hk2 : k = 1023 := by omega
      subst hz2 hk2
      clear hz hk hlt
      go_wp2_with fail
      go_ret
      exact ⟨rfl, rfl⟩
theorem dropcons {α : Type} {l : List α} {k : Nat} (h : k < l.length) : l.drop k = l[k] :: l.drop (k + 1) := List.drop_eq_getElem_cons h
set_option maxHeartbeats 1000000 in
theorem rright_calls (lv ov : Value) (ld : List Nat) (ow : List Int) (s : Int) (w : World) (hl : Rd w cf lv ld) (ho : Rd w ci ov ow) (hb : ∀ x ∈ ld, x < 18446744073709551616) (hlm : ld.length ≤ 9223372036854775807) (hom : ow.length ≤ 9223372036854775807) :
    Calls Try.prog 35 #[lv, ov, ci s] w fun e w' => e = .returned (.bool (rightB ld ow s)) ∧ w = w' := by
  have hlm' : (ld.length : Int) ≤ 9223372036854775807 := by omega
  have hom' : (ow.length : Int) ≤ 9223372036854775807 := by omega
  obtain ⟨ad, c, rfl, hat⟩ := hl.at
  obtain ⟨ad2, c2, rfl, hat2⟩ := ho.at
  have HA := Lib.hid hat
  have HA2 := Lib.hid hat2
  have HB := Lib.hid hb
  clear hl ho hat hat2 hb hlm hom
  unfold rightB
  by_cases h1 : ld.length = ow.length
  · have t1 : ((ld.length : Int) != (ow.length : Int)) = false := by simp [h1]
    by_cases h2 : ow.length ≤ 64
    · have t2 : decide ((64 : Int) < (ld.length : Int)) = false := decide_eq_false (by omega)
      by_cases h3 : 0 < s
      · have t3 : decide (s < 1) = false := decide_eq_false (by omega)
        by_cases h4 : s ≤ 8
        · have t4 : decide (8 < s) = false := decide_eq_false (by omega)
          rw [decide_eq_true h1, decide_eq_true h2, decide_eq_true h3, decide_eq_true h4]
          simp only [Bool.true_and]
          have H1 := Lib.hid h1
          have H2 := Lib.hid h2
          clear h1 h2 h3 h4
          obtain ⟨R, hR⟩ : ∃ R, rest s 0 ld ow = R := ⟨_, rfl⟩
          have HR := Lib.hid hR
          rw [hR]
          clear hR
          have HG := Lib.hid (greatest_calls w)
          have hq := fun w => run_float_arith (P := Try.prog) w .quo 48 .f64 _ _ _ greatest_half
          go_enter Try.func35, Try.ntmps35
          go_wp2_with fail
          go_loop [7, 8] (fun y i => ∃ (k z : Nat), k ≤ ld.length ∧ i = .int .i64 k ∧ y = cf z ∧ Hid (good z ∧ rest s z (ld.drop k) (ow.drop k) = R)) (fun _ i => ld.length - (intOf i).toNat)
          case atStart => exact ⟨0, 0, by omega, rfl, rfl, ⟨by unfold good inf64; omega, by rw [List.drop_zero, List.drop_zero]; exact HR.out⟩⟩
          case round =>
            clear HR
            obtain ⟨k, z, hk, rfl, rfl, hT⟩ := hrel
            by_cases hlt : k < ld.length
            · have hlt2 : k < ow.length := by rw [← H1.out]; exact hlt
              obtain ⟨b, o, rfl, hc⟩ := HA.out k hlt
              obtain ⟨b2, o2, rfl, hc2⟩ := HA2.out k hlt2
              have hst := hT.out.2
              rw [dropcons hlt, dropcons hlt2, rest_cons] at hst
              have hxb := HB.out ld[k] (List.getElem_mem _)
              generalize ld[k] = x at *
              generalize ow[k] = y at *
              have HST := Lib.hid hst
              clear hst
              cases hg : gb x with
              | false =>
                have tg := hg
                rw [gb_eq] at tg
                have hR : Hid (R = false) := by show _ = _; have := HST.out; rw [hg] at this; simpa using this.symm
                clear hg
                go_wp2_with fail
                go_ret
                exact ⟨by rw [hR.out]; rfl, rfl⟩
              | true =>
                have tg := hg
                rw [gb_eq] at tg
                by_cases h5 : y < 0
                · have t5 : decide (y < 0) = true := decide_eq_true h5
                  have hR : Hid (R = false) := by show _ = _; have := HST.out; rw [show stranger s y = true by unfold stranger; rw [t5]; rfl] at this; simpa using this.symm
                  clear hg h5
                  go_wp2_with fail
                  go_ret
                  exact ⟨by rw [hR.out]; rfl, rfl⟩
                · have t5 : decide (y < 0) = false := decide_eq_false h5
                  by_cases h6 : s ≤ y
                  · have t6 : decide (s ≤ y) = true := decide_eq_true h6
                    have hR : Hid (R = false) := by show _ = _; have := HST.out; rw [show stranger s y = true by unfold stranger; rw [t5, t6]; rfl] at this; simpa using this.symm
                    clear hg h5 h6
                    go_wp2_with fail
                    go_ret
                    exact ⟨by rw [hR.out]; rfl, rfl⟩
                  · have t6 : decide (s ≤ y) = false := decide_eq_false h6
                    obtain ⟨ha, hgz⟩ := fadd_eq hT.out.1 (gb_nn hxb hg)
                    have hadd := fun w => run_float_arith (P := Try.prog) w .add 48 .f64 _ _ _ ha
                    have hn : Hid (rest s (fadd z x) (ld.drop (k + 1)) (ow.drop (k + 1)) = R) := by
                      show _ = _
                      have := HST.out
                      rw [hg, show stranger s y = false by unfold stranger; rw [t5, t6]; rfl] at this
                      simpa using this
                    have HGZ := Lib.hid hgz
                    clear hg h5 h6 ha hgz
                    go_wp2_with fail
                    go_round
                    case measure => simp only [intOf]; omega
                    case rel => exact ⟨k + 1, _, by omega, by go_num, rfl, HGZ.out, hn.out⟩
            · obtain rfl : ld.length = k := by omega
              have hR := hT.out.2
              rw [List.drop_length, rest_nil, leH_eq] at hR
              go_wp2_with (first
                | (go_at_call 46; refine HG.out.mono ?_; clear HG; rintro e w' ⟨rfl, rfl⟩)
                | fail)
              go_ret
              exact ⟨by rw [← hR]; rfl, rfl⟩
        · have t4 : decide (8 < s) = true := decide_eq_true (by omega)
          rw [decide_eq_false h4]
          clear h1 h2 h3 h4
          go_enter Try.func35, Try.ntmps35
          go_wp2_with fail
          go_ret
          exact ⟨by simp, rfl⟩
      · have t3 : decide (s < 1) = true := decide_eq_true (by omega)
        rw [decide_eq_false h3]
        clear h1 h2 h3
        go_enter Try.func35, Try.ntmps35
        go_wp2_with fail
        go_ret
        exact ⟨by simp, rfl⟩
    · have t2 : decide ((64 : Int) < (ld.length : Int)) = true := decide_eq_true (by omega)
      rw [decide_eq_false h2]
      clear h1 h2
      go_enter Try.func35, Try.ntmps35
      go_wp2_with fail
      go_ret
      exact ⟨by simp, rfl⟩
  · have t1 : ((ld.length : Int) != (ow.length : Int)) = true := by simp; omega
    rw [decide_eq_false h1]
    clear h1
    go_enter Try.func35, Try.ntmps35
    go_wp2_with fail
    go_ret
    exact ⟨by simp, rfl⟩
end Go.Proofs.Ytkpjnikmcojdlaa
