/- Finite words, a word less itself, products; what an invalid operation gives. No program in sight. -/
import Derived.Test.YtjgdeijodjihlaaFly
import Derived.Laws.NewFold
namespace Go.Proofs.Ytjgdeijodjihlaa
open Ieee
set_option linter.unusedVariables false

def num (x : Nat) : Prop := ∃ s m p, D64.read x = .number s m p
theorem near_zero (f : Format) (p : Int) : f.nearest false 0 p = 0 := by unfold Format.nearest Format.word; simp
theorem sub_num {x : Nat} (h : num x) : floatBits .sub .f64 x x = some 0 := by
  obtain ⟨s, m, p, hr⟩ := h
  show D64.sub x x = _
  unfold Format.sub
  rw [hr]
  have hs : Datum.sum (.number s m p) (Datum.opposite (.number s m p)) = some (.number false 0 p) := by
    have h0 : signed s m (p - p).toNat + signed (!s) m (p - p).toNat = 0 := by
      cases s <;> simp [signed] <;> omega
    have h1 : (s && !s) = false := by cases s <;> rfl
    simp only [Datum.opposite, Datum.sum, Int.min_self, h0, if_true, h1]
    rfl
  rw [hs, Option.map_some, write_number, near_zero]
theorem sub_none {x : Nat} (hx : x < 18446744073709551616) (h : ¬ num x) : floatBits .sub .f64 x x = none := by
  show D64.sub x x = _
  unfold Format.sub
  rcases read_cases x hx with ⟨s, m, p, hr, _⟩ | ⟨s, hr, _⟩ | ⟨s, f, hr, _⟩
  · exact absurd ⟨s, m, p, hr⟩ h
  · rw [hr]
    have : Datum.sum (.infinity s) (Datum.opposite (.infinity s)) = none := by cases s <;> rfl
    rw [this]; rfl
  · rw [hr]; rfl
theorem order_zero : (FloatKind.f64.format.order 0 0 != some .eq) = false := by kernel_rfl
/-- a NaN is no number's equal -/
theorem nan_order {b : Nat} (h : ∃ s f, D64.read b = .nan s f) : (FloatKind.f64.format.order b 0 != some .eq) = true := by
  obtain ⟨s, f, hr⟩ := h
  unfold Format.order
  rw [show FloatKind.f64.format.read b = _ from hr]
  rfl
theorem run_sub_nan {P : Program} (t : TypeId) (x y : Nat) (h : floatBits .sub .f64 x y = none) (w : World) : ∃ b, (∃ s f, D64.read b = .nan s f) ∧ (binOp .sub t (.float .f64 x) (.float .f64 y)).run P w = .ok (.float .f64 b) w.drew := by
  have h' : FloatKind.f64.format.sub x y = none := h
  refine ⟨Question.cut (.nanBits .f64 x y) (w.tape w.drawn (.nanBits .f64 x y)), ?_, ?_⟩
  · have hc : ∀ t : Nat, Question.cut (.nanBits .f64 x y) t = (t % 2) * 9223372036854775808 + 9218868437227405312 + 1 + (t / 2) % 4503599627370495 := fun t => rfl
    rw [hc]
    generalize w.tape w.drawn (.nanBits .f64 x y) = t
    have h1 : t % 2 < 2 := Nat.mod_lt _ (by omega)
    have h2 : (t / 2) % 4503599627370495 < 4503599627370495 := Nat.mod_lt _ (by omega)
    generalize t % 2 = a at *
    generalize (t / 2) % 4503599627370495 = c at *
    have hlt : a * 9223372036854775808 + 9218868437227405312 + 1 + c < 18446744073709551616 := by omega
    have hm : (a * 9223372036854775808 + 9218868437227405312 + 1 + c) % 9223372036854775808 = 9218868437227405312 + 1 + c := by omega
    rcases read_cases _ hlt with ⟨s, m, p, _, _, _, _, _, g⟩ | ⟨s, _, _, _, g⟩ | ⟨s, f, hr, _⟩
    · omega
    · omega
    · exact ⟨s, f, hr⟩
  · simp [binOp, Op.floatArith, h', Question.forced]
/-- is a weight right, as the program asks? -/
theorem nn_of {x : Nat} (hx : x < 18446744073709551616) (hn : num x) (h : (FloatKind.f64.format.order x 0 == some .lt) = false) : nn x := by
  obtain ⟨s, m, p, hr⟩ := hn
  refine gb_nn hx ?_
  have hneg := gb_neg x hx
  have he : (FloatKind.f64.format.order x x != some .eq) = false := by
    unfold Format.order
    rw [show FloatKind.f64.format.read x = _ from hr]
    simp only [Datum.order, cmp_self]
    rfl
  rw [he, h] at hneg
  cases hg : gb x with
  | true => rfl
  | false => rw [hg] at hneg; cases hneg
theorem good_num {x : Nat} (hx : good x) (h : num x) : ∃ m p, D64.read x = .number false m p := by
  obtain ⟨s, m, p, hr⟩ := h
  unfold good inf64 at hx
  rcases read_cases x (by omega) with ⟨s', m', p', hr', h0, _⟩ | ⟨s', hr', _⟩ | ⟨s', f', hr', _⟩
  · have := h0 (by omega)
    subst this
    exact ⟨m', p', hr'⟩
  · rw [hr] at hr'; cases hr'
  · rw [hr] at hr'; cases hr'
theorem mul_good {x y : Nat} (hx : good x) (nx : num x) (hy : good y) (ny : num y) : ∃ z, good z ∧ floatBits .mul .f64 x y = some z := by
  obtain ⟨m, p, hr⟩ := good_num hx nx
  obtain ⟨n, q, hr2⟩ := good_num hy ny
  show ∃ z, good z ∧ D64.mul x y = some z
  unfold Format.mul
  rw [hr, hr2]
  have hp : Datum.product (.number false m p) (.number false n q) = some (.number false (m * n) (p + q)) := rfl
  rw [hp, Option.map_some]
  exact ⟨_, write_good _ _, rfl⟩
theorem real_good {m : Nat} (h53 : m < 9007199254740992) : good (realW m) ∧ num (realW m) := by
  unfold realW
  by_cases h : m = 0
  · subst h
    rw [if_pos rfl]
    exact ⟨by unfold good inf64; omega, ⟨_, _, _, read_zero⟩⟩
  · rw [if_neg h]
    have hk := log2_le (m := m) (by omega) h53
    have hf := full (m := m) (by omega) h53
    refine ⟨?_, ⟨_, _, _, read_enc (by omega) h53 (-53) (by omega) (by omega)⟩⟩
    unfold good inf64 enc
    have ha : (-53 + (m.log2 : Int) + 1022).toNat ≤ 2045 := by omega
    generalize (-53 + (m.log2 : Int) + 1022).toNat = A at *
    generalize m * 2 ^ (52 - m.log2) = B at *
    have hm : A * 4503599627370496 ≤ 2045 * 4503599627370496 := Nat.mul_le_mul_right _ ha
    have hn : 2045 * 4503599627370496 + 9007199254740992 = 9218868437227405312 := by decide
    rw [← hn]
    exact Nat.add_le_add hm (Nat.le_of_lt hf.2)
end Go.Proofs.Ytjgdeijodjihlaa
