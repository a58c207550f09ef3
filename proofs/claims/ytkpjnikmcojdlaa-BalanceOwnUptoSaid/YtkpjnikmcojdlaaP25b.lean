/- Layer 25 (balance): beginnings of plans, owners behind them. No program in sight. -/
import Derived.Test.YtkpjnikmcojdlaaB25o
namespace Go.Proofs.Ytkpjnikmcojdlaa
set_option linter.unusedVariables false

/-- the owners behind so many moves of the plan -/
def afterF (L : List Nat) (n : Nat) : Nat → List Int → List Int
  | 0, O => O
  | k + 1, O => match nextM L O n with
    | none => O
    | some m => afterF L n k (O.set m.1 (m.2 : Int))
theorem afterF_zero (L : List Nat) (n : Nat) (O : List Int) : afterF L n 0 O = O := rfl
theorem afterF_none {L : List Nat} {n : Nat} {O : List Int} (k : Nat) (h : nextM L O n = none) : afterF L n k O = O := by
  cases k with
  | zero => rfl
  | succ k => unfold afterF; rw [h]
theorem afterF_some {L : List Nat} {n : Nat} {O : List Int} {m : Nat × Nat} (k : Nat) (h : nextM L O n = some m) : afterF L n (k + 1) O = afterF L n k (O.set m.1 (m.2 : Int)) := by
  show (match nextM L O n with
    | none => O
    | some m => afterF L n k (O.set m.1 (m.2 : Int))) = _
  rw [h]
theorem planF_take (L : List Nat) (n : Nat) : ∀ (N k : Nat) (O : List Int), k ≤ (planF L n N O).length → planF L n k O = (planF L n N O).take k
  | N, 0, O, _ => by rw [planF_zero, List.take_zero]
  | 0, k + 1, O, h => by rw [planF_zero] at h; simp at h
  | N + 1, k + 1, O, h => by
    cases hm : nextM L O n with
    | none => rw [planF_none _ hm] at h; simp at h
    | some m =>
      rw [planF_some _ hm] at h ⊢
      rw [planF_some _ hm, List.take_succ_cons, planF_take L n N k _ (by simpa using h)]
theorem planF_drop (L : List Nat) (n : Nat) : ∀ (N k : Nat) (O : List Int), k ≤ (planF L n N O).length → planF L n (N - k) (afterF L n k O) = (planF L n N O).drop k
  | N, 0, O, _ => by rw [afterF_zero, Nat.sub_zero, List.drop_zero]
  | 0, k + 1, O, h => by rw [planF_zero] at h; simp at h
  | N + 1, k + 1, O, h => by
    cases hm : nextM L O n with
    | none => rw [planF_none _ hm] at h; simp at h
    | some m =>
      rw [planF_some _ hm] at h ⊢
      rw [afterF_some _ hm, List.drop_succ_cons, Nat.add_sub_add_right]
      exact planF_drop L n N k _ (by simpa using h)
theorem okMove_next {L : List Nat} {O : List Int} {n : Nat} {m : Nat × Nat} (h : nextM L O n = some m) : okMove (n : Int) O (mvOf (fullOf (sumsOf L O n)) m) := by
  obtain ⟨h1, h2, h3, h4, _⟩ := nextM_ok h
  unfold okMove mvOf
  simp only [Int.toNat_natCast]
  refine ⟨by omega, by omega, h2, by omega, by omega, by omega⟩
theorem applyAll_plan (L : List Nat) (n : Nat) : ∀ (k : Nat) (O : List Int), applyAll (n : Int) O (planF L n k O) = some (afterF L n k O)
  | 0, O => by rw [planF_zero, afterF_zero, applyAll_nil]
  | k + 1, O => by
    cases hm : nextM L O n with
    | none => rw [planF_none _ hm, afterF_none _ hm, applyAll_nil]
    | some m =>
      rw [planF_some _ hm, afterF_some _ hm, applyAll_cons, if_pos (okMove_next hm)]
      have e1 : (mvOf (fullOf (sumsOf L O n)) m).1.toNat = m.1 := by unfold mvOf; simp
      have e2 : (mvOf (fullOf (sumsOf L O n)) m).2.2 = (m.2 : Int) := rfl
      rw [e1, e2]
      exact applyAll_plan L n k _
theorem right_step {L : List Nat} {O : List Int} {n i t : Nat} (h : rightB L O (n : Int) = true) (ht : t < n) : rightB L (O.set i (t : Int)) (n : Int) = true := by
  rw [right_crowd] at h ⊢
  rw [Bool.and_eq_true] at h ⊢
  obtain ⟨h1, h2⟩ := h
  refine ⟨?_, by rw [List.length_set]; exact h2⟩
  unfold crowd at h1 ⊢
  simp only [Bool.and_eq_true, Bool.not_eq_true', decide_eq_true_iff, List.length_set] at h1 ⊢
  refine ⟨h1.1, h1.2.1, h1.2.2.1, ?_⟩
  rw [List.any_eq_false] at h1 ⊢
  intro o ho
  rcases List.mem_or_eq_of_mem_set ho with h | h
  · exact h1.2.2.2 o h
  · subst h; unfold stranger; simp; omega
theorem after_right {L : List Nat} {n : Nat} : ∀ (k : Nat) (O : List Int), rightB L O (n : Int) = true → rightB L (afterF L n k O) (n : Int) = true
  | 0, O, h => h
  | k + 1, O, h => by
    cases hm : nextM L O n with
    | none => rw [afterF_none _ hm]; exact h
    | some m => rw [afterF_some _ hm]; exact after_right k _ (right_step h (nextM_ok hm).2.2.1)
theorem after_len {L : List Nat} {n : Nat} : ∀ (k : Nat) (O : List Int), (afterF L n k O).length = O.length
  | 0, O => rfl
  | k + 1, O => by
    cases hm : nextM L O n with
    | none => rw [afterF_none _ hm]
    | some m => rw [afterF_some _ hm, after_len k, List.length_set]
theorem right_crowd' {L : List Nat} {O : List Int} {s : Int} (h : rightB L O s = true) : crowd O s = true := by
  rw [right_crowd, Bool.and_eq_true] at h; exact h.1
theorem applied_plan {L : List Nat} {O : List Int} {n : Nat} (h : rightB L O (n : Int) = true) (k : Nat) : applied O (n : Int) (planF L n k O) = some (afterF L n k O) := by
  unfold applied
  rw [right_crowd' h, if_pos rfl, applyAll_plan]
end Go.Proofs.Ytkpjnikmcojdlaa
