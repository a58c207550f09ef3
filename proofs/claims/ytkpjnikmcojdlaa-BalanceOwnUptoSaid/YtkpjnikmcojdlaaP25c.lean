/- Layer 25 (balance): where a plan ends by itself. No program in sight. -/
import Derived.Test.YtkpjnikmcojdlaaP25b
namespace Go.Proofs.Ytkpjnikmcojdlaa
set_option linter.unusedVariables false

theorem stp_none {L : List Nat} {O : List Int} {S : List Nat} {f i t : Nat} {st : Bst} (h : (stp L O S f i st t).2 = none) : stp L O S f i st t = st ∧ (t ≠ f → ¬ leftOf L O f i t < st.1) := by
  unfold stp at h ⊢
  by_cases htf : t = f
  · rw [if_pos htf]; exact ⟨rfl, fun h => absurd htf h⟩
  · rw [if_neg htf] at h ⊢
    split at h
    · cases h
    · rename_i htk
      rw [if_neg htk]
      refine ⟨rfl, fun _ hlt => htk ?_⟩
      unfold takes
      rw [decide_eq_true hlt]; rfl
theorem rowTo_none {L : List Nat} {O : List Int} {S : List Nat} {f i : Nat} {st : Bst} : ∀ s, (rowTo L O S f i st s).2 = none → rowTo L O S f i st s = st ∧ ∀ t, t < s → t ≠ f → ¬ leftOf L O f i t < st.1
  | 0, h => ⟨rfl, fun t ht => by omega⟩
  | s + 1, h => by
    rw [rowTo_succ] at h ⊢
    obtain ⟨h1, h2⟩ := stp_none h
    rw [h1] at h ⊢
    obtain ⟨h3, h4⟩ := rowTo_none s h
    refine ⟨h3, fun t ht hne => ?_⟩
    rcases Nat.lt_or_eq_of_le (Nat.le_of_lt_succ ht) with h5 | h5
    · exact h4 t h5 hne
    · subst h5
      have := h2 hne
      rw [h3] at this; exact this
theorem seekTo_none {L : List Nat} {O : List Int} {S : List Nat} {f n : Nat} : ∀ k, (seekTo L O S f n k).2 = none → seekTo L O S f n k = (S.getD f 0, none) ∧ ∀ i, i < k → O.getD i 0 = (f : Int) → ∀ t, t < n → t ≠ f → ¬ leftOf L O f i t < S.getD f 0
  | 0, h => ⟨rfl, fun i hi => by omega⟩
  | k + 1, h => by
    rw [seekTo_succ] at h ⊢
    unfold rowAll at h ⊢
    by_cases hk : O.getD k 0 = (f : Int)
    · rw [if_pos hk] at h ⊢
      obtain ⟨h1, h2⟩ := rowTo_none n h
      rw [h1] at h ⊢
      obtain ⟨h3, h4⟩ := seekTo_none k h
      refine ⟨h3, fun i hi hO t ht hne => ?_⟩
      rcases Nat.lt_or_eq_of_le (Nat.le_of_lt_succ hi) with h5 | h5
      · exact h4 i h5 hO t ht hne
      · subst h5
        have := h2 t ht hne
        rw [h3] at this; exact this
    · rw [if_neg hk] at h ⊢
      obtain ⟨h3, h4⟩ := seekTo_none k h
      refine ⟨h3, fun i hi hO t ht hne => ?_⟩
      rcases Nat.lt_or_eq_of_le (Nat.le_of_lt_succ hi) with h5 | h5
      · exact h4 i h5 hO t ht hne
      · subst h5; exact absurd hO hk
/-- no move pays -/
theorem nextM_none {L : List Nat} {O : List Int} {n : Nat} (h : nextM L O n = none) (i : Nat) (hi : i < O.length) (hO : O.getD i 0 = (fullOf (sumsOf L O n) : Int)) (t : Nat) (ht : t < n) (hne : t ≠ fullOf (sumsOf L O n)) :
    ¬ leftOf L O (fullOf (sumsOf L O n)) i t < (sumsOf L O n).getD (fullOf (sumsOf L O n)) 0 := (seekTo_none O.length h).2 i hi hO t ht hne
theorem planF_ended {L : List Nat} {n : Nat} : ∀ (N : Nat) (O : List Int), (planF L n N O).length < N → nextM L (afterF L n N O) n = none ∧ ∀ M, N ≤ M → planF L n M O = planF L n N O
  | 0, O, h => by omega
  | N + 1, O, h => by
    cases hm : nextM L O n with
    | none => rw [afterF_none _ hm]; exact ⟨hm, fun M _ => by rw [planF_none _ hm, planF_none _ hm]⟩
    | some m =>
      rw [planF_some _ hm, List.length_cons] at h
      obtain ⟨h1, h2⟩ := planF_ended (L := L) (n := n) N (O.set m.1 (m.2 : Int)) (by omega)
      rw [afterF_some _ hm]
      refine ⟨h1, fun M hM => ?_⟩
      obtain ⟨M', rfl⟩ : ∃ M', M = M' + 1 := ⟨M - 1, by omega⟩
      rw [planF_some _ hm, planF_some _ hm, h2 M' (by omega)]
theorem applied_one {L : List Nat} {O : List Int} {n i t : Nat} (h : rightB L O (n : Int) = true) (hi : i < O.length) (f : Nat) (hO : O.getD i 0 = (f : Int)) (ht : t < n) (hne : t ≠ f) : applied O (n : Int) [((i : Int), (f : Int), (t : Int))] = some (O.set i (t : Int)) := by
  unfold applied
  rw [right_crowd' h, if_pos rfl, applyAll_cons, if_pos, applyAll_nil, Int.toNat_natCast]
  unfold okMove
  simp only [Int.toNat_natCast]
  exact ⟨by omega, by omega, hO, by omega, by omega, by omega⟩
end Go.Proofs.Ytkpjnikmcojdlaa
