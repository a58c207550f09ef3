/- Layer 25 (balance): loads from the greatest down: a move makes them come ahead. No program in sight. -/
import Derived.Test.YtkpjnikmcojdlaaP25c
namespace Go.Proofs.Ytkpjnikmcojdlaa
set_option linter.unusedVariables false

def insF (x : Nat) : List Nat → List Nat
  | [] => [x]
  | y :: r => if x ≤ y then y :: insF x r else x :: y :: r
def fallTo (acc : List Nat) (S : List Nat) : List Nat := S.foldl (fun out x => insF x out) acc
def kF (x : Nat) : List Nat → Nat
  | [] => 0
  | y :: r => if x ≤ y then kF x r + 1 else 0
theorem kF_le (x : Nat) : ∀ l, kF x l ≤ l.length
  | [] => Nat.le_refl _
  | y :: r => by unfold kF; split <;> simp [kF_le x r]
theorem insF_eq (x : Nat) : ∀ l, insF x l = l.take (kF x l) ++ x :: l.drop (kF x l)
  | [] => rfl
  | y :: r => by
    unfold insF kF
    split
    · rw [insF_eq x r]; rfl
    · rfl
theorem insF_len (x : Nat) (l : List Nat) : (insF x l).length = l.length + 1 := by
  rw [insF_eq]; have := kF_le x l; simp; omega
theorem kF_lt {x : Nat} : ∀ (l : List Nat) (k : Nat), k < kF x l → x ≤ l.getD k 0
  | [], k, h => by unfold kF at h; omega
  | y :: r, 0, h => by
    unfold kF at h
    split at h
    · rename_i hy; exact hy
    · omega
  | y :: r, k + 1, h => by
    unfold kF at h
    split at h
    · exact kF_lt r k (by omega)
    · omega
theorem kF_at {x : Nat} : ∀ (l : List Nat), kF x l < l.length → l.getD (kF x l) 0 < x
  | [], h => by simp at h
  | y :: r, h => by
    unfold kF at h ⊢
    split
    · rename_i hy
      rw [if_pos hy] at h
      exact kF_at r (by simpa using h)
    · rename_i hy; exact Nat.lt_of_not_le hy
theorem insF_mem {x z : Nat} {l : List Nat} (h : z ∈ insF x l) : z = x ∨ z ∈ l := by
  rw [insF_eq] at h
  rcases List.mem_append.1 h with h | h
  · exact Or.inr (List.mem_of_mem_take h)
  · rcases List.mem_cons.1 h with h | h
    · exact Or.inl h
    · exact Or.inr (List.mem_of_mem_drop h)
theorem insF_sorted {x : Nat} : ∀ {l : List Nat}, l.Pairwise (· ≥ ·) → (insF x l).Pairwise (· ≥ ·)
  | [], _ => by unfold insF; simp
  | y :: r, h => by
    rw [List.pairwise_cons] at h
    unfold insF
    split
    · rename_i hy
      rw [List.pairwise_cons]
      refine ⟨fun z hz => ?_, insF_sorted h.2⟩
      rcases insF_mem hz with rfl | hz
      · exact hy
      · exact h.1 z hz
    · rename_i hy
      rw [List.pairwise_cons, List.pairwise_cons]
      refine ⟨fun z hz => ?_, h.1, h.2⟩
      rcases List.mem_cons.1 hz with rfl | hz
      · show z ≤ x; omega
      · have := h.1 z hz; show z ≤ x; omega
theorem insF_count (x top : Nat) (l : List Nat) : (insF x l).count top = l.count top + (if x = top then 1 else 0) := by
  rw [insF_eq, List.count_append, List.count_cons]
  have h := List.take_append_drop (kF x l) l
  have h2 : l.count top = (l.take (kF x l)).count top + (l.drop (kF x l)).count top := by rw [← List.count_append, h]
  rw [h2]
  have : (x == top) = decide (x = top) := rfl
  by_cases hx : x = top
  · simp [hx]; omega
  · simp [hx]
theorem fallTo_nil (acc : List Nat) : fallTo acc [] = acc := rfl
theorem fallTo_cons (acc : List Nat) (x : Nat) (S : List Nat) : fallTo acc (x :: S) = fallTo (insF x acc) S := rfl
theorem fallTo_facts (top : Nat) : ∀ (S acc : List Nat), acc.Pairwise (· ≥ ·) → (∀ z ∈ acc, z ≤ top) → (∀ z ∈ S, z ≤ top) →
    (fallTo acc S).Pairwise (· ≥ ·) ∧ (∀ z ∈ fallTo acc S, z ≤ top) ∧ (fallTo acc S).count top = acc.count top + S.count top ∧ (fallTo acc S).length = acc.length + S.length
  | [], acc, h1, h2, _ => ⟨h1, h2, by simp [fallTo], by simp [fallTo]⟩
  | x :: S, acc, h1, h2, h3 => by
    rw [fallTo_cons]
    have hx := h3 x (by simp)
    obtain ⟨a, b, c, d⟩ := fallTo_facts top S (insF x acc) (insF_sorted h1) (fun z hz => by
      rcases insF_mem hz with rfl | hz
      · exact hx
      · exact h2 z hz) (fun z hz => h3 z (by simp [hz]))
    refine ⟨a, b, ?_, ?_⟩
    · rw [c, insF_count, List.count_cons]
      by_cases e : x = top
      · simp [e]; omega
      · simp [e]
    · rw [d, insF_len, List.length_cons]; omega
theorem split_top {top : Nat} : ∀ {l : List Nat}, l.Pairwise (· ≥ ·) → (∀ z ∈ l, z ≤ top) → ∃ r, l = List.replicate (l.count top) top ++ r ∧ ∀ z ∈ r, z < top
  | [], _, _ => ⟨[], by simp, fun z h => by cases h⟩
  | y :: s, h1, h2 => by
    rw [List.pairwise_cons] at h1
    by_cases hy : y = top
    · subst hy
      obtain ⟨r, h3, h4⟩ := split_top h1.2 (fun z hz => h2 z (by simp [hz]))
      refine ⟨r, ?_, h4⟩
      rw [List.count_cons_self, List.replicate_succ, List.cons_append, ← h3]
    · have hlt : ∀ z ∈ y :: s, z < top := fun z hz => by
        have hy2 := h2 y (by simp)
        rcases List.mem_cons.1 hz with rfl | hz
        · omega
        · have := h1.1 z hz; omega
      refine ⟨y :: s, ?_, hlt⟩
      have : (y :: s).count top = 0 := List.count_eq_zero.2 (fun h => Nat.lt_irrefl _ (hlt top h))
      rw [this]; rfl
def aheadF : List Nat → List Nat → Bool
  | a :: r, b :: s => if a = b then aheadF r s else decide (a < b)
  | _, _ => false
theorem aheadF_cons (a b : Nat) (r s : List Nat) : aheadF (a :: r) (b :: s) = if a = b then aheadF r s else decide (a < b) := rfl
theorem aheadF_nil (b : List Nat) : aheadF [] b = false := rfl
theorem aheadF_nil' (a : List Nat) : aheadF a [] = false := by cases a <;> rfl
theorem aheadF_rep (top : Nat) : ∀ (k : Nat) (a b : List Nat), aheadF (List.replicate k top ++ a) (List.replicate k top ++ b) = aheadF a b
  | 0, a, b => rfl
  | k + 1, a, b => by
    rw [List.replicate_succ, List.cons_append, List.cons_append]
    rw [aheadF_cons, if_pos rfl]
    exact aheadF_rep top k a b
/-- fewer of the greatest: ahead -/
theorem fall_ahead {S S' : List Nat} {top : Nat} (h1 : ∀ z ∈ S, z ≤ top) (h2 : ∀ z ∈ S', z ≤ top) (hl : S'.length = S.length) (hc : S'.count top < S.count top) : aheadF (fallTo [] S') (fallTo [] S) = true := by
  obtain ⟨a1, a2, a3, a4⟩ := fallTo_facts top S [] List.Pairwise.nil (fun z h => by cases h) h1
  obtain ⟨b1, b2, b3, b4⟩ := fallTo_facts top S' [] List.Pairwise.nil (fun z h => by cases h) h2
  obtain ⟨r, e1, e2⟩ := split_top a1 a2
  obtain ⟨q, e3, e4⟩ := split_top b1 b2
  rw [a3, List.count_nil, Nat.zero_add] at e1
  rw [b3, List.count_nil, Nat.zero_add] at e3
  rw [e1] at a4
  rw [e3] at b4
  rw [e1, e3]
  obtain ⟨d, hd⟩ : ∃ d, S.count top = S'.count top + (d + 1) := ⟨S.count top - S'.count top - 1, by omega⟩
  rw [hd, ← List.replicate_append_replicate, List.append_assoc, aheadF_rep, List.replicate_succ, List.cons_append]
  simp only [List.length_append, List.length_replicate, List.length_nil] at a4 b4
  cases q with
  | nil => simp only [List.length_nil] at b4; omega
  | cons x q =>
    have hx := e4 x (by simp)
    rw [aheadF_cons, if_neg (by omega)]
    exact decide_eq_true hx
theorem ldS_other (v f t : Int) (hv1 : v ≠ f) (hv2 : v ≠ t) : ∀ (L : List Nat) (O : List Int) (i : Nat) (y : Nat), O.getD i 0 = f → ldS v y L (O.set i t) = ldS v y L O
  | [], O, i, y, _ => by rw [ldS_nil, ldS_nil]
  | x :: r, [], i, y, _ => by simp
  | x :: r, o :: q, 0, y, h => by
    have h' : o = f := h
    rw [List.set_cons_zero, ldS_cons, ldS_cons, if_neg (by omega), if_neg (by omega)]
  | x :: r, o :: q, i + 1, y, h => by
    rw [List.set_cons_succ, ldS_cons, ldS_cons]
    exact ldS_other v f t hv1 hv2 r q i _ (by simpa using h)
theorem count_set_lt {S : List Nat} {f top a : Nat} (hf : f < S.length) (h : S.getD f 0 = top) (ha : a < top) : (S.set f a).count top + 1 = S.count top := by
  induction S generalizing f with
  | nil => simp at hf
  | cons y r ih =>
    cases f with
    | zero =>
      have hy : y = top := h
      subst hy
      rw [List.set_cons_zero, List.count_cons_self, List.count_cons_of_ne (by omega)]
    | succ f =>
      rw [List.set_cons_succ, List.count_cons, List.count_cons]
      have := ih (f := f) (by simpa using hf) (by simpa using h)
      omega
theorem count_set_le {S : List Nat} {f top a : Nat} (ha : a < top) : (S.set f a).count top ≤ S.count top := by
  induction S generalizing f with
  | nil => simp
  | cons y r ih =>
    cases f with
    | zero =>
      rw [List.set_cons_zero, List.count_cons_of_ne (by omega), List.count_cons]
      omega
    | succ f =>
      rw [List.set_cons_succ, List.count_cons, List.count_cons]
      have := ih (f := f)
      omega
/-- what a move of the plan makes of the loads -/
theorem move_better {L : List Nat} {O : List Int} {n : Nat} {m : Nat × Nat} (h : nextM L O n = some m) :
    (sumsOf L (O.set m.1 (m.2 : Int)) n).getD (fullOf (sumsOf L O n)) 0 < (sumsOf L O n).getD (fullOf (sumsOf L O n)) 0 ∧
    (sumsOf L (O.set m.1 (m.2 : Int)) n).getD m.2 0 < (sumsOf L O n).getD (fullOf (sumsOf L O n)) 0 ∧
    aheadF (fallTo [] (sumsOf L (O.set m.1 (m.2 : Int)) n)) (fallTo [] (sumsOf L O n)) = true := by
  obtain ⟨h1, h2, h3, h4, h5⟩ := nextM_ok h
  obtain ⟨S, hS⟩ : ∃ S, sumsOf L O n = S := ⟨_, rfl⟩
  obtain ⟨S', hS'⟩ : ∃ S, sumsOf L (O.set m.1 (m.2 : Int)) n = S := ⟨_, rfl⟩
  rw [hS] at h2 h4 h5 ⊢
  rw [hS']
  obtain ⟨f, hf⟩ : ∃ f, fullOf S = f := ⟨_, rfl⟩
  rw [hf] at h2 h4 h5 ⊢
  have hl : S.length = n := by rw [← hS, sumsOf_len]
  have hl' : S'.length = n := by rw [← hS', sumsOf_len]
  have hfn : f < n := by rw [← hf, ← hl]; exact fullOf_lt (by omega)
  have ev : ∀ v, v < n → S'.getD v 0 = ldS (v : Int) 0 L (O.set m.1 (m.2 : Int)) := fun v hv => by rw [← hS', sumsOf_getD hv]
  have ew : ∀ v, v < n → S.getD v 0 = ldS (v : Int) 0 L O := fun v hv => by rw [← hS, sumsOf_getD hv]
  have hp : S'.getD f 0 < S.getD f 0 := by
    rw [ev f hfn]; unfold leftOf at h5; omega
  have hq : S'.getD m.2 0 < S.getD f 0 := by
    rw [ev m.2 h3]; unfold leftOf at h5; omega
  refine ⟨hp, hq, ?_⟩
  have hset : S' = (S.set f (S'.getD f 0)).set m.2 (S'.getD m.2 0) := by
    apply List.ext_getElem (by simp [hl, hl'])
    intro j g1 g2
    have hj : j < n := by omega
    rw [List.getElem_set, List.getElem_set]
    split
    · rename_i e; subst e; exact (getD_eq 0 g1).symm
    · split
      · rename_i e; subst e; exact (getD_eq 0 g1).symm
      · rename_i e1 e2
        rw [← getD_eq 0 g1, ← getD_eq 0 (by omega : j < S.length), ev j hj, ew j hj]
        exact ldS_other (j : Int) (f : Int) (m.2 : Int) (by omega) (by omega) L O m.1 0 h2
  have hle : ∀ z ∈ S, z ≤ S.getD f 0 := fun z hz => by
    obtain ⟨j, hj, rfl⟩ := List.getElem_of_mem hz
    rw [← getD_eq 0 hj, ← hf]; exact fullOf_ge j hj
  refine fall_ahead hle (fun z hz => ?_) (by omega) ?_
  · rw [hset] at hz
    rcases List.mem_or_eq_of_mem_set hz with hz | hz
    · rcases List.mem_or_eq_of_mem_set hz with hz | hz
      · exact hle z hz
      · rw [hz]; omega
    · rw [hz]; omega
  · rw [hset]
    have c1 := count_set_lt (S := S) (by omega) rfl hp
    have c2 := count_set_le (S := S.set f (S'.getD f 0)) (f := m.2) hq
    omega
attribute [irreducible] insF fallTo kF aheadF
end Go.Proofs.Ytkpjnikmcojdlaa
