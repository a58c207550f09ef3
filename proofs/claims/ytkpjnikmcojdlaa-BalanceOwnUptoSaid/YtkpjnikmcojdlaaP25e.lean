/- Layer 25 (balance): whole loads: no server bears more than twice another's, where it could move a shard. No program in sight. -/
import Derived.Test.YtkpjnikmcojdlaaP25c
import Derived.Test.YtkpjnikmcojdlaaFlw
namespace Go.Proofs.Ytkpjnikmcojdlaa
set_option linter.unusedVariables false

/-- a server's whole load; how many loaded shards it has -/
def isum (v : Int) : List Nat → List Int → Nat
  | x :: r, o :: q => (if o = v then x else 0) + isum v r q
  | _, _ => 0
def icnt (v : Int) : List Nat → List Int → Nat
  | x :: r, o :: q => (if o = v ∧ 0 < x then 1 else 0) + icnt v r q
  | _, _ => 0
theorem isum_cons (v : Int) (x : Nat) (r : List Nat) (o : Int) (q : List Int) : isum v (x :: r) (o :: q) = (if o = v then x else 0) + isum v r q := rfl
theorem icnt_cons (v : Int) (x : Nat) (r : List Nat) (o : Int) (q : List Int) : icnt v (x :: r) (o :: q) = (if o = v ∧ 0 < x then 1 else 0) + icnt v r q := rfl
theorem isum_nil (v : Int) (q : List Int) : isum v [] q = 0 := by cases q <;> rfl
theorem icnt_nil (v : Int) (q : List Int) : icnt v [] q = 0 := by cases q <;> rfl
theorem isum_nil' (v : Int) (l : List Nat) : isum v l [] = 0 := by cases l <;> rfl
theorem icnt_nil' (v : Int) (l : List Nat) : icnt v l [] = 0 := by cases l <;> rfl
theorem isum_le (v : Int) : ∀ (l : List Nat) (O : List Int), isum v l O ≤ l.sum
  | [], O => by rw [isum_nil]; exact Nat.zero_le _
  | x :: r, [] => by rw [isum_nil']; exact Nat.zero_le _
  | x :: r, o :: q => by
    rw [isum_cons, List.sum_cons]
    have := isum_le v r q
    split <;> omega
theorem icnt_le (v : Int) : ∀ (l : List Nat) (O : List Int), icnt v l O ≤ l.length
  | [], O => by rw [icnt_nil]; exact Nat.zero_le _
  | x :: r, [] => by rw [icnt_nil']; exact Nat.zero_le _
  | x :: r, o :: q => by
    rw [icnt_cons, List.length_cons]
    have := icnt_le v r q
    split <;> omega
theorem ldS_whl (v : Int) : ∀ (l : List Nat) (O : List Int) (y : Nat), y + l.sum ≤ 9007199254740992 → ldS v (whl y) (l.map whl) O = whl (y + isum v l O)
  | [], O, y, h => by rw [List.map_nil, ldS_nil, isum_nil, Nat.add_zero]
  | x :: r, [], y, h => by rw [isum_nil', Nat.add_zero, List.map_cons]; unfold ldS; rfl
  | x :: r, o :: q, y, h => by
    rw [List.sum_cons] at h
    rw [List.map_cons, ldS_cons, isum_cons]
    have e : (if o = v then fadd (whl y) (whl x) else whl y) = whl (y + if o = v then x else 0) := by
      split
      · unfold fadd; rw [whl_add (by omega)]; rfl
      · rfl
    rw [e, ldS_whl v r q _ (by split <;> omega), Nat.add_assoc]
theorem load_whl {l : List Nat} (O : List Int) (v : Int) (h : l.sum ≤ 9007199254740992) : ldS v 0 (l.map whl) O = whl (isum v l O) := by
  have e := ldS_whl v l O 0 (by omega)
  rw [whl_zero, Nat.zero_add] at e
  exact e
theorem isum_set (f t : Int) (hne : t ≠ f) : ∀ (l : List Nat) (O : List Int) (i : Nat), i < l.length → i < O.length → O.getD i 0 = f →
    isum f l (O.set i t) + l.getD i 0 = isum f l O ∧ isum t l (O.set i t) = isum t l O + l.getD i 0
  | [], O, i, h, _, _ => by simp at h
  | x :: r, [], i, _, h, _ => by simp at h
  | x :: r, o :: q, 0, _, _, h => by
    have h' : o = f := h
    subst h'
    rw [List.set_cons_zero, isum_cons, isum_cons, isum_cons, isum_cons, if_neg hne, if_pos rfl, if_pos rfl, if_neg (by omega)]
    show _ + x = _ ∧ _ = _ + x
    omega
  | x :: r, o :: q, i + 1, h1, h2, h => by
    obtain ⟨a, b⟩ := isum_set f t hne r q i (by simpa using h1) (by simpa using h2) (by simpa using h)
    rw [List.set_cons_succ, isum_cons, isum_cons, isum_cons, isum_cons]
    have e : (x :: r).getD (i + 1) 0 = r.getD i 0 := by simp
    rw [e]
    omega
theorem loaded_one (v : Int) : ∀ (l : List Nat) (O : List Int), 0 < icnt v l O → ∃ i, i < l.length ∧ i < O.length ∧ O.getD i 0 = v ∧ 0 < l.getD i 0 ∧ l.getD i 0 ≤ isum v l O
  | [], O, h => by rw [icnt_nil] at h; omega
  | x :: r, [], h => by rw [icnt_nil'] at h; omega
  | x :: r, o :: q, h => by
    rw [icnt_cons] at h
    by_cases hx : o = v ∧ 0 < x
    · refine ⟨0, by simp, by simp, hx.1, hx.2, ?_⟩
      rw [isum_cons, if_pos hx.1]
      show x ≤ _
      omega
    · rw [if_neg hx] at h
      obtain ⟨i, a, b, c, d, e⟩ := loaded_one v r q (by omega)
      refine ⟨i + 1, by simpa using a, by simpa using b, by simpa using c, by simpa using d, ?_⟩
      rw [isum_cons]
      have e2 : (x :: r).getD (i + 1) 0 = r.getD i 0 := by simp
      rw [e2]
      omega
theorem loaded_two (v : Int) : ∀ (l : List Nat) (O : List Int), 1 < icnt v l O → ∃ i, i < l.length ∧ i < O.length ∧ O.getD i 0 = v ∧ 0 < l.getD i 0 ∧ 2 * l.getD i 0 ≤ isum v l O
  | [], O, h => by rw [icnt_nil] at h; omega
  | x :: r, [], h => by rw [icnt_nil'] at h; omega
  | x :: r, o :: q, h => by
    rw [icnt_cons] at h
    by_cases hx : o = v ∧ 0 < x
    · rw [if_pos hx] at h
      obtain ⟨i, a, b, c, d, e⟩ := loaded_one v r q (by omega)
      rw [isum_cons, if_pos hx.1]
      by_cases hle : x ≤ r.getD i 0
      · refine ⟨0, by simp, by simp, hx.1, hx.2, ?_⟩
        show 2 * x ≤ _
        omega
      · refine ⟨i + 1, by simpa using a, by simpa using b, by simpa using c, by simpa using d, ?_⟩
        have e2 : (x :: r).getD (i + 1) 0 = r.getD i 0 := by simp
        rw [e2]
        omega
    · rw [if_neg hx] at h
      obtain ⟨i, a, b, c, d, e⟩ := loaded_two v r q (by omega)
      refine ⟨i + 1, by simpa using a, by simpa using b, by simpa using c, by simpa using d, ?_⟩
      rw [isum_cons]
      have e2 : (x :: r).getD (i + 1) 0 = r.getD i 0 := by simp
      rw [e2]
      omega
/-- where no move pays, the fullest server with two loaded shards bears at most twice any other's load -/
theorem twice_law {l : List Nat} {O : List Int} {n f : Nat} (hs : l.sum ≤ 9007199254740992) (hn : nextM (l.map whl) O n = none) (hf : fullOf (sumsOf (l.map whl) O n) = f) (hfn : f < n) {t : Nat} (ht : t < n)
    (h1 : 1 < icnt (f : Int) l O) : isum (f : Int) l O ≤ 2 * isum (t : Int) l O := by
  by_cases hne : t = f
  · subst hne; omega
  · obtain ⟨i, a, b, c, d, e⟩ := loaded_two (f : Int) l O h1
    have h := nextM_none hn i b (by rw [hf]; exact c) t ht (by rw [hf]; exact hne)
    rw [hf, sumsOf_getD hfn, load_whl O _ hs] at h
    unfold leftOf at h
    rw [load_whl _ _ hs, load_whl _ _ hs] at h
    obtain ⟨g1, g2⟩ := isum_set (f : Int) (t : Int) (by omega) l O i a b c
    have k1 := isum_le (f : Int) l (O.set i (t : Int))
    have k2 := isum_le (t : Int) l (O.set i (t : Int))
    have k3 := isum_le (f : Int) l O
    have l1 := whl_lt (a := isum (f : Int) l (O.set i (t : Int))) (b := isum (f : Int) l O) (by omega) (by omega)
    have l2 := whl_lt (a := isum (t : Int) l (O.set i (t : Int))) (b := isum (f : Int) l O) (by omega) (by omega)
    have h3 := l1.2 (by omega)
    by_cases h4 : isum (t : Int) l (O.set i (t : Int)) < isum (f : Int) l O
    · have h5 := l2.2 h4
      exact absurd (Nat.max_lt.2 ⟨h3, h5⟩) h
    · omega
attribute [irreducible] isum icnt
end Go.Proofs.Ytkpjnikmcojdlaa
