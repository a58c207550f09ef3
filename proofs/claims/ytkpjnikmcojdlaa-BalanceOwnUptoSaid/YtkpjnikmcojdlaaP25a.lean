/- Layer 25 (balance): the fullest server, what a move leaves, the next move, plans. No program in sight. -/
import Derived.Test.YtkpjnikmcojdlaaB25j
import Derived.Test.YtkpjnikmcojdlaaB25c
import Derived.Test.YtkpjnikmcojdlaaFlo
namespace Go.Proofs.Ytkpjnikmcojdlaa
open Ieee
set_option linter.unusedVariables false

theorem ord_gt {x y : Nat} (hx : good x) (hy : good y) : (FloatKind.f64.format.order x y == some .gt) = decide (y < x) := by
  rw [show FloatKind.f64.format.order x y = some (compare x y) from order_good hx hy]
  rcases Nat.lt_trichotomy x y with h | h | h
  · rw [Nat.compare_eq_lt.2 h, decide_eq_false (by omega)]; rfl
  · rw [Nat.compare_eq_eq.2 h, decide_eq_false (by omega)]; rfl
  · rw [Nat.compare_eq_gt.2 h, decide_eq_true h]; rfl
theorem ord_lt {x y : Nat} (hx : good x) (hy : good y) : (FloatKind.f64.format.order x y == some .lt) = decide (x < y) := by
  rw [show FloatKind.f64.format.order x y = some (compare x y) from order_good hx hy]
  rcases Nat.lt_trichotomy x y with h | h | h
  · rw [Nat.compare_eq_lt.2 h, decide_eq_true h]; rfl
  · rw [Nat.compare_eq_eq.2 h, decide_eq_false (by omega)]; rfl
  · rw [Nat.compare_eq_gt.2 h, decide_eq_false (by omega)]; rfl
theorem ord_eq {x y : Nat} (hx : good x) (hy : good y) : (FloatKind.f64.format.order x y == some .eq) = decide (x = y) := by
  rw [show FloatKind.f64.format.order x y = some (compare x y) from order_good hx hy]
  rcases Nat.lt_trichotomy x y with h | h | h
  · rw [Nat.compare_eq_lt.2 h, decide_eq_false (by omega)]; rfl
  · rw [Nat.compare_eq_eq.2 h, decide_eq_true h]; rfl
  · rw [Nat.compare_eq_gt.2 h, decide_eq_false (by omega)]; rfl
theorem ord_ge {x y : Nat} (hx : good x) (hy : good y) : (FloatKind.f64.format.order x y == some .gt || FloatKind.f64.format.order x y == some .eq) = decide (y ≤ x) := by
  rw [ord_gt hx hy, ord_eq hx hy]
  rcases Nat.lt_trichotomy x y with h | h | h
  · rw [decide_eq_false (by omega), decide_eq_false (by omega), decide_eq_false (by omega)]; rfl
  · rw [decide_eq_false (by omega), decide_eq_true h, decide_eq_true (by omega)]; rfl
  · rw [decide_eq_true h, decide_eq_false (p := x = y) (by omega), decide_eq_true (p := y ≤ x) (by omega)]; rfl
theorem ord_ne {x y : Nat} (hx : good x) (hy : good y) : (FloatKind.f64.format.order x y != some .eq) = decide (x ≠ y) := by
  have h := ord_eq hx hy
  show (!(FloatKind.f64.format.order x y == some .eq)) = _
  rw [h]
  by_cases e : x = y
  · rw [decide_eq_true e, decide_eq_false (by omega)]; rfl
  · rw [decide_eq_false e, decide_eq_true e]; rfl
theorem decode_good {x : Nat} (hx : good x) : (FloatKind.f64.decode x).neg = false := by
  unfold good inf64 at hx
  show (D64.read x).neg = false
  by_cases h : x = 9218868437227405312
  · subst h; rw [read_inf]; rfl
  · obtain ⟨n, q, hr, _⟩ := read_word (z := x) (by omega)
    rw [hr]; rfl
theorem run_max_good {P : Program} (ts : Array TypeId) (t : TypeId) {x y : Nat} (hx : good x) (hy : good y) (w : World) : (Builtin.max_ ts t #[cf x, cf y]).run P w = .ok (cf (max x y)) w := by
  have ho : FloatKind.f64.format.order x y = some (compare x y) := order_good hx hy
  have hd := decode_good hx
  rcases Nat.lt_trichotomy x y with h | h | h
  · rw [Nat.compare_eq_lt.2 h] at ho
    rw [Nat.max_eq_right (by omega)]
    simp [Builtin.max_, Builtin.max2, ho]
  · rw [Nat.compare_eq_eq.2 h] at ho
    subst h
    rw [Nat.max_self]
    simp [Builtin.max_, Builtin.max2, ho]
  · rw [Nat.compare_eq_gt.2 h] at ho
    rw [Nat.max_eq_left (by omega)]
    simp [Builtin.max_, Builtin.max2, ho]
/-- a number's place among loads -/
def fstep (S : List Nat) (k s : Nat) : Nat := if S.getD k 0 < S.getD s 0 then s else k
def fullTo (S : List Nat) (s : Nat) : Nat := (List.range s).foldl (fstep S) 0
theorem fullTo_zero (S : List Nat) : fullTo S 0 = 0 := rfl
theorem fullTo_succ (S : List Nat) (s : Nat) : fullTo S (s + 1) = fstep S (fullTo S s) s := by unfold fullTo; rw [List.range_succ, List.foldl_append]; rfl
def fullOf (S : List Nat) : Nat := fullTo S S.length
theorem fullTo_spec (S : List Nat) : ∀ s, fullTo S s ≤ s - 1 ∧ (∀ i, i < s → S.getD i 0 ≤ S.getD (fullTo S s) 0) ∧ ∀ i, i < fullTo S s → S.getD i 0 < S.getD (fullTo S s) 0
  | 0 => ⟨Nat.le_refl _, fun i h => by omega, fun i h => by rw [fullTo_zero] at h; omega⟩
  | s + 1 => by
    obtain ⟨h1, h2, h3⟩ := fullTo_spec S s
    rw [fullTo_succ]
    unfold fstep
    split
    · rename_i h
      refine ⟨by omega, fun i hi => ?_, fun i hi => ?_⟩
      · rcases Nat.lt_or_eq_of_le (Nat.le_of_lt_succ hi) with h4 | h4
        · exact Nat.le_of_lt (Nat.lt_of_le_of_lt (h2 i h4) h)
        · subst h4; exact Nat.le_refl _
      · exact Nat.lt_of_le_of_lt (h2 i hi) h
    · rename_i h
      refine ⟨by omega, fun i hi => ?_, h3⟩
      rcases Nat.lt_or_eq_of_le (Nat.le_of_lt_succ hi) with h4 | h4
      · exact h2 i h4
      · subst h4; omega
theorem fullOf_lt {S : List Nat} (h : 0 < S.length) : fullOf S < S.length := by have := (fullTo_spec S S.length).1; unfold fullOf; omega
theorem fullOf_ge {S : List Nat} (i : Nat) (h : i < S.length) : S.getD i 0 ≤ S.getD (fullOf S) 0 := (fullTo_spec S S.length).2.1 i h
theorem fullOf_first {S : List Nat} (i : Nat) (h : i < fullOf S) : S.getD i 0 < S.getD (fullOf S) 0 := (fullTo_spec S S.length).2.2 i h
theorem fullOf_unique {S : List Nat} {k m : Nat} (hk : k < S.length) (h1 : ∀ i, i < S.length → S.getD i 0 ≤ m) (h2 : S.getD k 0 = m) (h3 : ∀ i, i < k → S.getD i 0 ≠ m) : k = fullOf S := by
  have hf := fullOf_lt (S := S) (by omega)
  have h4 := fullOf_ge (S := S) k hk
  have h5 := h1 (fullOf S) hf
  have h6 : S.getD (fullOf S) 0 = m := by omega
  rcases Nat.lt_trichotomy k (fullOf S) with h | h | h
  · have := fullOf_first k h; omega
  · exact h
  · exact absurd h6 (h3 _ h)
/-- what a move of a shard from the fullest server to another one leaves -/
def leftOf (L : List Nat) (O : List Int) (f i t : Nat) : Nat := max (ldS (f : Int) 0 L (O.set i (t : Int))) (ldS (t : Int) 0 L (O.set i (t : Int)))
abbrev Bst := Nat × Option (Nat × Nat)
def takes (L : List Nat) (O : List Int) (S : List Nat) (f i t : Nat) (st : Bst) : Bool :=
  decide (leftOf L O f i t < st.1) || (decide (leftOf L O f i t = st.1) && match st.2 with
    | none => false
    | some m => decide (S.getD t 0 < S.getD m.2 0))
def stp (L : List Nat) (O : List Int) (S : List Nat) (f i : Nat) (st : Bst) (t : Nat) : Bst :=
  if t = f then st else if takes L O S f i t st = true then (leftOf L O f i t, some (i, t)) else st
def rowTo (L : List Nat) (O : List Int) (S : List Nat) (f i : Nat) (st : Bst) (s : Nat) : Bst := (List.range s).foldl (stp L O S f i) st
theorem rowTo_zero (L : List Nat) (O : List Int) (S : List Nat) (f i : Nat) (st : Bst) : rowTo L O S f i st 0 = st := rfl
theorem rowTo_succ (L : List Nat) (O : List Int) (S : List Nat) (f i : Nat) (st : Bst) (s : Nat) : rowTo L O S f i st (s + 1) = stp L O S f i (rowTo L O S f i st s) s := by unfold rowTo; rw [List.range_succ, List.foldl_append]; rfl
def rowAll (L : List Nat) (O : List Int) (S : List Nat) (f n : Nat) (st : Bst) (i : Nat) : Bst := if O.getD i 0 = (f : Int) then rowTo L O S f i st n else st
def seekTo (L : List Nat) (O : List Int) (S : List Nat) (f n k : Nat) : Bst := (List.range k).foldl (rowAll L O S f n) (S.getD f 0, none)
theorem seekTo_zero (L : List Nat) (O : List Int) (S : List Nat) (f n : Nat) : seekTo L O S f n 0 = (S.getD f 0, none) := rfl
theorem seekTo_succ (L : List Nat) (O : List Int) (S : List Nat) (f n k : Nat) : seekTo L O S f n (k + 1) = rowAll L O S f n (seekTo L O S f n k) k := by unfold seekTo; rw [List.range_succ, List.foldl_append]; rfl
def nextM (L : List Nat) (O : List Int) (n : Nat) : Option (Nat × Nat) := (seekTo L O (sumsOf L O n) (fullOf (sumsOf L O n)) n O.length).2
def mvOf (f : Nat) (m : Nat × Nat) : Mv := ((m.1 : Int), (f : Int), (m.2 : Int))
/-- a plan of so many moves at most -/
def planF (L : List Nat) (n : Nat) : Nat → List Int → List Mv
  | 0, _ => []
  | k + 1, O => match nextM L O n with
    | none => []
    | some m => mvOf (fullOf (sumsOf L O n)) m :: planF L n k (O.set m.1 (m.2 : Int))
theorem planF_zero (L : List Nat) (n : Nat) (O : List Int) : planF L n 0 O = [] := rfl
theorem planF_none {L : List Nat} {n : Nat} {O : List Int} (k : Nat) (h : nextM L O n = none) : planF L n k O = [] := by
  cases k with
  | zero => rfl
  | succ k => unfold planF; rw [h]
theorem planF_some {L : List Nat} {n : Nat} {O : List Int} {m : Nat × Nat} (k : Nat) (h : nextM L O n = some m) : planF L n (k + 1) O = mvOf (fullOf (sumsOf L O n)) m :: planF L n k (O.set m.1 (m.2 : Int)) := by
  show (match nextM L O n with
    | none => []
    | some m => mvOf (fullOf (sumsOf L O n)) m :: planF L n k (O.set m.1 (m.2 : Int))) = _
  rw [h]
/-- what is taken, and what it is -/
structure StOk (L : List Nat) (O : List Int) (S : List Nat) (f n : Nat) (st : Bst) : Prop where
  le : st.1 ≤ S.getD f 0
  at' : ∀ m, st.2 = some m → m.1 < O.length ∧ O.getD m.1 0 = (f : Int) ∧ m.2 < n ∧ m.2 ≠ f ∧ leftOf L O f m.1 m.2 = st.1 ∧ st.1 < S.getD f 0
theorem stp_ok {L : List Nat} {O : List Int} {S : List Nat} {f n i t : Nat} {st : Bst} (h : StOk L O S f n st) (hi : i < O.length) (hf : O.getD i 0 = (f : Int)) (ht : t < n) : StOk L O S f n (stp L O S f i st t) := by
  unfold stp
  split
  · exact h
  · rename_i hne
    split
    · rename_i htk
      have hlt : leftOf L O f i t < S.getD f 0 := by
        unfold takes at htk
        rw [Bool.or_eq_true] at htk
        rcases htk with h1 | h1
        · have := of_decide_eq_true h1; have := h.le; omega
        · rw [Bool.and_eq_true] at h1
          have h2 := of_decide_eq_true h1.1
          cases hs : st.2 with
          | none => rw [hs] at h1; cases h1.2
          | some m => rw [h2]; exact (h.at' m hs).2.2.2.2.2
      exact ⟨Nat.le_of_lt hlt, fun m hm => by cases hm; exact ⟨hi, hf, ht, hne, rfl, hlt⟩⟩
    · exact h
theorem rowTo_ok {L : List Nat} {O : List Int} {S : List Nat} {f n i : Nat} {st : Bst} (h : StOk L O S f n st) (hi : i < O.length) (hf : O.getD i 0 = (f : Int)) : ∀ s, s ≤ n → StOk L O S f n (rowTo L O S f i st s)
  | 0, _ => h
  | s + 1, hs => by rw [rowTo_succ]; exact stp_ok (rowTo_ok h hi hf s (by omega)) hi hf (by omega)
theorem seekTo_ok (L : List Nat) (O : List Int) (S : List Nat) (f n : Nat) : ∀ k, k ≤ O.length → StOk L O S f n (seekTo L O S f n k)
  | 0, _ => ⟨Nat.le_refl _, fun m hm => by cases hm⟩
  | k + 1, hk => by
    rw [seekTo_succ]
    unfold rowAll
    split
    · rename_i h; exact rowTo_ok (seekTo_ok L O S f n k (by omega)) (by omega) h n (Nat.le_refl _)
    · exact seekTo_ok L O S f n k (by omega)
theorem nextM_ok {L : List Nat} {O : List Int} {n : Nat} {m : Nat × Nat} (h : nextM L O n = some m) : m.1 < O.length ∧ O.getD m.1 0 = (fullOf (sumsOf L O n) : Int) ∧ m.2 < n ∧ m.2 ≠ fullOf (sumsOf L O n) ∧ leftOf L O (fullOf (sumsOf L O n)) m.1 m.2 < (sumsOf L O n).getD (fullOf (sumsOf L O n)) 0 := by
  obtain ⟨a, b, c, d, e, g⟩ := (seekTo_ok L O (sumsOf L O n) (fullOf (sumsOf L O n)) n O.length (Nat.le_refl _)).at' m h
  exact ⟨a, b, c, d, by rw [e]; exact g⟩
theorem good_max {x y : Nat} (hx : good x) (hy : good y) : good (max x y) := by unfold good at *; omega
theorem planF_len (L : List Nat) (n : Nat) : ∀ k O, (planF L n k O).length ≤ k
  | 0, O => Nat.le_refl _
  | k + 1, O => by
    cases h : nextM L O n with
    | none => rw [planF_none _ h]; exact Nat.zero_le _
    | some m => rw [planF_some _ h, List.length_cons]; have := planF_len L n k (O.set m.1 (m.2 : Int)); omega
end Go.Proofs.Ytkpjnikmcojdlaa
