/- Arrays of words, compared. No program in sight. -/
import Derived.Test.YtjcbmlpfpcpakaaExt
import Derived.ChangeKeysEq
import Derived.Laws.StructEq
namespace Go.Proofs.Ytjcbmlpfpcpakaa
open Go.RowKit
set_option linter.unusedVariables false

theorem run_eqItems_words {P : Program} {N : Nat} {k : IntKind} (w : World) (d : Nat) {e : TypeId} (he : P.underlying e = some (.int k)) (hc : P.cellsOf e = 1) (l m : List (BitVec N)) :
    ∀ is : List Nat, (∀ i ∈ is, i < l.length ∧ i < m.length) →
      (Op.eqItems (d + 1) e (P.cellsOf e) (V (fun x => .int k (Bv x)) l) (V (fun x => .int k (Bv x)) m) is).run P w = .ok (is.all fun i => l.getD i 0#N == m.getD i 0#N) w
  | [], _ => by simp [Op.eqItems]
  | i :: is, h => by
    have hi := h i (by simp)
    have ih := run_eqItems_words w d he hc l m is (fun j hj => h j (by simp [hj]))
    have hpl : P.plainKey e = true := by simp [Program.plainKey, he]
    have h1 := run_part_plain (P := P) (w := w) hpl (V_at (fun x => Value.int k (Bv x)) l i 0#N hi.1)
    have h2 := run_part_plain (P := P) (w := w) hpl (V_at (fun x => Value.int k (Bv x)) m i 0#N hi.2)
    rw [hc] at ih ⊢
    simp only [Op.eqItems, Nat.mul_one, Sem.run_bind, h1, h2, Result.andThen_ok, run_equalIn_int w d e k k _ _ he]
    rw [eqw]
    cases hx : (l.getD i 0#N == m.getD i 0#N) with
    | false =>
      simp only [List.all_cons, hx, Bool.false_and]
      simp
    | true =>
      simp only [List.all_cons, hx, Bool.true_and]
      simpa using ih
theorem all_getD {N : Nat} (l m : List (BitVec N)) (n : Nat) (hl : l.length = n) (hm : m.length = n) : ((List.range n).all fun i => l.getD i 0#N == m.getD i 0#N) = decide (l = m) := by
  rw [Bool.eq_iff_iff, decide_eq_true_iff, List.all_eq_true]
  constructor
  · intro h
    apply List.ext_getElem (by omega)
    intro i h1 h2
    have := h i (by simp; omega)
    rw [beq_iff_eq, List.getD_eq_getElem?_getD, List.getD_eq_getElem?_getD, List.getElem?_eq_getElem h1, List.getElem?_eq_getElem h2] at this
    exact this
  · rintro rfl i _
    simp
/-- two arrays of words are alike where their lists are -/
theorem run_equal_words {P : Program} {N n : Nat} {k : IntKind} (w : World) (d : Nat) {t e : TypeId} {i : TypeInfo} (ht : P.underlying t = some (.array n e)) (he : P.underlying e = some (.int k)) (hi : P.info? e = some i) (hc : P.cellsOf e = 1) (l m : List (BitVec N)) (hl : l.length = n) (hm : m.length = n) :
    (Op.equalIn (d + 2) t (.agg (V (fun x => .int k (Bv x)) l)) (.agg (V (fun x => .int k (Bv x)) m))).run P w = .ok (decide (l = m)) w := by
  rw [run_equalIn_array w (d + 1) _ _ ht hi, run_eqItems_words w d he hc l m _ (fun j hj => by simp at hj; omega), all_getD l m n hl hm]
end Go.Proofs.Ytjcbmlpfpcpakaa
