/- SealTurned: the walk of the law. -/
import Derived.Test.YtbamkkbdcodafaaS2m
namespace Go.Proofs.Ytbamkkbdcodafaa
open Go.RowKit
set_option linter.unusedVariables false

theorem tkn_xor : ∀ (p : List (BitVec 8)) (u d : BitVec 32), tkn (u ^^^ d) p = tkn u p ^^^ stpN (8 * p.length) d
  | [], u, d => by rw [tkn_nil, tkn_nil]; simp [stpN_zero]
  | b :: p, u, d => by
    rw [tkn_cons, tkn_cons, tk1_eq, tk1_eq, show u ^^^ d ^^^ b.setWidth 32 = (u ^^^ b.setWidth 32) ^^^ d by ac_rfl, stpN_xor, tkn_xor p, ← stpN_add, List.length_cons]
    congr 2
    omega
/-- a byte turned, the sum turned -/
theorem crc_turn (v : BitVec 32) (l : List (BitVec 8)) (i : Nat) (hi : i < l.length) (b : BitVec 8) : ~~~ tkn v (l.set i (l[i] ^^^ b)) = trnw (~~~ tkn v l) ((l.length : Int) - 1 - i) b := by
  have e0 : l = l.take i ++ l[i] :: l.drop (i + 1) := by rw [← List.drop_eq_getElem_cons hi, List.take_append_drop]
  have e1 : l.set i (l[i] ^^^ b) = l.take i ++ (l[i] ^^^ b) :: l.drop (i + 1) := by rw [List.set_eq_take_append_cons_drop, if_pos hi]
  rw [e1]
  conv => rhs; rw [e0]
  unfold trnw
  rw [tkn_append, tkn_append, tkn_cons, tkn_cons, tk1_eq, tk1_eq, BitVec.setWidth_xor, ← BitVec.xor_assoc, stpN_xor, tkn_xor, stn_eq, ← stpN_add, ← stpN_add]
  have hlen : ((((l.take i ++ l[i] :: l.drop (i + 1)).length : Nat) : Int) - 1 - i).toNat = (l.drop (i + 1)).length := by rw [← e0, List.length_drop]; omega
  rw [hlen]
  generalize tkn (stpN 8 (tkn v (l.take i) ^^^ (l[i]).setWidth 32)) (l.drop (i + 1)) = X
  generalize stpN (8 + 8 * (l.drop (i + 1)).length) (b.setWidth 32) = D
  rw [BitVec.xor_comm D]
  apply BitVec.eq_of_getLsbD_eq
  intro j hj
  simp only [BitVec.getLsbD_not, BitVec.getLsbD_xor, hj]
  cases X.getLsbD j <;> cases D.getLsbD j <;> rfl
theorem in_or_out (a : Int) (n : Nat) : (∃ A : Nat, a = (A : Int) ∧ A < n) ∨ decide ((0 : Int) ≤ a) = false ∨ (decide ((0 : Int) ≤ a) = true ∧ decide (a < (n : Int)) = false) := by
  rcases (by omega : a < 0 ∨ (0 ≤ a ∧ a < n) ∨ (0 ≤ a ∧ ¬ a < n)) with h | h | h
  · exact Or.inr (Or.inl (decide_eq_false (by omega)))
  · exact Or.inl ⟨a.toNat, by omega, by omega⟩
  · exact Or.inr (Or.inr ⟨decide_eq_true h.1, decide_eq_false h.2⟩)
/-- what the walk knows at a turn: the text, its sum, the world -/
structure At (W w : World) (B n : Nat) (qv : Value) (S : BitVec 32) (Q : List (BitVec 8)) : Prop where
  own : Own w B 5 cb qv Q
  len : Q.length = n
  sum : ~~~ tkn 0xFFFFFFFF#32 Q = S
  ext : Ext W w
  base : W.heap.size ≤ B
theorem At.turned {W w : World} {B n : Nat} {qv : Value} {S : BitVec 32} {Q : List (BitVec 8)} (h : At W w B n qv S Q) (i : Nat) (hi : i < n) (b : BitVec 8) :
    ∃ g qc x, qv = .slice (some ⟨g, 0, none⟩) n qc ∧ w.cell? ⟨g, i, none⟩ = some (cb x) ∧ w.frozen? ⟨g, i, none⟩ = false ∧
      ∀ w', Ext (w.setCell ⟨g, i, none⟩ (cb (x ^^^ b))) w' → At W w' B n qv (trnw S ((n : Int) - 1 - i) b) (Q.set i (x ^^^ b)) := by
  obtain ⟨qa, qc, hv, hf⟩ := h.own.form
  have hi' : i < Q.length := by rw [h.len]; exact hi
  obtain ⟨g, rfl, hBg, hlt, hcell, hfree, hset⟩ := hf i hi'
  refine ⟨g, qc, Q[i], by rw [hv, h.len], hcell, hfree, fun w' e => ⟨e.own (hset _), by rw [List.length_set]; exact h.len, ?_, (h.ext.set (p := ⟨g, i, none⟩) (Nat.le_trans h.base hBg) _).trans e, h.base⟩⟩
  rw [crc_turn _ _ _ hi', h.sum, h.len]
theorem At.same {W w w' : World} {B n : Nat} {qv : Value} {S : BitVec 32} {Q : List (BitVec 8)} (h : At W w B n qv S Q) (e : Ext w w') : At W w' B n qv S Q := ⟨e.own h.own, h.len, h.sum, h.ext.trans e, h.base⟩
end Go.Proofs.Ytbamkkbdcodafaa
