/- SealTold: the walk of the law, and its plain side. -/
import Derived.Test.YtbamkkbdcodafaaS2h
import Derived.Test.YtbamkkbdcodafaaP2b
namespace Go.Proofs.Ytbamkkbdcodafaa
open Go.RowKit
set_option linter.unusedVariables false

/-- a text in which the bytes from a on are turned, the first k of them -/
def trn (l : List (BitVec 8)) (a : Nat) (td : List (BitVec 8)) : Nat → List (BitVec 8)
  | 0 => l
  | k + 1 => if a + k < l.length then (trn l a td k).set (a + k) ((trn l a td k).getD (a + k) 0#8 ^^^ td.getD k 0#8) else trn l a td k
def cnt (l : List (BitVec 8)) (a : Nat) (td : List (BitVec 8)) : Nat → Nat
  | 0 => 0
  | k + 1 => if a + k < l.length then (if td.getD k 0#8 = 0#8 then cnt l a td k else cnt l a td k + 1) else cnt l a td k
theorem trn_len (l : List (BitVec 8)) (a : Nat) (td : List (BitVec 8)) : ∀ k, (trn l a td k).length = l.length
  | 0 => rfl
  | k + 1 => by unfold trn; split <;> simp [trn_len l a td k]
theorem trn_zero (l : List (BitVec 8)) (a : Nat) (td : List (BitVec 8)) : trn l a td 0 = l := rfl
theorem trn_in (l : List (BitVec 8)) (a : Nat) (td : List (BitVec 8)) (k : Nat) (h : a + k < l.length) : trn l a td (k + 1) = (trn l a td k).set (a + k) ((trn l a td k).getD (a + k) 0#8 ^^^ td.getD k 0#8) := by conv => lhs; unfold trn; rw [if_pos h]
theorem trn_out (l : List (BitVec 8)) (a : Nat) (td : List (BitVec 8)) (k : Nat) (h : ¬ a + k < l.length) : trn l a td (k + 1) = trn l a td k := by conv => lhs; unfold trn; rw [if_neg h]
theorem cnt_in (l : List (BitVec 8)) (a : Nat) (td : List (BitVec 8)) (k : Nat) (h : a + k < l.length) : cnt l a td (k + 1) = if td.getD k 0#8 = 0#8 then cnt l a td k else cnt l a td k + 1 := by conv => lhs; unfold cnt; rw [if_pos h]
theorem cnt_out (l : List (BitVec 8)) (a : Nat) (td : List (BitVec 8)) (k : Nat) (h : ¬ a + k < l.length) : cnt l a td (k + 1) = cnt l a td k := by conv => lhs; unfold cnt; rw [if_neg h]
theorem cnt_le (l : List (BitVec 8)) (a : Nat) (td : List (BitVec 8)) : ∀ k, cnt l a td k ≤ k
  | 0 => Nat.le_refl _
  | k + 1 => by have := cnt_le l a td k; unfold cnt; split <;> (try split) <;> omega
theorem xor8_zero (b : BitVec 8) : b ^^^ 0#8 = b := BitVec.xor_zero
/-- the first k turned bytes: what they were, what they are -/
theorem trn_form (l : List (BitVec 8)) (a : Nat) (td : List (BitVec 8)) : ∀ k, k ≤ td.length → a ≤ l.length →
    trn l a td k = l.take a ++ List.zipWith (· ^^^ ·) ((l.drop a).take k) td ++ l.drop (a + k)
  | 0, _, _ => by simp [trn_zero]
  | k + 1, hk, ha => by
    have ih := trn_form l a td k (by omega) ha
    by_cases h : a + k < l.length
    · rw [trn_in l a td k h]
      have hz : (List.zipWith (· ^^^ ·) ((l.drop a).take k) td).length = k := by simp; omega
      have hg : (trn l a td k).getD (a + k) 0#8 = l[a + k] := by
        rw [ih, List.append_assoc, List.getD_eq_getElem?_getD, List.getElem?_append_right (by rw [List.length_take]; omega), List.getElem?_append_right (by rw [hz]; simp; omega), hz, List.length_take, Nat.min_eq_left ha,
          List.getElem?_drop, show a + k + (a + k - a - k) = a + k by omega, List.getElem?_eq_getElem h]
        rfl
      rw [hg, ih, List.append_assoc, List.set_append_right _ _ (by rw [List.length_take]; omega), List.set_append_right _ _ (by rw [hz]; simp; omega), hz, List.length_take, Nat.min_eq_left ha, show a + k - a - k = 0 by omega,
        List.drop_eq_getElem_cons h, List.set_cons_zero]
      have e1 : (l.drop a).take (k + 1) = (l.drop a).take k ++ [l[a + k]] := by
        rw [List.take_add_one, List.getElem?_drop, List.getElem?_eq_getElem h]; rfl
      have e2 : td = td.take k ++ td[k] :: td.drop (k + 1) := by rw [← List.drop_eq_getElem_cons (by omega), List.take_append_drop]
      have e3 : List.zipWith (· ^^^ ·) ((l.drop a).take (k + 1)) td = List.zipWith (· ^^^ ·) ((l.drop a).take k) td ++ [l[a + k] ^^^ td.getD k 0#8] := by
        rw [e1]
        conv => lhs; rw [e2]
        rw [List.zipWith_append (by simp; omega)]
        congr 1
        · conv => rhs; rw [e2]
          rw [show (l.drop a).take k = (l.drop a).take k ++ [] by simp, List.zipWith_append (by simp; omega)]
          simp
        · rw [List.getD_eq_getElem?_getD, List.getElem?_eq_getElem (by omega), List.zipWith_cons_cons, List.zipWith_nil_left]
          rfl
      rw [e3, List.append_assoc, List.append_assoc]
      rfl
    · rw [trn_out l a td k h, ih]
      rw [List.drop_eq_nil_of_le (show l.length ≤ a + k by omega), List.drop_eq_nil_of_le (show l.length ≤ a + (k + 1) by omega), List.take_of_length_le (show (l.drop a).length ≤ k by simp; omega), List.take_of_length_le (show (l.drop a).length ≤ k + 1 by simp; omega)]
theorem trn_same (l : List (BitVec 8)) (a : Nat) (td : List (BitVec 8)) (k : Nat) (h : a + k < l.length) (hz : td.getD k 0#8 = 0#8) : trn l a td (k + 1) = trn l a td k := by
  rw [trn_in l a td k h, hz, xor8_zero, List.getD_eq_getElem?_getD, List.getElem?_eq_getElem (by rw [trn_len]; exact h)]
  exact List.set_getElem_self _
theorem cnt_zero (l : List (BitVec 8)) (a : Nat) (td : List (BitVec 8)) : ∀ k, cnt l a td k = 0 → trn l a td k = l
  | 0, _ => rfl
  | k + 1, hc => by
    by_cases h : a + k < l.length
    · rw [cnt_in l a td k h] at hc
      by_cases hz : td.getD k 0#8 = 0#8
      · rw [if_pos hz] at hc
        rw [trn_same l a td k h hz]
        exact cnt_zero l a td k hc
      · rw [if_neg hz] at hc; cases hc
    · rw [cnt_out l a td k h] at hc
      rw [trn_out l a td k h]
      exact cnt_zero l a td k hc
theorem xor8_ne {b c : BitVec 8} (h : c ≠ 0#8) : b ^^^ c ≠ b := fun e => h (by
  have := congrArg (b ^^^ ·) e
  simpa [← BitVec.xor_assoc] using this)
theorem cnt_one (l : List (BitVec 8)) (a : Nat) (td : List (BitVec 8)) : ∀ k, cnt l a td k = 1 → ∃ i y, ∃ hi : i < l.length, trn l a td k = l.set i y ∧ y ≠ l[i]
  | 0, hc => by cases hc
  | k + 1, hc => by
    by_cases h : a + k < l.length
    · rw [cnt_in l a td k h] at hc
      by_cases hz : td.getD k 0#8 = 0#8
      · rw [if_pos hz] at hc
        rw [trn_same l a td k h hz]
        exact cnt_one l a td k hc
      · rw [if_neg hz] at hc
        have h0 := cnt_zero l a td k (by omega)
        rw [trn_in l a td k h, h0]
        refine ⟨a + k, _, h, rfl, ?_⟩
        rw [List.getD_eq_getElem?_getD, List.getElem?_eq_getElem h]
        exact xor8_ne hz
    · rw [cnt_out l a td k h] at hc
      rw [trn_out l a td k h]
      exact cnt_one l a td k hc
theorem trn_late (l : List (BitVec 8)) (a : Nat) (td : List (BitVec 8)) (j : Nat) : ∀ k, k ≤ j → (trn l a td k).getD (a + j) 0#8 = l.getD (a + j) 0#8
  | 0, _ => rfl
  | k + 1, hk => by
    by_cases h : a + k < l.length
    · rw [trn_in l a td k h, List.getD_eq_getElem?_getD, List.getElem?_set_ne (by omega), ← List.getD_eq_getElem?_getD]
      exact trn_late l a td j k (by omega)
    · rw [trn_out l a td k h]
      exact trn_late l a td j k (by omega)
theorem trn_early (l : List (BitVec 8)) (a : Nat) (td : List (BitVec 8)) (j : Nat) (hj : a + j < l.length) : ∀ k, j < k → (trn l a td k).getD (a + j) 0#8 = l.getD (a + j) 0#8 ^^^ td.getD j 0#8
  | 0, h => by omega
  | k + 1, hk => by
    rcases Nat.lt_or_ge j k with h1 | h1
    · by_cases h : a + k < l.length
      · rw [trn_in l a td k h, List.getD_eq_getElem?_getD, List.getElem?_set_ne (by omega), ← List.getD_eq_getElem?_getD]
        exact trn_early l a td j hj k h1
      · rw [trn_out l a td k h]
        exact trn_early l a td j hj k h1
    · obtain rfl : k = j := by omega
      rw [trn_in l a td k hj, List.getD_eq_getElem?_getD, List.getElem?_set_self (by rw [trn_len]; exact hj), trn_late l a td k k (Nat.le_refl _)]
      rfl
theorem cnt_of_same (l : List (BitVec 8)) (a : Nat) (td : List (BitVec 8)) (K : Nat) (h : trn l a td K = l) : ∀ k, k ≤ K → cnt l a td k = 0
  | 0, _ => rfl
  | k + 1, hk => by
    have ih := cnt_of_same l a td K h k (by omega)
    by_cases h1 : a + k < l.length
    · rw [cnt_in l a td k h1]
      have e := trn_early l a td k h1 K (by omega)
      rw [h] at e
      have hz : td.getD k 0#8 = 0#8 := Classical.byContradiction fun hz => xor8_ne hz e.symm
      rw [if_pos hz, ih]
    · rw [cnt_out l a td k h1, ih]
/-- of two texts that differ within four bytes side by side the sums are unlike -/
theorem crc_tells (l : List (BitVec 8)) (a : Nat) (td : List (BitVec 8)) (ht : td.length = 4) (v : BitVec 32) (h : tkn v l = tkn v (trn l a td 4)) : cnt l a td 4 = 0 := by
  by_cases ha : a ≤ l.length
  · refine cnt_of_same l a td 4 ?_ 4 (Nat.le_refl _)
    have e := trn_form l a td 4 (by omega) ha
    have e0 : l = l.take a ++ (l.drop a).take 4 ++ l.drop (a + 4) := by rw [List.append_assoc, ← List.drop_drop, List.take_append_drop, List.take_append_drop]
    have hd : ((l.drop a).take 4).length ≤ 4 := by simp; omega
    have hl : ((l.drop a).take 4).length = (List.zipWith (· ^^^ ·) ((l.drop a).take 4) td).length := by rw [List.length_zipWith]; omega
    rw [e] at h
    conv at h => lhs; rw [e0]
    rw [List.append_assoc, List.append_assoc, tkn_append, tkn_append v (l.take a)] at h
    have := tkn_four _ hl hd h
    rw [e, ← this, ← e0]
  · have : ∀ k, cnt l a td k = 0 := fun k => by
      induction k with
      | zero => rfl
      | succ k ih => rw [cnt_out l a td k (by omega), ih]
    exact this 4
/-- of two texts that differ in one byte the marks are unlike -/
theorem fnv_tells (l : List (BitVec 8)) (i : Nat) (y : BitVec 8) (hi : i < l.length) (hy : y ≠ l[i]) (h : BitVec 64) : fnvl h l ≠ fnvl h (l.set i y) := by
  intro e
  have e0 : l = l.take i ++ l[i] :: l.drop (i + 1) := by rw [← List.drop_eq_getElem_cons hi, List.take_append_drop]
  have e1 : l.set i y = l.take i ++ y :: l.drop (i + 1) := by rw [List.set_eq_take_append_cons_drop, if_pos hi]
  rw [e1] at e
  conv at e => lhs; rw [e0]
  rw [fnvl_append, fnvl_append] at e
  exact hy (fnvl_byte _ e).symm
attribute [irreducible] trn cnt
end Go.Proofs.Ytbamkkbdcodafaa
