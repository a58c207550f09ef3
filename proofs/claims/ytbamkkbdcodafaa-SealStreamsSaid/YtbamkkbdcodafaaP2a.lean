/- Layer 2 (seal), plain: a step is linear; the table's four steps at once; the sum is the document's. -/
import Derived.Test.YtbamkkbdcodafaaS2b
namespace Go.Proofs.Ytbamkkbdcodafaa
open Go.RowKit
set_option linter.unusedVariables false

theorem one_cases (v : BitVec 32) : v &&& 1#32 = if v.getLsbD 0 then 1#32 else 0#32 := by
  rw [BitVec.and_one_eq_setWidth_ofBool_getLsbD]
  cases v.getLsbD 0 <;> rfl
theorem stp_cases (v : BitVec 32) : stp v = v >>> 1 ^^^ (if v.getLsbD 0 then 0x82F63B78#32 else 0#32) := by
  unfold stp
  rw [one_cases]
  cases v.getLsbD 0 <;> simp
theorem rstep_stp (v : BitVec 32) : rstep v = stp v := by
  rw [stp_cases]
  unfold rstep
  rw [one_cases]
  cases v.getLsbD 0 <;> simp
theorem stp_xor (x y : BitVec 32) : stp (x ^^^ y) = stp x ^^^ stp y := by
  rw [stp_cases, stp_cases, stp_cases, BitVec.getLsbD_xor, BitVec.ushiftRight_xor_distrib]
  generalize x >>> 1 = a
  generalize y >>> 1 = b
  generalize 0x82F63B78#32 = P
  have e1 : ∀ a b P : BitVec 32, (a ^^^ P) ^^^ (b ^^^ P) = a ^^^ b := fun a b P => by
    rw [show (a ^^^ P) ^^^ (b ^^^ P) = a ^^^ b ^^^ (P ^^^ P) by ac_rfl, BitVec.xor_self, BitVec.xor_zero]
  have e2 : ∀ a b P : BitVec 32, (a ^^^ b) ^^^ P = (a ^^^ P) ^^^ b := fun a b P => by ac_rfl
  cases x.getLsbD 0 <;> cases y.getLsbD 0
  · simp
  · simp [BitVec.xor_assoc]
  · simpa using e2 a b P
  · simpa using (e1 a b P).symm
theorem stp_zero : stp 0#32 = 0#32 := rfl
theorem stpN_xor : ∀ (k : Nat) (x y : BitVec 32), stpN k (x ^^^ y) = stpN k x ^^^ stpN k y
  | 0, x, y => by simp only [stpN_zero]
  | k + 1, x, y => by rw [stpN_succ, stpN_succ, stpN_succ, stp_xor, stpN_xor k]
theorem stpN_z : ∀ k : Nat, stpN k 0#32 = 0#32
  | 0 => by rw [stpN_zero]
  | k + 1 => by rw [stpN_succ, stp_zero, stpN_z k]
theorem stpN_add : ∀ (j k : Nat) (x : BitVec 32), stpN (j + k) x = stpN k (stpN j x)
  | 0, k, x => by rw [Nat.zero_add, stpN_zero]
  | j + 1, k, x => by rw [Nat.add_right_comm, stpN_succ, stpN_succ, stpN_add j k]
theorem stp_shl (x : BitVec 32) (k : Nat) (hx : x <<< (k + 1) >>> (k + 1) = x) : stp (x <<< (k + 1)) = x <<< k := by
  rw [stp_cases]
  have h0 : (x <<< (k + 1)).getLsbD 0 = false := by simp
  rw [h0]
  simp only [Bool.false_eq_true, if_false, BitVec.xor_zero]
  apply BitVec.eq_of_getLsbD_eq
  intro i hi
  have h : (x <<< (k + 1) >>> (k + 1)).getLsbD (i - k) = x.getLsbD (i - k) := by rw [hx]
  rw [BitVec.getLsbD_ushiftRight, BitVec.getLsbD_shiftLeft] at h ⊢
  rw [BitVec.getLsbD_shiftLeft]
  by_cases hk : i < k
  · simp [hk, show 1 + i < k + 1 by omega]
  · by_cases h1 : 1 + i < 32
    · simp [hk, hi, h1, show ¬ 1 + i < k + 1 by omega, show 1 + i - (k + 1) = i - k by omega]
    · simp [hk, hi, h1]
      have : ¬ (k + 1 + (i - k) < 32) := by omega
      simpa [this] using h
theorem shl_shr4 (v : BitVec 32) (k : Nat) (hk : k ≤ 4) : (v >>> 4) <<< k >>> k = v >>> 4 := by
  apply BitVec.eq_of_getLsbD_eq
  intro i hi
  simp only [BitVec.getLsbD_ushiftRight, BitVec.getLsbD_shiftLeft]
  by_cases h : k + i < 32
  · simp [h]
  · simp [h]
    exact BitVec.getLsbD_of_ge v _ (by omega)
theorem stpN_shl4 (v : BitVec 32) : stpN 4 ((v >>> 4) <<< 4) = v >>> 4 := by
  rw [stpN_succ, stp_shl _ 3 (shl_shr4 v 4 (by omega)), stpN_succ, stp_shl _ 2 (shl_shr4 v 3 (by omega)), stpN_succ, stp_shl _ 1 (shl_shr4 v 2 (by omega)), stpN_succ, stp_shl _ 0 (shl_shr4 v 1 (by omega)), stpN_zero, BitVec.shiftLeft_zero]
theorem split4 (v : BitVec 32) : v = (v >>> 4) <<< 4 ^^^ (v &&& 15#32) := by
  apply BitVec.eq_of_getLsbD_eq
  intro i hi
  have h15 : (15#32).getLsbD i = decide (i < 4) := by
    have : ∀ j : Fin 32, (15#32).getLsbD j.val = decide (j.val < 4) := by decide
    exact this ⟨i, hi⟩
  simp only [BitVec.getLsbD_xor, BitVec.getLsbD_shiftLeft, BitVec.getLsbD_ushiftRight, BitVec.getLsbD_and, h15, hi]
  by_cases h : i < 4
  · simp [h]
  · simp [h, show 4 + (i - 4) = i by omega]
theorem tbl_at (i : Nat) (h : i < 16) : tbl.getD i 0#32 = nib i := by
  unfold tbl tblK
  rw [List.getD_eq_getElem?_getD, List.getElem?_append_left (by simpa using h), List.getElem?_map, List.getElem?_range h]
  rfl
theorem look_eq (v : BitVec 32) : look v = stpN 4 (v &&& 15#32) := by
  unfold look
  rw [tbl_at _ (and15_lt v)]
  unfold nib
  rw [tn_eq, BitVec.ofNat_toNat, BitVec.setWidth_eq]
theorem four (v : BitVec 32) : v >>> 4 ^^^ look v = stpN 4 v := by
  rw [look_eq]
  conv => rhs; rw [split4 v]
  rw [stpN_xor, stpN_shl4]
theorem tk1_eq (v : BitVec 32) (b : BitVec 8) : tk1 v b = stpN 8 (v ^^^ b.setWidth 32) := by
  unfold tk1
  simp only [four]
  rw [← stpN_add]
theorem rstepN_eq : ∀ (k : Nat) (v : BitVec 32), rstepN k v = stpN k v
  | 0, v => by rw [rstepN_zero, stpN_zero]
  | k + 1, v => by rw [rstepN_succ, stpN_succ, rstep_stp, rstepN_eq k]
theorem rbyte_tk (v : BitVec 32) (b : BitVec 8) : rbyte v b = tk1 v b := by rw [rbyte_eq, tk1_eq, rstepN_eq]
theorem rtk_tkn : ∀ (p : List (BitVec 8)) (v : BitVec 32), rtk v p = tkn v p
  | [], v => by rw [rtk_nil, tkn_nil]
  | b :: p, v => by rw [rtk_cons, tkn_cons, rbyte_tk, rtk_tkn p]
theorem crc_same (p : List (BitVec 8)) : ~~~ tkn 0xFFFFFFFF#32 p = rtk 0xFFFFFFFF#32 p ^^^ 0xFFFFFFFF#32 := by
  rw [rtk_tkn]
  rw [show (0xFFFFFFFF#32) = BitVec.allOnes 32 from rfl, BitVec.xor_allOnes]
end Go.Proofs.Ytbamkkbdcodafaa
