/- Layer 2 (seal), plain: four bytes at the end give any register, and no others; a mark tells a byte that is turned; the way back. -/
import Derived.Test.YtbamkkbdcodafaaP2a
import Derived.Test.YtbamkkbdcodafaaS2d
namespace Go.Proofs.Ytbamkkbdcodafaa
open Go.RowKit
set_option linter.unusedVariables false

theorem xor_cancel (a b : BitVec 32) : a ^^^ b ^^^ b = a := by rw [BitVec.xor_assoc, BitVec.xor_self, BitVec.xor_zero]
/-- a step gone back -/
theorem shr31_bit (v : BitVec 32) : (v >>> 31 == 1#32) = v.getLsbD 31 := by
  have h : v >>> 31 = if v.getLsbD 31 then 1#32 else 0#32 := by
    apply BitVec.eq_of_getLsbD_eq
    intro i hi
    rw [BitVec.getLsbD_ushiftRight]
    rcases Nat.eq_zero_or_pos i with rfl | h0
    · cases h : v.getLsbD 31 <;> simp
    · rw [BitVec.getLsbD_of_ge v _ (by omega)]
      cases v.getLsbD 31
      · simp
      · have : ∀ j : Fin 32, 0 < j.val → (1#32).getLsbD j.val = false := by decide
        simp [this ⟨i, hi⟩ h0]
  rw [h]
  cases v.getLsbD 31 <;> rfl
theorem mul2 (v : BitVec 32) : v * 2#32 = v <<< 1 := by
  have h := mul_shl v 1
  simpa using h
theorem unst_cases (v : BitVec 32) : unst v = if v.getLsbD 31 then (v ^^^ 0x82F63B78#32) <<< 1 ||| 1#32 else v <<< 1 := by
  unfold unst
  rw [shr31_bit, mul2, mul2]
theorem one_bit (i : Nat) (hi : i < 32) : (1#32).getLsbD i = decide (i = 0) := by
  have : ∀ j : Fin 32, (1#32).getLsbD j.val = decide (j.val = 0) := by decide
  exact this ⟨i, hi⟩
theorem stp_unst (v : BitVec 32) : stp (unst v) = v := by
  rw [unst_cases]
  cases h : v.getLsbD 31 with
  | true =>
    simp only [if_true]
    rw [stp_cases]
    have h0 : ((v ^^^ 0x82F63B78#32) <<< 1 ||| 1#32).getLsbD 0 = true := by simp
    rw [h0]
    simp only [if_true]
    have h1 : ((v ^^^ 0x82F63B78#32) <<< 1 ||| 1#32) >>> 1 = v ^^^ 0x82F63B78#32 := by
      apply BitVec.eq_of_getLsbD_eq
      intro i hi
      rw [BitVec.getLsbD_ushiftRight]
      rcases Nat.lt_or_ge i 31 with h2 | h2
      · rw [BitVec.getLsbD_or, BitVec.getLsbD_shiftLeft, one_bit _ (by omega)]
        simp [show 1 + i < 32 by omega]
      · obtain rfl : i = 31 := by omega
        rw [BitVec.getLsbD_of_ge _ _ (by omega), BitVec.getLsbD_xor, h]
        rfl
    rw [h1, xor_cancel]
  | false =>
    simp only [Bool.false_eq_true, if_false]
    have h2 : v <<< (0 + 1) >>> (0 + 1) = v := by
      apply BitVec.eq_of_getLsbD_eq
      intro i hi
      rw [BitVec.getLsbD_ushiftRight, BitVec.getLsbD_shiftLeft]
      rcases Nat.lt_or_ge i 31 with h2 | h2
      · simp [show 1 + i < 32 by omega]
      · obtain rfl : i = 31 := by omega
        rw [h]; simp
    have := stp_shl v 0 h2
    rw [BitVec.shiftLeft_zero] at this
    exact this
theorem stp_zero_of (x : BitVec 32) (h : stp x = 0#32) : x = 0#32 := by
  rw [stp_cases] at h
  cases h0 : x.getLsbD 0 with
  | true =>
    rw [h0] at h
    simp only [if_true] at h
    have h1 : x >>> 1 = 0x82F63B78#32 := by
      have := congrArg (· ^^^ 0x82F63B78#32) h
      simpa [BitVec.xor_assoc] using this
    have h2 : (x >>> 1).getLsbD 31 = (0x82F63B78#32).getLsbD 31 := by rw [h1]
    rw [BitVec.getLsbD_ushiftRight, BitVec.getLsbD_of_ge _ _ (by omega)] at h2
    cases h2
  | false =>
    rw [h0] at h
    simp only [Bool.false_eq_true, if_false, BitVec.xor_zero] at h
    apply BitVec.eq_of_getLsbD_eq
    intro i hi
    rcases Nat.eq_zero_or_pos i with rfl | hp
    · rw [h0]; simp
    · have : (x >>> 1).getLsbD (i - 1) = (0#32).getLsbD (i - 1) := by rw [h]
      rw [BitVec.getLsbD_ushiftRight, show 1 + (i - 1) = i by omega] at this
      simpa using this
theorem xor_eq_zero {a b : BitVec 32} (h : a ^^^ b = 0#32) : a = b := by
  have := congrArg (· ^^^ b) h
  simpa [xor_cancel] using this
theorem stp_inj {x y : BitVec 32} (h : stp x = stp y) : x = y := by
  apply xor_eq_zero
  apply stp_zero_of
  rw [stp_xor, h, BitVec.xor_self]
theorem stpN_inj : ∀ (k : Nat) {x y : BitVec 32}, stpN k x = stpN k y → x = y
  | 0, x, y, h => by simpa only [stpN_zero] using h
  | k + 1, x, y, h => by rw [stpN_succ, stpN_succ] at h; exact stp_inj (stpN_inj k h)
theorem tk1_inj {u v : BitVec 32} {b : BitVec 8} (h : tk1 u b = tk1 v b) : u = v := by
  rw [tk1_eq, tk1_eq] at h
  have := congrArg (· ^^^ b.setWidth 32) (stpN_inj 8 h)
  simpa only [xor_cancel] using this
theorem tkn_inj : ∀ (p : List (BitVec 8)) {u v : BitVec 32}, tkn u p = tkn v p → u = v
  | [], u, v, h => by simpa only [tkn_nil] using h
  | b :: p, u, v, h => by rw [tkn_cons, tkn_cons] at h; exact tk1_inj (tkn_inj p h)
/-- bytes as one register, the first one lowest -/
def le : List (BitVec 8) → BitVec 32
  | [] => 0#32
  | b :: d => b.setWidth 32 ^^^ le d <<< 8
theorem le_hi : ∀ (d : List (BitVec 8)) (i : Nat), 8 * d.length ≤ i → (le d).getLsbD i = false
  | [], i, h => by simp [le]
  | b :: d, i, h => by
    have h' : 8 * d.length + 8 ≤ i := by simpa [Nat.mul_add] using h
    rw [le, BitVec.getLsbD_xor, BitVec.getLsbD_setWidth, BitVec.getLsbD_of_ge b i (by omega), BitVec.getLsbD_shiftLeft, le_hi d (i - 8) (by omega)]
    simp
theorem le_shl (d : List (BitVec 8)) (hd : d.length ≤ 3) (k : Nat) (hk : k ≤ 8) : le d <<< k >>> k = le d := by
  apply BitVec.eq_of_getLsbD_eq
  intro i hi
  rw [BitVec.getLsbD_ushiftRight, BitVec.getLsbD_shiftLeft]
  by_cases h : k + i < 32
  · simp [h]
  · rw [le_hi d i (by omega)]; simp [h]
theorem stpN_shl (x : BitVec 32) : ∀ (k : Nat), (∀ j, j ≤ k → x <<< j >>> j = x) → stpN k (x <<< k) = x
  | 0, _ => by rw [stpN_zero, BitVec.shiftLeft_zero]
  | k + 1, h => by rw [stpN_succ, stp_shl x k (h _ (Nat.le_refl _)), stpN_shl x k (fun j hj => h j (by omega))]
theorem tkn_le : ∀ (d : List (BitVec 8)) (v : BitVec 32), d.length ≤ 4 → tkn v d = stpN (8 * d.length) (v ^^^ le d)
  | [], v, _ => by rw [tkn_nil, le, BitVec.xor_zero]; exact (stpN_zero v).symm
  | b :: d, v, h => by
    have h3 : d.length ≤ 3 := by simpa using h
    rw [tkn_cons, tkn_le d _ (by omega), tk1_eq]
    have e : stpN 8 (le d <<< 8) = le d := stpN_shl _ _ (fun j hj => le_shl d h3 j hj)
    conv => lhs; rw [← e]
    rw [← stpN_xor, ← stpN_add, List.length_cons, show 8 * (d.length + 1) = 8 + 8 * d.length by omega, le, BitVec.xor_assoc]
theorem le_inj : ∀ (d e : List (BitVec 8)), d.length = e.length → d.length ≤ 4 → le d = le e → d = e
  | [], [], _, _, _ => rfl
  | b :: d, c :: e, hl, h4, h => by
    have hl' : d.length = e.length := by simpa using hl
    have h3 : d.length ≤ 3 := by simpa using h4
    have hb : b = c := by
      apply BitVec.eq_of_getLsbD_eq
      intro i hi
      have : (le (b :: d)).getLsbD i = (le (c :: e)).getLsbD i := by rw [h]
      rw [le, le, BitVec.getLsbD_xor, BitVec.getLsbD_xor, BitVec.getLsbD_setWidth, BitVec.getLsbD_setWidth, BitVec.getLsbD_shiftLeft, BitVec.getLsbD_shiftLeft] at this
      simpa [show i < 8 from hi, show i < 32 by omega] using this
    subst hb
    have hd : le d <<< 8 = le e <<< 8 := by
      have := congrArg (b.setWidth 32 ^^^ ·) h
      simpa [le, ← BitVec.xor_assoc] using this
    have : le d = le e := by rw [← le_shl d h3 8 (Nat.le_refl _), hd, le_shl e (by omega) 8 (Nat.le_refl _)]
    rw [le_inj d e hl' (by omega) this]
/-- four bytes or fewer in the midst: a register tells them -/
theorem tkn_four {v : BitVec 32} {d e : List (BitVec 8)} (p : List (BitVec 8)) (hl : d.length = e.length) (h4 : d.length ≤ 4) (h : tkn v (d ++ p) = tkn v (e ++ p)) : d = e := by
  rw [tkn_append, tkn_append] at h
  have h1 := tkn_inj p h
  rw [tkn_le d v h4, tkn_le e v (by omega), hl] at h1
  have h2 := congrArg (v ^^^ ·) (stpN_inj _ h1)
  exact le_inj d e hl h4 (by simpa [← BitVec.xor_assoc] using h2)
/-! marks -/
theorem prime_unp : (1099511628211#64) * unp = 1#64 := by kernel_rfl
theorem fnv1_back (h : BitVec 64) (b : BitVec 8) : fnv1 h b * unp ^^^ b.setWidth 64 = h := by
  rw [fnv1_eq, BitVec.mul_assoc, prime_unp, BitVec.mul_one, BitVec.xor_assoc, BitVec.xor_self, BitVec.xor_zero]
theorem fnv1_inj {h k : BitVec 64} {b : BitVec 8} (e : fnv1 h b = fnv1 k b) : h = k := by rw [← fnv1_back h b, e, fnv1_back]
theorem fnvl_inj : ∀ (p : List (BitVec 8)) {u v : BitVec 64}, fnvl u p = fnvl v p → u = v
  | [], u, v, h => by simpa only [fnvl_nil] using h
  | b :: p, u, v, h => by rw [fnvl_cons, fnvl_cons] at h; exact fnv1_inj (fnvl_inj p h)
theorem fnv1_byte {h : BitVec 64} {b c : BitVec 8} (e : fnv1 h b = fnv1 h c) : b = c := by
  have e1 := fnv1_back h b
  have e2 := fnv1_back h c
  rw [e] at e1
  have e3 : fnv1 h c * unp ^^^ b.setWidth 64 = fnv1 h c * unp ^^^ c.setWidth 64 := by rw [e1, e2]
  generalize fnv1 h c * unp = z at e3
  have e4 := congrArg (z ^^^ ·) e3
  simp only [← BitVec.xor_assoc, BitVec.xor_self, BitVec.zero_xor] at e4
  apply BitVec.eq_of_getLsbD_eq
  intro i hi
  have : (b.setWidth 64).getLsbD i = (c.setWidth 64).getLsbD i := by rw [e4]
  rw [BitVec.getLsbD_setWidth, BitVec.getLsbD_setWidth] at this
  simpa [show i < 64 by omega] using this
theorem fnvl_byte {h : BitVec 64} {b c : BitVec 8} (p : List (BitVec 8)) (e : fnvl h (b :: p) = fnvl h (c :: p)) : b = c := by
  rw [fnvl_cons, fnvl_cons] at e
  exact fnv1_byte (fnvl_inj p e)
theorem bck_cons (m : BitVec 64) (b : BitVec 8) (p : List (BitVec 8)) : bck m (b :: p) = bck m p * unp ^^^ b.setWidth 64 := by unfold bck; rfl
theorem bck_fnvl : ∀ (p : List (BitVec 8)) (h : BitVec 64), bck (fnvl h p) p = h
  | [], h => by rw [fnvl_nil, bck_nil]
  | b :: p, h => by rw [bck_cons, fnvl_cons, bck_fnvl p, fnv1_back]
theorem fnvs_one (h : BitVec 64) (p : List (BitVec 8)) : fnvs h [p] = fnvl h p := by rw [fnvs_cons, fnvs_nil]
theorem fnvs_two (h : BitVec 64) (p q : List (BitVec 8)) : fnvs h [p, q] = fnvl (fnvl h p) q := by rw [fnvs_cons, fnvs_cons, fnvs_nil]
end Go.Proofs.Ytbamkkbdcodafaa
