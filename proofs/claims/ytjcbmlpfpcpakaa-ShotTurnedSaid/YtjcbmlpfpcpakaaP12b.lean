/- Layer 2 (seal), plain: a step is linear; the table's four steps at once; the sum is the document's. -/
import Derived.Test.YtjcbmlpfpcpakaaS12b
namespace Go.Proofs.Ytjcbmlpfpcpakaa
open Go.RowKit
set_option linter.unusedVariables false

theorem one_cases (v : BitVec 32) : v &&& 1#32 = if v.getLsbD 0 then 1#32 else 0#32 := by
  rw [BitVec.and_one_eq_setWidth_ofBool_getLsbD]
  cases v.getLsbD 0 <;> rfl
theorem stp_cases (v : BitVec 32) : stp v = v >>> 1 ^^^ (if v.getLsbD 0 then 0x82F63B78#32 else 0#32) := by
  unfold stp
  rw [one_cases]
  cases v.getLsbD 0 <;> simp
theorem rstep_stp (v : BitVec 32) : rstep v = stp v := by
  rw [stp_cases]
  unfold rstep
  rw [one_cases]
  cases v.getLsbD 0 <;> simp
theorem stp_xor (x y : BitVec 32) : stp (x ^^^ y) = stp x ^^^ stp y := by
  rw [stp_cases, stp_cases, stp_cases, BitVec.getLsbD_xor, BitVec.ushiftRight_xor_distrib]
  generalize x >>> 1 = a
  generalize y >>> 1 = b
  generalize 0x82F63B78#32 = P
  have e1 : ∀ a b P : BitVec 32, (a ^^^ P) ^^^ (b ^^^ P) = a ^^^ b := fun a b P => by
    rw [show (a ^^^ P) ^^^ (b ^^^ P) = a ^^^ b ^^^ (P ^^^ P) by ac_rfl, BitVec.xor_self, BitVec.xor_zero]
  have e2 : ∀ a b P : BitVec 32, (a ^^^ b) ^^^ P = (a ^^^ P) ^^^ b := fun a b P => by ac_rfl
  cases x.getLsbD 0 <;> cases y.getLsbD 0
  · simp
  · simp [BitVec.xor_assoc]
  · simpa using e2 a b P
  · simpa using (e1 a b P).symm
theorem stp_zero : stp 0#32 = 0#32 := rfl
theorem stpN_xor : ∀ (k : Nat) (x y : BitVec 32), stpN k (x ^^^ y) = stpN k x ^^^ stpN k y
  | 0, x, y => by simp only [stpN_zero]
  | k + 1, x, y => by rw [stpN_succ, stpN_succ, stpN_succ, stp_xor, stpN_xor k]
theorem stpN_z : ∀ k : Nat, stpN k 0#32 = 0#32
  | 0 => by rw [stpN_zero]
  | k + 1 => by rw [stpN_succ, stp_zero, stpN_z k]
theorem stpN_add : ∀ (j k : Nat) (x : BitVec 32), stpN (j + k) x = stpN k (stpN j x)
  | 0, k, x => by rw [Nat.zero_add, stpN_zero]
  | j + 1, k, x => by rw [Nat.add_right_comm, stpN_succ, stpN_succ, stpN_add j k]
theorem stp_shl (x : BitVec 32) (k : Nat) (hx : x <<< (k + 1) >>> (k + 1) = x) : stp (x <<< (k + 1)) = x <<< k := by
  rw [stp_cases]
  have h0 : (x <<< (k + 1)).getLsbD 0 = false := by simp
  rw [h0]
  simp only [Bool.false_eq_true, if_false, BitVec.xor_zero]
  apply BitVec.eq_of_getLsbD_eq
  intro i hi
  have h : (x <<< (k + 1) >>> (k + 1)).getLsbD (i - k) = x.getLsbD (i - k) := by rw [hx]
  rw [BitVec.getLsbD_ushiftRight, BitVec.getLsbD_shiftLeft] at h ⊢
  rw [BitVec.getLsbD_shiftLeft]
  by_cases hk : i < k
  · simp [hk, show 1 + i < k + 1 by omega]
  · by_cases h1 : 1 + i < 32
    · simp [hk, hi, h1, show ¬ 1 + i < k + 1 by omega, show 1 + i - (k + 1) = i - k by omega]
    · simp [hk, hi, h1]
      have : ¬ (k + 1 + (i - k) < 32) := by omega
      simpa [this] using h
theorem shl_shr4 (v : BitVec 32) (k : Nat) (hk : k ≤ 4) : (v >>> 4) <<< k >>> k = v >>> 4 := by
  apply BitVec.eq_of_getLsbD_eq
  intro i hi
  simp only [BitVec.getLsbD_ushiftRight, BitVec.getLsbD_shiftLeft]
  by_cases h : k + i < 32
  · simp [h]
  · simp [h]
    exact BitVec.getLsbD_of_ge v _ (by omega)
theorem stpN_shl4 (v : BitVec 32) : stpN 4 ((v >>> 4) <<< 4) = v >>> 4 := by
  rw [stpN_succ, stp_shl _ 3 (shl_shr4 v 4 (by omega)), stpN_succ, stp_shl _ 2 (shl_shr4 v 3 (by omega)), stpN_succ, stp_shl _ 1 (shl_shr4 v 2 (by omega)), stpN_succ, stp_shl _ 0 (shl_shr4 v 1 (by omega)), stpN_zero, BitVec.shiftLeft_zero]
theorem split4 (v : BitVec 32) : v = (v >>> 4) <<< 4 ^^^ (v &&& 15#32) := by
  apply BitVec.eq_of_getLsbD_eq
  intro i hi
  have h15 : (15#32).getLsbD i = decide (i < 4) := by
    have : ∀ j : Fin 32, (15#32).getLsbD j.val = decide (j.val < 4) := by decide
    exact this ⟨i, hi⟩
  simp only [BitVec.getLsbD_xor, BitVec.getLsbD_shiftLeft, BitVec.getLsbD_ushiftRight, BitVec.getLsbD_and, h15, hi]
  by_cases h : i < 4
  · simp [h]
  · simp [h, show 4 + (i - 4) = i by omega]
theorem tbl_at (i : Nat) (h : i < 16) : tbl.getD i 0#32 = nib i := by
  unfold tbl tblK
  rw [List.getD_eq_getElem?_getD, List.getElem?_append_left (by simpa using h), List.getElem?_map, List.getElem?_range h]
  rfl
theorem look_eq (v : BitVec 32) : look v = stpN 4 (v &&& 15#32) := by
  unfold look
  rw [tbl_at _ (and15_lt v)]
  unfold nib
  rw [tn_eq, BitVec.ofNat_toNat, BitVec.setWidth_eq]
theorem four (v : BitVec 32) : v >>> 4 ^^^ look v = stpN 4 v := by
  rw [look_eq]
  conv => rhs; rw [split4 v]
  rw [stpN_xor, stpN_shl4]
theorem tk1_eq (v : BitVec 32) (b : BitVec 8) : tk1 v b = stpN 8 (v ^^^ b.setWidth 32) := by
  unfold tk1
  simp only [four]
  rw [← stpN_add]
theorem rstepN_eq : ∀ (k : Nat) (v : BitVec 32), rstepN k v = stpN k v
  | 0, v => by rw [rstepN_zero, stpN_zero]
  | k + 1, v => by rw [rstepN_succ, stpN_succ, rstep_stp, rstepN_eq k]
theorem rbyte_tk (v : BitVec 32) (b : BitVec 8) : rbyte v b = tk1 v b := by rw [rbyte_eq, tk1_eq, rstepN_eq]
theorem rtk_tkn : ∀ (p : List (BitVec 8)) (v : BitVec 32), rtk v p = tkn v p
  | [], v => by rw [rtk_nil, tkn_nil]
  | b :: p, v => by rw [rtk_cons, tkn_cons, rbyte_tk, rtk_tkn p]
theorem crc_same (p : List (BitVec 8)) : ~~~ tkn 0xFFFFFFFF#32 p = rtk 0xFFFFFFFF#32 p ^^^ 0xFFFFFFFF#32 := by
  rw [rtk_tkn]
  rw [show (0xFFFFFFFF#32) = BitVec.allOnes 32 from rfl, BitVec.xor_allOnes]
end Go.Proofs.Ytjcbmlpfpcpakaa
namespace Go.Proofs.Ytjcbmlpfpcpakaa
open Go.RowKit
set_option linter.unusedVariables false

theorem xor_cancel (a b : BitVec 32) : a ^^^ b ^^^ b = a := by rw [BitVec.xor_assoc, BitVec.xor_self, BitVec.xor_zero]
/-- a step gone back -/
theorem one_bit (i : Nat) (hi : i < 32) : (1#32).getLsbD i = decide (i = 0) := by
  have : ∀ j : Fin 32, (1#32).getLsbD j.val = decide (j.val = 0) := by decide
  exact this ⟨i, hi⟩
theorem stp_zero_of (x : BitVec 32) (h : stp x = 0#32) : x = 0#32 := by
  rw [stp_cases] at h
  cases h0 : x.getLsbD 0 with
  | true =>
    rw [h0] at h
    simp only [if_true] at h
    have h1 : x >>> 1 = 0x82F63B78#32 := by
      have := congrArg (· ^^^ 0x82F63B78#32) h
      simpa [BitVec.xor_assoc] using this
    have h2 : (x >>> 1).getLsbD 31 = (0x82F63B78#32).getLsbD 31 := by rw [h1]
    rw [BitVec.getLsbD_ushiftRight, BitVec.getLsbD_of_ge _ _ (by omega)] at h2
    cases h2
  | false =>
    rw [h0] at h
    simp only [Bool.false_eq_true, if_false, BitVec.xor_zero] at h
    apply BitVec.eq_of_getLsbD_eq
    intro i hi
    rcases Nat.eq_zero_or_pos i with rfl | hp
    · rw [h0]; simp
    · have : (x >>> 1).getLsbD (i - 1) = (0#32).getLsbD (i - 1) := by rw [h]
      rw [BitVec.getLsbD_ushiftRight, show 1 + (i - 1) = i by omega] at this
      simpa using this
theorem xor_eq_zero {a b : BitVec 32} (h : a ^^^ b = 0#32) : a = b := by
  have := congrArg (· ^^^ b) h
  simpa [xor_cancel] using this
theorem stp_inj {x y : BitVec 32} (h : stp x = stp y) : x = y := by
  apply xor_eq_zero
  apply stp_zero_of
  rw [stp_xor, h, BitVec.xor_self]
theorem stpN_inj : ∀ (k : Nat) {x y : BitVec 32}, stpN k x = stpN k y → x = y
  | 0, x, y, h => by simpa only [stpN_zero] using h
  | k + 1, x, y, h => by rw [stpN_succ, stpN_succ] at h; exact stp_inj (stpN_inj k h)
theorem tk1_inj {u v : BitVec 32} {b : BitVec 8} (h : tk1 u b = tk1 v b) : u = v := by
  rw [tk1_eq, tk1_eq] at h
  have := congrArg (· ^^^ b.setWidth 32) (stpN_inj 8 h)
  simpa only [xor_cancel] using this
theorem tkn_inj : ∀ (p : List (BitVec 8)) {u v : BitVec 32}, tkn u p = tkn v p → u = v
  | [], u, v, h => by simpa only [tkn_nil] using h
  | b :: p, u, v, h => by rw [tkn_cons, tkn_cons] at h; exact tk1_inj (tkn_inj p h)
/-- bytes as one register, the first one lowest -/
def le : List (BitVec 8) → BitVec 32
  | [] => 0#32
  | b :: d => b.setWidth 32 ^^^ le d <<< 8
theorem le_hi : ∀ (d : List (BitVec 8)) (i : Nat), 8 * d.length ≤ i → (le d).getLsbD i = false
  | [], i, h => by simp [le]
  | b :: d, i, h => by
    have h' : 8 * d.length + 8 ≤ i := by simpa [Nat.mul_add] using h
    rw [le, BitVec.getLsbD_xor, BitVec.getLsbD_setWidth, BitVec.getLsbD_of_ge b i (by omega), BitVec.getLsbD_shiftLeft, le_hi d (i - 8) (by omega)]
    simp
theorem le_shl (d : List (BitVec 8)) (hd : d.length ≤ 3) (k : Nat) (hk : k ≤ 8) : le d <<< k >>> k = le d := by
  apply BitVec.eq_of_getLsbD_eq
  intro i hi
  rw [BitVec.getLsbD_ushiftRight, BitVec.getLsbD_shiftLeft]
  by_cases h : k + i < 32
  · simp [h]
  · rw [le_hi d i (by omega)]; simp [h]
theorem stpN_shl (x : BitVec 32) : ∀ (k : Nat), (∀ j, j ≤ k → x <<< j >>> j = x) → stpN k (x <<< k) = x
  | 0, _ => by rw [stpN_zero, BitVec.shiftLeft_zero]
  | k + 1, h => by rw [stpN_succ, stp_shl x k (h _ (Nat.le_refl _)), stpN_shl x k (fun j hj => h j (by omega))]
theorem tkn_le : ∀ (d : List (BitVec 8)) (v : BitVec 32), d.length ≤ 4 → tkn v d = stpN (8 * d.length) (v ^^^ le d)
  | [], v, _ => by rw [tkn_nil, le, BitVec.xor_zero]; exact (stpN_zero v).symm
  | b :: d, v, h => by
    have h3 : d.length ≤ 3 := by simpa using h
    rw [tkn_cons, tkn_le d _ (by omega), tk1_eq]
    have e : stpN 8 (le d <<< 8) = le d := stpN_shl _ _ (fun j hj => le_shl d h3 j hj)
    conv => lhs; rw [← e]
    rw [← stpN_xor, ← stpN_add, List.length_cons, show 8 * (d.length + 1) = 8 + 8 * d.length by omega, le, BitVec.xor_assoc]
theorem le_inj : ∀ (d e : List (BitVec 8)), d.length = e.length → d.length ≤ 4 → le d = le e → d = e
  | [], [], _, _, _ => rfl
  | b :: d, c :: e, hl, h4, h => by
    have hl' : d.length = e.length := by simpa using hl
    have h3 : d.length ≤ 3 := by simpa using h4
    have hb : b = c := by
      apply BitVec.eq_of_getLsbD_eq
      intro i hi
      have : (le (b :: d)).getLsbD i = (le (c :: e)).getLsbD i := by rw [h]
      rw [le, le, BitVec.getLsbD_xor, BitVec.getLsbD_xor, BitVec.getLsbD_setWidth, BitVec.getLsbD_setWidth, BitVec.getLsbD_shiftLeft, BitVec.getLsbD_shiftLeft] at this
      simpa [show i < 8 from hi, show i < 32 by omega] using this
    subst hb
    have hd : le d <<< 8 = le e <<< 8 := by
      have := congrArg (b.setWidth 32 ^^^ ·) h
      simpa [le, ← BitVec.xor_assoc] using this
    have : le d = le e := by rw [← le_shl d h3 8 (Nat.le_refl _), hd, le_shl e (by omega) 8 (Nat.le_refl _)]
    rw [le_inj d e hl' (by omega) this]
/-- four bytes or fewer in the midst: a register tells them -/
theorem tkn_four {v : BitVec 32} {d e : List (BitVec 8)} (p : List (BitVec 8)) (hl : d.length = e.length) (h4 : d.length ≤ 4) (h : tkn v (d ++ p) = tkn v (e ++ p)) : d = e := by
  rw [tkn_append, tkn_append] at h
  have h1 := tkn_inj p h
  rw [tkn_le d v h4, tkn_le e v (by omega), hl] at h1
  have h2 := congrArg (v ^^^ ·) (stpN_inj _ h1)
  exact le_inj d e hl h4 (by simpa [← BitVec.xor_assoc] using h2)
end Go.Proofs.Ytjcbmlpfpcpakaa
