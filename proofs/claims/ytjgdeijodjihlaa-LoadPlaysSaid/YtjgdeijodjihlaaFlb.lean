/- Bounds of floats: what is not above a power of two in size; sums and products of such. No program in sight. -/
import Derived.Test.YtjgdeijodjihlaaFlm
namespace Go.Proofs.Ytjgdeijodjihlaa
open Ieee
set_option linter.unusedVariables false

/-- not above 2 ^ k in size -/
def bd (k : Nat) (x : Nat) : Prop := x < 18446744073709551616 ∧ x % 9223372036854775808 ≤ (k + 1023) * 4503599627370496
theorem read_abs {x : Nat} (hx : x < 18446744073709551616) : ∃ s, ∀ n q, D64.read (x % 9223372036854775808) = .number false n q → D64.read x = .number s n q := by
  refine ⟨x / 9223372036854775808 % 2 == 1, fun n q h => ?_⟩
  unfold Format.read at h ⊢
  rw [d_sw, d_bin, d_inf] at h ⊢
  have h1 : x % 9223372036854775808 % 9223372036854775808 = x % 9223372036854775808 := Nat.mod_mod _ _
  simp only [h1] at h ⊢
  have key : ∀ a : Nat, (if a < 4503599627370496 then (Datum.number (x % 9223372036854775808 / 9223372036854775808 % 2 == 1) a D64.leastPlace) else if a < 9218868437227405312 then .number (x % 9223372036854775808 / 9223372036854775808 % 2 == 1) (4503599627370496 + a % 4503599627370496) (D64.leastPlace + (a / 4503599627370496 - 1 : Nat)) else if a = 9218868437227405312 then .infinity (x % 9223372036854775808 / 9223372036854775808 % 2 == 1) else .nan (x % 9223372036854775808 / 9223372036854775808 % 2 == 1) (a - 9218868437227405312)) = .number false n q →
      (if a < 4503599627370496 then (Datum.number (x / 9223372036854775808 % 2 == 1) a D64.leastPlace) else if a < 9218868437227405312 then .number (x / 9223372036854775808 % 2 == 1) (4503599627370496 + a % 4503599627370496) (D64.leastPlace + (a / 4503599627370496 - 1 : Nat)) else if a = 9218868437227405312 then .infinity (x / 9223372036854775808 % 2 == 1) else .nan (x / 9223372036854775808 % 2 == 1) (a - 9218868437227405312)) = .number (x / 9223372036854775808 % 2 == 1) n q := by
    intro a h
    split at h
    · next c => rw [if_pos c]; injection h with _ h1 h2; rw [h1, h2]
    · next c =>
      rw [if_neg c]
      split at h
      · next c => rw [if_pos c]; injection h with _ h1 h2; rw [h1, h2]
      · split at h <;> cases h
  exact key _ h
theorem nearest_abs (s : Bool) (m : Nat) (p : Int) : D64.nearest s m p % 9223372036854775808 = D64.nearest false m p ∧ D64.nearest s m p < 18446744073709551616 := by
  have hg := write_good m p
  rw [write_number] at hg
  unfold good inf64 at hg
  have key : D64.nearest s m p = (if s then 9223372036854775808 + D64.nearest false m p else D64.nearest false m p) := by
    have gen : ∀ f : Format, f.nearest s m p = (if s then f.signWeight + f.nearest false m p else f.nearest false m p) := fun f => by
      unfold Format.nearest Format.word Toward.cut
      cases s <;> simp <;> split <;> rfl
    have := gen D64
    rw [d_sw] at this
    exact this
  rw [key]
  generalize D64.nearest false m p = z at *
  cases s <;> simp <;> omega
theorem pow_word {k : Nat} (hk : k ≤ 1023) : D64.read ((k + 1023) * 4503599627370496) = .number false 4503599627370496 ((k : Int) - 52) := by
  obtain ⟨n, q, hr, h⟩ := read_word (z := (k + 1023) * 4503599627370496) (by omega)
  rcases h with ⟨h, _⟩ | ⟨e, r, h1, h2, h3, h4, h5⟩
  · omega
  · have he : e = k + 1023 := by omega
    rw [hr, h4, h5]
    subst he
    have : r = 0 := by omega
    subst this
    rw [Nat.add_zero, show ((k + 1023 : Nat) : Int) - 1075 = (k : Int) - 52 by omega]
theorem lq_pow (k : Nat) : lq 4503599627370496 ((k : Int) - 52) 1 k ∧ lq 1 k 4503599627370496 ((k : Int) - 52) := by
  have e : (4503599627370496 : Nat) = 2 ^ 52 := by decide
  have e2 : ((k : Int) - ((k : Int) - 52)).toNat = 52 := by omega
  constructor <;> refine lq_of (b := (k : Int) - 52) (by omega) (by omega) ?_ <;> rw [e2, Int.sub_self, e] <;> simp
theorem bd_num {k x : Nat} (h : bd k x) (hk : k ≤ 1023) : ∃ s m p, D64.read x = .number s m p ∧ lq m p 1 k := by
  obtain ⟨h1, h2⟩ := h
  have hz : (k + 1023) * 4503599627370496 < 9218868437227405312 := by omega
  obtain ⟨n, q, hr, _⟩ := read_word (z := x % 9223372036854775808) (by omega)
  obtain ⟨s, hs⟩ := read_abs h1
  exact ⟨s, n, q, hs n q hr, lq_trans (read_mono h2 hz (pow_word hk) hr) (lq_pow k).1⟩
theorem write_number' (f : Format) (s : Bool) (m : Nat) (p : Int) : f.write (.number s m p) = f.nearest s m p := rfl
theorem bd_write {s : Bool} {m k : Nat} {p : Int} (hk : k ≤ 1023) (h : lq m p 1 k) : bd k (D64.write (.number s m p)) := by
  rw [write_number']
  obtain ⟨h1, h2⟩ := nearest_abs s m p
  refine ⟨h2, ?_⟩
  rw [h1]
  exact nearest_le (by omega) (pow_word hk) (lq_trans h (lq_pow k).2)
theorem bd_mono {j k x : Nat} (h : bd j x) (hjk : j ≤ k) : bd k x := ⟨h.1, Nat.le_trans h.2 (Nat.mul_le_mul_right _ (by omega))⟩
theorem signed_abs (s : Bool) (m k : Nat) : (signed s m k).natAbs = m * 2 ^ k := by
  unfold signed
  rw [Nat.shiftLeft_eq]
  have h : (((m * 2 ^ k : Nat) : Int)).natAbs = m * 2 ^ k := Int.natAbs_natCast _
  cases s
  · exact h
  · simp only [if_true, Int.natAbs_neg]; exact h
theorem lq_sum {s t : Bool} {m n k : Nat} {i j : Int} (h1 : lq m i 1 k) (h2 : lq n j 1 k) : lq (signed s m (i - min i j).toNat + signed t n (j - min i j).toNat).natAbs (min i j) 1 ((k + 1 : Nat) : Int) := by
  have hle : (signed s m (i - min i j).toNat + signed t n (j - min i j).toNat).natAbs ≤ m * 2 ^ (i - min i j).toNat + n * 2 ^ (j - min i j).toNat := by
    rw [← signed_abs s, ← signed_abs t]
    exact Int.natAbs_add_le _ _
  obtain ⟨B, hB⟩ : ∃ B : Int, B = min (min i j) k := ⟨_, rfl⟩
  refine lq_of (b := B) (by omega) (by omega) ?_
  have a1 := lq_at h1 (b := B) (by omega) (by omega)
  have a2 := lq_at h2 (b := B) (by omega) (by omega)
  have e1 : (i - B).toNat = (i - min i j).toNat + (min i j - B).toNat := by omega
  have e2 : (j - B).toNat = (j - min i j).toNat + (min i j - B).toNat := by omega
  rw [e1, Nat.pow_add, ← Nat.mul_assoc] at a1
  rw [e2, Nat.pow_add, ← Nat.mul_assoc] at a2
  have e3 : (((k + 1 : Nat) : Int) - B).toNat = ((k : Int) - B).toNat + 1 := by omega
  rw [e3, Nat.pow_succ]
  refine Nat.le_trans (Nat.mul_le_mul_right _ hle) ?_
  rw [Nat.add_mul]
  omega
theorem bd_sum {s t : Bool} {m n k : Nat} {i j : Int} (hk : k + 1 ≤ 1023) (h1 : lq m i 1 k) (h2 : lq n j 1 k) : ∃ z, ((Datum.number s m i).sum (.number t n j)).map D64.write = some z ∧ bd (k + 1) z := by
  unfold Datum.sum
  exact ⟨_, rfl, bd_write hk (lq_sum h1 h2)⟩
theorem bd_add {k x y : Nat} (hx : bd k x) (hy : bd k y) (hk : k + 1 ≤ 1023) : ∃ z, floatBits .add .f64 x y = some z ∧ bd (k + 1) z := by
  obtain ⟨s, m, i, hr, h1⟩ := bd_num hx (by omega)
  obtain ⟨t, n, j, hr2, h2⟩ := bd_num hy (by omega)
  show ∃ z, D64.add x y = some z ∧ bd (k + 1) z
  unfold Format.add
  rw [hr, hr2]
  exact bd_sum hk h1 h2
theorem bd_sub {k x y : Nat} (hx : bd k x) (hy : bd k y) (hk : k + 1 ≤ 1023) : ∃ z, floatBits .sub .f64 x y = some z ∧ bd (k + 1) z := by
  obtain ⟨s, m, i, hr, h1⟩ := bd_num hx (by omega)
  obtain ⟨t, n, j, hr2, h2⟩ := bd_num hy (by omega)
  show ∃ z, D64.sub x y = some z ∧ bd (k + 1) z
  unfold Format.sub
  rw [hr, hr2]
  exact bd_sum hk h1 h2
theorem lq_mul {m n a b : Nat} {i j p q : Int} (h1 : lq m i a p) (h2 : lq n j b q) : lq (m * n) (i + j) (a * b) (p + q) := by
  refine lq_of (b := min i p + min j q) (by omega) (by omega) ?_
  have e1 : (i + j - (min i p + min j q)).toNat = (i - min i p).toNat + (j - min j q).toNat := by omega
  have e2 : (p + q - (min i p + min j q)).toNat = (p - min i p).toNat + (q - min j q).toNat := by omega
  rw [e1, e2, Nat.pow_add, Nat.pow_add, Nat.mul_mul_mul_comm, Nat.mul_mul_mul_comm a b]
  exact Nat.mul_le_mul h1 h2
theorem bd_mul {j k x y : Nat} (hx : bd j x) (hy : bd k y) (hk : j + k ≤ 1023) : ∃ z, floatBits .mul .f64 x y = some z ∧ bd (j + k) z := by
  obtain ⟨s, m, p, hr, h1⟩ := bd_num hx (by omega)
  obtain ⟨t, n, q, hr2, h2⟩ := bd_num hy (by omega)
  show ∃ z, D64.mul x y = some z ∧ bd (j + k) z
  unfold Format.mul
  rw [hr, hr2]
  refine ⟨_, rfl, bd_write hk ?_⟩
  have := lq_mul h1 h2
  simpa using this
/-- no NaN: equal to itself -/
theorem bd_self {k x : Nat} (h : bd k x) (hk : k ≤ 1023) : FloatKind.f64.format.order x x = some .eq := by
  obtain ⟨s, m, p, hr, _⟩ := bd_num h hk
  unfold Format.order
  rw [show FloatKind.f64.format.read x = _ from hr]
  simp only [Datum.order, cmp_self]
/-- not above a times 2 ^ 40, and not below nought -/
def vle (a x : Nat) : Prop := x < 9218868437227405312 ∧ ∃ m p, D64.read x = .number false m p ∧ lq m p a 40
theorem vle_good {a x : Nat} (h : vle a x) : good x := by unfold good inf64; have := h.1; omega
theorem vle_zero (a : Nat) : vle a 0 := ⟨by omega, 0, _, read_zero, by unfold lq; simp⟩
theorem vle_mono {a b x : Nat} (h : vle a x) (hab : a ≤ b) : vle b x := by
  obtain ⟨h1, m, p, h2, h3⟩ := h
  exact ⟨h1, m, p, h2, lq_trans h3 (lq_of (b := 40) (by omega) (by omega) (Nat.mul_le_mul_right _ hab))⟩
/-- a word that is a times 2 ^ 40 -/
theorem vle_word {a : Nat} (h0 : 0 < a) (h53 : a < 9007199254740992) : ∃ z n q, z < 9218868437227405312 ∧ D64.read z = .number false n q ∧ lq n q a 40 ∧ lq a 40 n q := by
  have hk := log2_le h0 h53
  have hr := read_enc h0 h53 40 (by omega) (by omega)
  have hf := full h0 h53
  refine ⟨enc a 40, _, _, ?_, hr, ?_, ?_⟩
  · unfold enc
    have e1 : (40 + (a.log2 : Int) + 1022).toNat ≤ 1114 := by omega
    generalize (40 + (a.log2 : Int) + 1022).toNat = A at *
    generalize a * 2 ^ (52 - a.log2) = B at *
    omega
  · refine lq_of (b := 40 + (a.log2 : Int) - 52) (by omega) (by omega) ?_
    rw [Int.sub_self, show (40 - (40 + (a.log2 : Int) - 52)).toNat = 52 - a.log2 by omega]
    simp
  · refine lq_of (b := 40 + (a.log2 : Int) - 52) (by omega) (by omega) ?_
    rw [Int.sub_self, show (40 - (40 + (a.log2 : Int) - 52)).toNat = 52 - a.log2 by omega]
    simp
theorem vle_write {a m : Nat} {p : Int} (h0 : 0 < a) (h53 : a < 9007199254740992) (h : lq m p a 40) : vle a (D64.write (.number false m p)) := by
  obtain ⟨z, n, q, hz, hr, h1, h2⟩ := vle_word h0 h53
  rw [write_number]
  have hle := nearest_le hz hr (lq_trans h h2)
  obtain ⟨k, i, hr2, _⟩ := read_word (z := D64.nearest false m p) (by omega)
  exact ⟨by omega, k, i, hr2, lq_trans (read_mono hle hz hr hr2) h1⟩
theorem vle_bd {a x : Nat} (h : vle a x) (ha : a ≤ 8796093022208) : bd 83 x := by
  obtain ⟨h1, m, p, h2, h3⟩ := h
  refine ⟨by omega, ?_⟩
  rw [Nat.mod_eq_of_lt (by omega)]
  have h4 : lq m p 1 ((83 : Nat) : Int) := lq_trans h3 (lq_of (b := 40) (by omega) (by omega) (by
    rw [show ((40 : Int) - 40).toNat = 0 from rfl, show (((83 : Nat) : Int) - 40).toNat = 43 from rfl]
    simp; omega))
  rcases Nat.lt_or_ge ((83 + 1023) * 4503599627370496) x with h5 | h5
  · exfalso
    have hm := read_mono (Nat.le_of_lt h5) h1 h2 (pow_word (k := 83) (by omega))
    obtain ⟨n, q, hr, hc⟩ := read_word h1
    rw [h2] at hr
    injection hr with _ e1 e2
    subst e1 e2
    rcases hc with ⟨c1, _⟩ | ⟨e, r, c1, c2, c3, c4, c5⟩
    · omega
    · have hlog := lq_log (L := 52) (N := 1) h4 (by omega) (by omega)
      have he : e = 1106 := by omega
      subst he
      rw [c5] at h4
      have := lq_at h4 (b := 31) (by omega) (by omega)
      rw [show ((((1106 : Nat) : Int) - 1075) - 31).toNat = 0 from rfl, show (((83 : Nat) : Int) - 31).toNat = 52 from rfl] at this
      simp at this
      omega
  · exact h5
theorem vle_sum {a b m n : Nat} {i j : Int} {t : Bool} (ht : t = true → n = 0) (h1 : lq m i a 40) (h2 : lq n j b 40) : lq (signed false m (i - min i j).toNat + signed t n (j - min i j).toNat).natAbs (min i j) (a + b) 40 := by
  have hle : (signed false m (i - min i j).toNat + signed t n (j - min i j).toNat).natAbs ≤ m * 2 ^ (i - min i j).toNat + n * 2 ^ (j - min i j).toNat := by
    rw [← signed_abs false, ← signed_abs t]
    exact Int.natAbs_add_le _ _
  obtain ⟨B, hB⟩ : ∃ B : Int, B = min (min i j) 40 := ⟨_, rfl⟩
  refine lq_of (b := B) (by omega) (by omega) ?_
  have a1 := lq_at h1 (b := B) (by omega) (by omega)
  have a2 := lq_at h2 (b := B) (by omega) (by omega)
  have e1 : (i - B).toNat = (i - min i j).toNat + (min i j - B).toNat := by omega
  have e2 : (j - B).toNat = (j - min i j).toNat + (min i j - B).toNat := by omega
  rw [e1, Nat.pow_add, ← Nat.mul_assoc] at a1
  rw [e2, Nat.pow_add, ← Nat.mul_assoc] at a2
  refine Nat.le_trans (Nat.mul_le_mul_right _ hle) ?_
  rw [Nat.add_mul, Nat.add_mul]
  omega
end Go.Proofs.Ytjgdeijodjihlaa
