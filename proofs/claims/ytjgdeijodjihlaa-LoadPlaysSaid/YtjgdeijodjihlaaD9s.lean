/- Layer 9 (load): quotients, roots; the mean and the spread. -/
import Derived.Test.YtjgdeijodjihlaaD9y
import Derived.Deep.RegionHeld
import Derived.Laws.Externs
namespace Go.Proofs.Ytjgdeijodjihlaa
open Go.RowKit
open Ieee
set_option linter.unusedVariables false

theorem lq_quo {m n k more : Nat} {i j : Int} {b : Nat} (hb : b ≤ 1) (h : lq m i 1 k) (hn : 0 < n) (h1 : lq 1 0 n j) (hQ : m ≠ 0 → 1 ≤ (m * 2 ^ more) / n) (hz : m = 0 → b = 0) : lq (2 * ((m * 2 ^ more) / n) + b) (i - j - more - 1) 1 ((k + 1 : Nat) : Int) := by
  obtain ⟨Q, hQe⟩ : ∃ Q, (m * 2 ^ more) / n = Q := ⟨_, rfl⟩
  have hnQ : n * Q ≤ m * 2 ^ more := by rw [← hQe, Nat.mul_comm]; exact Nat.div_mul_le_self _ _
  rw [hQe] at hQ ⊢
  by_cases hm : m = 0
  · have h0 : Q = 0 := by
      rw [hm, Nat.zero_mul] at hnQ
      rcases Nat.eq_zero_or_pos Q with h | h
      · exact h
      · have := Nat.mul_pos hn h; omega
    rw [hz hm, h0]
    unfold lq; simp
  · have hq1 := hQ hm
    have a1 : lq (2 * Q + b) (i - j - more - 1) Q (i - j - more + 1) := by
      refine lq_of (b := i - j - more - 1) (by omega) (by omega) ?_
      rw [Int.sub_self, show (i - j - more + 1 - (i - j - more - 1)).toNat = 2 by omega]
      simp
      omega
    have a2 : lq (Q * 1) (i - more + -j) (Q * n) (i - more + 0) := lq_mul (lq_refl Q (i - more)) (by
      obtain ⟨B, hB⟩ : ∃ B : Int, B = min 0 j := ⟨_, rfl⟩
      have := lq_at h1 (b := B) (by omega) (by omega)
      refine lq_of (b := B + -j) (by omega) (by omega) ?_
      rw [show (-j - (B + -j)).toNat = (0 - B).toNat by omega, show (0 - (B + -j)).toNat = (j - B).toNat by omega]
      exact this)
    have a3 : lq (Q * n) (i - more + 0) m i := by
      refine lq_of (b := i - more) (by omega) (by omega) ?_
      rw [show (i - more + 0 - (i - more)).toNat = 0 by omega, show (i - (i - more)).toNat = more by omega]
      rw [Nat.pow_zero, Nat.mul_one, Nat.mul_comm]
      exact hnQ
    have a4 := lq_trans (lq_trans a2 a3) h
    rw [Nat.mul_one] at a4
    refine lq_trans a1 ?_
    obtain ⟨B, hB⟩ : ∃ B : Int, B = min (i - more + -j) k := ⟨_, rfl⟩
    have a5 := lq_at a4 (b := B) (by omega) (by omega)
    refine lq_of (b := B + 1) (by omega) (by omega) ?_
    rw [show (i - j - more + 1 - (B + 1)).toNat = (i - more + -j - B).toNat by omega, show (((k + 1 : Nat) : Int) - (B + 1)).toNat = ((k : Int) - B).toNat by omega]
    exact a5
theorem quo_big {m n : Nat} (hm : m ≠ 0) (hn : 0 < n) : 1 ≤ (m * 2 ^ (54 + n.log2 - m.log2)) / n := by
  have h1 := log2_bd (m := m) (by omega)
  have h2 := log2_bd hn
  refine (Nat.one_le_div_iff hn).2 ?_
  have h3 : 2 ^ m.log2 * 2 ^ (54 + n.log2 - m.log2) ≤ m * 2 ^ (54 + n.log2 - m.log2) := Nat.mul_le_mul_right _ h1.1
  rw [← Nat.pow_add] at h3
  have h4 : 2 ^ (n.log2 + 1) ≤ 2 ^ (m.log2 + (54 + n.log2 - m.log2)) := Nat.pow_le_pow_right (by omega) (by omega)
  omega
theorem bd_quo {k x y n : Nat} {j : Int} (hx : bd k x) (hy : D64.read y = .number false n j) (hn : 0 < n) (h1 : lq 1 0 n j) (hk : k + 1 ≤ 1023) : ∃ z, floatBits .quo .f64 x y = some z ∧ bd (k + 1) z ∧ (good x → good z) := by
  obtain ⟨s, m, i, hr, h⟩ := bd_num hx (by omega)
  have hq : Datum.quotient 54 (.number s m i) (.number false n j) = some (.number (s ^^ false) (2 * ((m * 2 ^ (54 + n.log2 - m.log2)) / n) + ((m * 2 ^ (54 + n.log2 - m.log2)) % n != 0).toNat) (i - j - (54 + n.log2 - m.log2 : Nat) - 1)) := by
    unfold Datum.quotient
    simp only
    rw [if_neg (by omega), Nat.shiftLeft_eq]
  have he : floatBits .quo .f64 x y = some (D64.write (.number (s ^^ false) (2 * ((m * 2 ^ (54 + n.log2 - m.log2)) / n) + ((m * 2 ^ (54 + n.log2 - m.log2)) % n != 0).toNat) (i - j - (54 + n.log2 - m.log2 : Nat) - 1))) := by
    show D64.div x y = _
    unfold Format.div
    rw [hr, hy, d_frac, hq, Option.map_some]
  refine ⟨_, he, bd_write hk (lq_quo ?_ h hn h1 (fun hm => quo_big hm hn) (fun hm => ?_)), fun hg => ?_⟩
  · cases ((m * 2 ^ (54 + n.log2 - m.log2)) % n != 0) <;> simp
  · subst hm; simp
  · obtain ⟨m', p', hr'⟩ := good_num hg ⟨s, m, i, hr⟩
    rw [hr] at hr'
    injection hr' with hs _ _
    subst hs
    exact write_good _ _
theorem whole_read {N : Nat} (h0 : 0 < N) (h53 : N < 9007199254740992) : ∃ n j, D64.read (wholeW N) = .number false n j ∧ 0 < n ∧ lq 1 0 n j := by
  have hk := log2_le h0 h53
  have hb := log2_bd h0
  have hf := full h0 h53
  refine ⟨N * 2 ^ (52 - N.log2), 0 + (N.log2 : Int) - 52, ?_, ?_, ?_⟩
  · unfold wholeW
    rw [if_neg (by omega)]
    exact read_enc h0 h53 0 (by omega) (by omega)
  · omega
  · refine lq_of (b := 0 + (N.log2 : Int) - 52) (by omega) (by omega) ?_
    rw [Int.sub_self, show ((0 : Int) - (0 + (N.log2 : Int) - 52)).toNat = 52 - N.log2 by omega, Int.toNat_zero, Nat.pow_zero, Nat.mul_one]
    exact Nat.mul_le_mul_right _ h0
def fquo (x y : Nat) : Nat := (floatBits .quo .f64 x y).getD 0
def fsub (x y : Nat) : Nat := (floatBits .sub .f64 x y).getD 0
def fsqrt (x : Nat) : Nat := (D64.sqrt x).getD 0
theorem fquo_bd {k x N : Nat} (hx : bd k x) (h0 : 0 < N) (h53 : N < 9007199254740992) (hk : k + 1 ≤ 1023) : floatBits .quo .f64 x (wholeW N) = some (fquo x (wholeW N)) ∧ bd (k + 1) (fquo x (wholeW N)) ∧ (good x → good (fquo x (wholeW N))) := by
  obtain ⟨n, j, hr, hn, h1⟩ := whole_read h0 h53
  obtain ⟨z, hz, hb, hg⟩ := bd_quo hx hr hn h1 hk
  unfold fquo
  rw [hz]
  exact ⟨rfl, hb, hg⟩
theorem fsub_bd {k x y : Nat} (hx : bd k x) (hy : bd k y) (h : k + 1 ≤ 1023) : floatBits .sub .f64 x y = some (fsub x y) ∧ bd (k + 1) (fsub x y) := by
  obtain ⟨z, hz, hb⟩ := bd_sub hx hy h
  unfold fsub
  rw [hz]
  exact ⟨rfl, hb⟩
theorem fsqrt_good {k x : Nat} (hx : bd k x) (hk : k ≤ 1023) (hg : good x) : D64.sqrt x = some (fsqrt x) ∧ good (fsqrt x) := by
  obtain ⟨s, m', i', hr0, _⟩ := bd_num hx hk
  obtain ⟨m, i, hr⟩ := good_num hg ⟨s, m', i', hr0⟩
  have key : ∃ z, D64.sqrt x = some z ∧ good z := by
    unfold Format.sqrt
    rw [hr]
    unfold Datum.root
    by_cases hm : m = 0
    · simp only [hm, if_true]
      exact ⟨_, rfl, write_good _ _⟩
    · simp only [hm, if_false, Bool.false_eq_true]
      exact ⟨_, rfl, write_good _ _⟩
  obtain ⟨z, hz, h⟩ := key
  unfold fsqrt
  rw [hz]
  exact ⟨rfl, h⟩
theorem sqrt_ext (n r : Nat) (h : D64.sqrt n = some r) (w : World) : (Extern.MathSqrt.sqrt #[cf n]).run Try.prog w = .ok (cf r) w := by
  have e : Extern.MathSqrt.sqrt #[cf n] = (match FloatKind.f64.format.sqrt n with | some r => pure (.float .f64 r) | none => do pure (.float .f64 (← choose (.nanBits .f64 n n)))) := rfl
  rw [e, show FloatKind.f64.format.sqrt n = some r from h]
  rfl
theorem sqrt_run (n r : Nat) (h : D64.sqrt n = some r) (w : World) : (callFunc 47 #[cf n]).run Try.prog w = .ok (.value (cf r)) w := by
  have hc : (callFunc 47 #[cf n]).run Try.prog w = ((Extern.MathSqrt.sqrt #[cf n]).run Try.prog w).andThen fun v w' => .ok (.value v) w' := by
    obtain ⟨fn, hf⟩ : ∃ fn, Try.prog.funcs[47]? = some fn := ⟨_, rfl⟩
    have hf' := hf
    have hx : (Try.prog.funcs[47]?.map fun fn => (fn.name == "runtime.NumGoroutine", fn.body.isNone, (Extern.findNext fn).isNone)) = some (false, true, true) := by kernel_rfl
    have hy : (Try.prog.funcs[47]?.bind fun fn => Extern.find fn) = some Extern.MathSqrt.sqrt := by kernel_rfl
    rw [hf] at hx hy
    simp only [Option.map_some, Option.some.injEq, Prod.mk.injEq, Option.bind_some] at hx hy
    exact run_callFunc_extern hf hx.1 hx.2.1 (by simpa using hx.2.2) hy _ _
  rw [hc, sqrt_ext n r h w]
  rfl
/-- a square is not below nought -/
theorem sq_good {k x : Nat} (hx : bd k x) (hk : k + k ≤ 1023) : good (fml x x) := by
  obtain ⟨s, m, i, hr, _⟩ := bd_num hx (by omega)
  have he : floatBits .mul .f64 x x = some (D64.write (.number (s ^^ s) (m * m) (i + i))) := by
    show D64.mul x x = _
    unfold Format.mul
    rw [hr]
    have hp : Datum.product (.number s m i) (.number s m i) = some (.number (s ^^ s) (m * m) (i + i)) := rfl
    rw [hp, Option.map_some]
  unfold fml
  rw [he, Bool.xor_self]
  exact write_good _ _
def meanP (L : List Nat) : Nat := fquo (sumF 0 L) (wholeW L.length)
def spF (mean : Nat) : Nat → List Nat → Nat
  | y, [] => y
  | y, x :: r => spF mean (fadd y (fml (fsub x mean) (fsub x mean))) r
theorem spF_nil (mean y : Nat) : spF mean y [] = y := rfl
theorem spF_cons (mean y x : Nat) (r : List Nat) : spF mean y (x :: r) = spF mean (fadd y (fml (fsub x mean) (fsub x mean))) r := rfl
def spreadP (L : List Nat) : Nat := fsqrt (fquo (spF (meanP L) 0 L) (wholeW L.length))
theorem sumF_bd : ∀ (l : List Nat) (k y : Nat), bd k y → 83 ≤ k → (∀ x ∈ l, bd 83 x) → k + l.length ≤ 1000 → bd (k + l.length) (sumF y l)
  | [], k, y, h, _, _, _ => h
  | x :: r, k, y, h, hk, hl, hn => by
    rw [sumF_cons]
    simp only [List.length_cons] at hn ⊢
    have := sumF_bd r (k + 1) _ (fadd_bd h (bd_mono (hl x (by simp)) hk) (by omega)).2 (by omega) (fun z hz => hl z (by simp [hz])) (by omega)
    rw [show k + 1 + r.length = k + (r.length + 1) by omega] at this
    exact this
theorem mean_bd {L : List Nat} (hl : ∀ x ∈ L, bd 83 x) (h1 : 1 ≤ L.length) (h2 : L.length ≤ 64) : floatBits .quo .f64 (sumF 0 L) (wholeW L.length) = some (meanP L) ∧ bd 148 (meanP L) := by
  have hs := bd_mono (sumF_bd L 83 0 (bd_zero _) (Nat.le_refl _) hl (by omega)) (show 83 + L.length ≤ 147 by omega)
  obtain ⟨a, b, _⟩ := fquo_bd (N := L.length) hs h1 (by omega) (by omega)
  exact ⟨a, b⟩
/-- one step of the sum of squares -/
theorem sp_step {mean x y t : Nat} (hm : bd 148 mean) (hx : bd 83 x) (hy : bd (298 + t) y) (hg : good y) (ht : t ≤ 64) :
    floatBits .sub .f64 x mean = some (fsub x mean) ∧ floatBits .mul .f64 (fsub x mean) (fsub x mean) = some (fml (fsub x mean) (fsub x mean)) ∧
      floatBits .add .f64 y (fml (fsub x mean) (fsub x mean)) = some (fadd y (fml (fsub x mean) (fsub x mean))) ∧ bd (298 + (t + 1)) (fadd y (fml (fsub x mean) (fsub x mean))) ∧ good (fadd y (fml (fsub x mean) (fsub x mean))) := by
  obtain ⟨a1, a2⟩ := fsub_bd (bd_mono hx (show 83 ≤ 148 by omega)) hm (by omega)
  obtain ⟨b1, b2⟩ := fml_bd a2 a2 (by omega)
  obtain ⟨c1, c2⟩ := fadd_bd hy (bd_mono b2 (show 148 + 1 + (148 + 1) ≤ 298 + t by omega)) (by omega)
  exact ⟨a1, b1, c1, c2, (fadd_eq hg (Or.inl (sq_good a2 (by omega)))).2⟩
theorem spF_bd {mean : Nat} (hm : bd 148 mean) : ∀ (l : List Nat) (t y : Nat), bd (298 + t) y → good y → (∀ x ∈ l, bd 83 x) → t + l.length ≤ 64 → bd 362 (spF mean y l) ∧ good (spF mean y l)
  | [], t, y, h, hg, _, ht => ⟨bd_mono h (by simp at ht; omega), hg⟩
  | x :: r, t, y, h, hg, hl, ht => by
    rw [spF_cons]
    simp only [List.length_cons] at ht
    obtain ⟨_, _, _, c1, c2⟩ := sp_step hm (hl x (by simp)) h hg (by omega)
    exact spF_bd hm r (t + 1) _ c1 c2 (fun z hz => hl z (by simp [hz])) (by omega)
theorem spread_fin {L : List Nat} (hl : ∀ x ∈ L, bd 83 x) (h1 : 1 ≤ L.length) (h2 : L.length ≤ 64) :
    floatBits .quo .f64 (spF (meanP L) 0 L) (wholeW L.length) = some (fquo (spF (meanP L) 0 L) (wholeW L.length)) ∧ D64.sqrt (fquo (spF (meanP L) 0 L) (wholeW L.length)) = some (spreadP L) ∧ good (spreadP L) := by
  obtain ⟨s1, s2⟩ := spF_bd (mean_bd hl h1 h2).2 L 0 0 (bd_zero _) good0 hl (by omega)
  obtain ⟨a, b, c⟩ := fquo_bd (N := L.length) s1 h1 (by omega) (by omega)
  obtain ⟨d, e⟩ := fsqrt_good b (by omega) (c s2)
  exact ⟨a, d, e⟩
attribute [irreducible] fquo fsub fsqrt spF meanP spreadP
end Go.Proofs.Ytjgdeijodjihlaa
