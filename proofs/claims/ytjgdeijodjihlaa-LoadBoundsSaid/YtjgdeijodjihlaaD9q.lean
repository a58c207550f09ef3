/- LoadBounds: the rhythm's mirror. -/
import Derived.Test.YtjgdeijodjihlaaD9p
namespace Go.Proofs.Ytjgdeijodjihlaa
open Go.RowKit
open Ieee
set_option linter.unusedVariables false

theorem neg_word (r : Nat) (h : r < 9223372036854775808) : r ^^^ 9223372036854775808 = 9223372036854775808 + r := by
  rw [show (9223372036854775808 : Nat) = 2 ^ 63 by decide] at h ⊢
  apply Nat.eq_of_testBit_eq
  intro i
  rw [Nat.testBit_xor, Nat.testBit_two_pow]
  by_cases e : i = 63
  · subst e
    rw [Nat.testBit_two_pow_add_eq, Nat.testBit_lt_two_pow h]
    simp
  · rcases Nat.lt_or_ge i 63 with hl | hl
    · rw [Nat.testBit_two_pow_add_gt hl]
      simp [show ¬ 63 = i by omega]
    · have h2 : 2 ^ 63 + r < 2 ^ i := by
        have : 2 ^ 64 ≤ 2 ^ i := Nat.pow_le_pow_right (by omega) (by omega)
        omega
      have h3 : r < 2 ^ i := by omega
      rw [Nat.testBit_lt_two_pow h2, Nat.testBit_lt_two_pow h3]
      simp [show ¬ 63 = i by omega]
theorem neg_back (r : Nat) (h : r < 9223372036854775808) : (9223372036854775808 + r) ^^^ 9223372036854775808 = r := by
  rw [← neg_word r h, Nat.xor_assoc, Nat.xor_self, Nat.xor_zero]
theorem read_sign {r n : Nat} {q : Int} (h : r < 9218868437227405312) (hr : D64.read r = .number false n q) : D64.read (9223372036854775808 + r) = .number true n q := by
  obtain ⟨s, hs⟩ := read_abs (x := 9223372036854775808 + r) (by omega)
  have e := hs n q (by rw [Nat.add_mod_left, Nat.mod_eq_of_lt (by omega)]; exact hr)
  rcases read_cases (9223372036854775808 + r) (by omega) with ⟨t, m, p, h1, _, h2, _⟩ | ⟨t, h1, _⟩ | ⟨t, f, h1, _⟩
  · rw [h1] at e
    injection e with e1 e2 e3
    rw [h1, h2 (by omega), e2, e3]
  · rw [h1] at e; cases e
  · rw [h1] at e; cases e
theorem near_read {s : Bool} {m : Nat} {p : Int} (h : D64.nearest false m p < 9218868437227405312) : ∃ n q, D64.read (D64.nearest s m p) = .number s n q ∧ D64.read (D64.nearest false m p) = .number false n q := by
  obtain ⟨n, q, hr, _⟩ := read_word h
  refine ⟨n, q, ?_, hr⟩
  cases s with
  | false => exact hr
  | true =>
    have gen : ∀ f : Format, f.nearest true m p = f.signWeight + f.nearest false m p := fun f => by
      unfold Format.nearest Format.word Toward.cut
      simp
      split <;> rfl
    have e := gen D64
    rw [d_sw] at e
    rw [e]
    exact read_sign h hr
/-- one is the other, its sign turned (noughts are alike) -/
def Ng (x y : Nat) : Prop := ∃ s t m p, D64.read x = .number s m p ∧ D64.read y = .number t m p ∧ (m = 0 ∨ t = !s)
theorem Ng.of_zero : Ng 0 0 := ⟨false, false, 0, _, read_zero, read_zero, Or.inl rfl⟩
theorem Ng.write {s t : Bool} {m : Nat} {p : Int} (h : m = 0 ∨ t = !s) (hf : D64.nearest false m p < 9218868437227405312) : Ng (D64.write (.number s m p)) (D64.write (.number t m p)) := by
  rw [write_number', write_number']
  obtain ⟨n, q, h1, h2⟩ := near_read (s := s) hf
  obtain ⟨n', q', h3, h4⟩ := near_read (s := t) hf
  rw [h2] at h4
  injection h4 with _ e1 e2
  subst e1 e2
  refine ⟨s, t, n, q, h1, h3, ?_⟩
  rcases h with h | h
  · subst h
    rw [near_zero, read_zero] at h2
    injection h2 with _ e _
    exact Or.inl e.symm
  · exact Or.inr h
theorem bd_near {s : Bool} {m k : Nat} {p : Int} (hk : k ≤ 1023) (h : bd k (D64.nearest s m p)) : D64.nearest false m p < 9218868437227405312 := by
  obtain ⟨h1, h2⟩ := nearest_abs s m p
  have h3 := h.2
  rw [h1] at h3
  omega
theorem signed_not (s : Bool) (m k : Nat) : signed (!s) m k = - signed s m k := by
  unfold signed
  cases s <;> simp
theorem Ng.add {k a a' b b' : Nat} (h : Ng a a') (g : Ng b b') (ha : bd k a) (hb : bd k b) (hk : k + 1 ≤ 1023) : Ng (fadd a b) (fadd a' b') := by
  obtain ⟨s, t, m, i, h1, h2, h3⟩ := h
  obtain ⟨u, v, n, j, g1, g2, g3⟩ := g
  obtain ⟨X, hX⟩ : ∃ X : Int, X = signed s m (i - min i j).toNat + signed u n (j - min i j).toNat := ⟨_, rfl⟩
  have e : signed t m (i - min i j).toNat + signed v n (j - min i j).toNat = -X := by
    have z : ∀ (b : Bool) (k : Nat), signed b 0 k = 0 := fun b k => by cases b <;> simp [signed]
    have h4 : signed t m (i - min i j).toNat = - signed s m (i - min i j).toNat := by
      rcases h3 with h | h
      · rw [h, z, z]; rfl
      · rw [h, signed_not]
    have h5 : signed v n (j - min i j).toNat = - signed u n (j - min i j).toNat := by
      rcases g3 with h | h
      · rw [h, z, z]; rfl
      · rw [h, signed_not]
    rw [h4, h5, hX]; omega
  have s1 : floatBits .add .f64 a b = some (D64.write (.number (if X = 0 then s && u else decide (X < 0)) X.natAbs (min i j))) := by
    show D64.add a b = _
    unfold Format.add
    rw [h1, g1]
    simp only [Datum.sum, ← hX]
    rfl
  have s2 : floatBits .add .f64 a' b' = some (D64.write (.number (if -X = 0 then t && v else decide (-X < 0)) X.natAbs (min i j))) := by
    show D64.add a' b' = _
    unfold Format.add
    rw [h2, g2]
    simp only [Datum.sum, e, Int.natAbs_neg]
    rfl
  obtain ⟨z, hz, hbd⟩ := bd_add ha hb hk
  have hfin : D64.nearest false X.natAbs (min i j) < 9218868437227405312 := by
    rw [s1] at hz
    have := Option.some.inj hz
    rw [← this, write_number'] at hbd
    exact bd_near (by omega) hbd
  unfold fadd
  rw [s1, s2]
  refine Ng.write ?_ hfin
  by_cases h0 : X = 0
  · exact Or.inl (by rw [h0]; rfl)
  · right
    rw [if_neg (by omega), if_neg h0]
    by_cases h1 : X < 0
    · rw [decide_eq_true h1, decide_eq_false (by omega)]; rfl
    · rw [decide_eq_false h1, decide_eq_true (by omega)]; rfl
theorem Ng.mul {j k v x y : Nat} (h : Ng x y) (hv : bd j v) (hx : bd k x) (hk : j + k ≤ 1023) : Ng (fml v x) (fml v y) := by
  obtain ⟨s, t, m, i, h1, h2, h3⟩ := h
  obtain ⟨u, n, p, g1, _⟩ := bd_num hv (by omega)
  have gen : ∀ (w : Nat) (b : Bool), D64.read w = .number b m i → floatBits .mul .f64 v w = some (D64.write (.number (u ^^ b) (n * m) (p + i))) := fun w b hw => by
    show D64.mul v w = _
    unfold Format.mul
    rw [g1, hw]
    have hp : Datum.product (.number u n p) (.number b m i) = some (.number (u ^^ b) (n * m) (p + i)) := rfl
    rw [hp, Option.map_some]
  obtain ⟨z, hz, hbd⟩ := bd_mul hv hx hk
  have hfin : D64.nearest false (n * m) (p + i) < 9218868437227405312 := by
    rw [gen x s h1] at hz
    have := Option.some.inj hz
    rw [← this, write_number'] at hbd
    exact bd_near (by omega) hbd
  unfold fml
  rw [gen x s h1, gen y t h2]
  refine Ng.write ?_ hfin
  rcases h3 with h | h
  · exact Or.inl (by rw [h, Nat.mul_zero])
  · right
    rw [h]
    cases u <;> cases s <;> rfl
/-- turns and their mirrors -/
theorem tre_even (n : Nat) (h : n < 8) : tre ((8 - n) % 8) = tre n := by
  unfold tre
  match n, h with
  | 0, _ => rfl
  | 1, _ => rfl
  | 2, _ => rfl
  | 3, _ => rfl
  | 4, _ => rfl
  | 5, _ => rfl
  | 6, _ => rfl
  | 7, _ => rfl
theorem tre_odd (n : Nat) (h : n < 8) : Ng (tre ((n + 6) % 8)) (tre (((8 - n) % 8 + 6) % 8)) := by
  have p1 : D64.read 4604544271217802189 = .number false 6369051672525773 (-53) := by kernel_rfl
  have n1 : D64.read 13827916308072577997 = .number true 6369051672525773 (-53) := by kernel_rfl
  have p2 : D64.read 4607182418800017408 = .number false 4503599627370496 (-52) := by kernel_rfl
  have n2 : D64.read 13830554455654793216 = .number true 4503599627370496 (-52) := by kernel_rfl
  unfold tre
  match n, h with
  | 0, _ => exact ⟨_, _, _, _, read_zero, read_zero, Or.inl rfl⟩
  | 1, _ => exact ⟨_, _, _, _, p1, n1, Or.inr rfl⟩
  | 2, _ => exact ⟨_, _, _, _, p2, n2, Or.inr rfl⟩
  | 3, _ => exact ⟨_, _, _, _, p1, n1, Or.inr rfl⟩
  | 4, _ => exact ⟨_, _, _, _, read_zero, read_zero, Or.inl rfl⟩
  | 5, _ => exact ⟨_, _, _, _, n1, p1, Or.inr rfl⟩
  | 6, _ => exact ⟨_, _, _, _, n2, p2, Or.inr rfl⟩
  | 7, _ => exact ⟨_, _, _, _, n1, p1, Or.inr rfl⟩
theorem mirror_mod (k t : Nat) (h1 : 1 ≤ k) (h7 : k ≤ 7) : ((8 - k) * t) % 8 = (8 - (k * t) % 8) % 8 := by
  match k, h1, h7 with
  | 1, _, _ => omega
  | 2, _, _ => omega
  | 3, _, _ => omega
  | 4, _, _ => omega
  | 5, _, _ => omega
  | 6, _, _ => omega
  | 7, _, _ => omega
theorem wst_mirror {v k t a b b' : Nat} (h1 : 1 ≤ k) (h7 : k ≤ 7) (hv : bd 83 v) (ht : t ≤ 8) (hb : bd (83 + t) b) (hn : Ng b b') :
    (wst v (k * t) (a, b)).1 = (wst v ((8 - k) * t) (a, b')).1 ∧ Ng (wst v (k * t) (a, b)).2 (wst v ((8 - k) * t) (a, b')).2 := by
  have hm := mirror_mod k t h1 h7
  obtain ⟨n, hnn⟩ : ∃ n, (k * t) % 8 = n := ⟨_, rfl⟩
  have hn8 : n < 8 := by rw [← hnn]; exact Nat.mod_lt _ (by omega)
  have e1 : (k * t + 6) % 8 = (n + 6) % 8 := by omega
  have e2 : ((8 - k) * t + 6) % 8 = ((8 - n) % 8 + 6) % 8 := by rw [hnn] at hm; omega
  unfold wst
  simp only
  rw [hm, hnn, e1, e2, tre_even n hn8]
  refine ⟨rfl, ?_⟩
  have hp := (tre_odd n hn8).mul hv (tre_bd _) (by omega)
  exact hn.add hp hb (bd_mono (fml_bd hv (tre_bd _) (by omega)).2 (by omega)) (by omega)
theorem wvF_mirror (k : Nat) (h1 : 1 ≤ k) (h7 : k ≤ 7) : ∀ (l : List Nat) (t : Nat) (a b b' : Nat), (∀ v ∈ l, bd 83 v) → bd (83 + t) a → bd (83 + t) b → Ng b b' → t + l.length ≤ 8 →
    (wvF k t (a, b) l).1 = (wvF (8 - k) t (a, b') l).1 ∧ Ng (wvF k t (a, b) l).2 (wvF (8 - k) t (a, b') l).2
  | [], t, a, b, b', _, _, _, hn, _ => by rw [wvF_nil, wvF_nil]; exact ⟨rfl, hn⟩
  | v :: r, t, a, b, b', hl, ha, hb, hn, ht => by
    rw [wvF_cons, wvF_cons]
    simp only [List.length_cons] at ht
    have hv := hl v (by simp)
    obtain ⟨c1, c2⟩ := wst_mirror (a := a) h1 h7 hv (show t ≤ 8 by omega) hb hn
    obtain ⟨_, _, _, d1, d2⟩ := wst_bd (n := k * t) (p := (a, b)) hv ha hb (by omega)
    obtain ⟨x, hx⟩ : ∃ x, wst v (k * t) (a, b) = x := ⟨_, rfl⟩
    obtain ⟨y, hy⟩ : ∃ y, wst v ((8 - k) * t) (a, b') = y := ⟨_, rfl⟩
    rw [hx] at c1 c2 d1 d2 ⊢
    rw [hy] at c1 c2 ⊢
    obtain ⟨x1, x2⟩ := x
    obtain ⟨y1, y2⟩ := y
    simp only at c1 c2 d1 d2
    subst c1
    exact wvF_mirror k h1 h7 r (t + 1) x1 x2 y2 (fun z hz => hl z (by simp [hz])) d1 d2 c2 (by omega)
/-- nought times whatever -/
theorem fml_zero {v : Nat} (hv : bd 83 v) (hg : good v) : fml v 0 = 0 := by
  obtain ⟨m, p, hr, _⟩ := good_read hv (by omega) hg
  unfold fml
  rw [mul_num hr read_zero, write_number, Nat.mul_zero, near_zero]
  rfl
theorem wvF_flat (k : Nat) (hk : ∀ t, tre ((k * t + 6) % 8) = 0) : ∀ (l : List Nat) (t a : Nat), (∀ v ∈ l, bd 83 v) → (∀ v ∈ l, good v) → (wvF k t (a, 0) l).2 = 0
  | [], t, a, _, _ => by rw [wvF_nil]
  | v :: r, t, a, hl, gl => by
    rw [wvF_cons]
    have e : wst v (k * t) (a, 0) = ((wst v (k * t) (a, 0)).1, 0) := by
      have : (wst v (k * t) (a, 0)).2 = 0 := by
        unfold wst
        simp only
        rw [hk t, fml_zero (hl v (by simp)) (gl v (by simp)), fadd00]
      exact Prod.ext rfl this
    rw [e]
    exact wvF_flat k hk r (t + 1) _ (fun z hz => hl z (by simp [hz])) (fun z hz => gl z (by simp [hz]))
theorem flat0 (t : Nat) : tre ((0 * t + 6) % 8) = 0 := by unfold tre; rw [Nat.zero_mul]; rfl
theorem flat4 (t : Nat) : tre ((4 * t + 6) % 8) = 0 := by
  have : (4 * t + 6) % 8 = 6 ∨ (4 * t + 6) % 8 = 2 := by omega
  rcases this with h | h
  · rw [h]; unfold tre; rfl
  · rw [h]; unfold tre; rfl
theorem good_one : good 4607182418800017408 := by unfold good inf64; omega
theorem one_num : num 4607182418800017408 := ⟨_, _, _, show D64.read 4607182418800017408 = .number false 4503599627370496 (-52) by kernel_rfl⟩
theorem wvF_zero_good : ∀ (l : List Nat) (t a b : Nat), (∀ v ∈ l, bd 83 v) → (∀ v ∈ l, good v) → good a → good (wvF 0 t (a, b) l).1
  | [], t, a, b, _, _, h => by rw [wvF_nil]; exact h
  | v :: r, t, a, b, hl, gl, h => by
    rw [wvF_cons]
    have hv := hl v (by simp)
    have gv := gl v (by simp)
    have hg : good (wst v (0 * t) (a, b)).1 := by
      unfold wst
      simp only
      rw [Nat.zero_mul, show tre (0 % 8) = 4607182418800017408 by unfold tre; rfl]
      refine (fadd_eq h (Or.inl ?_)).2
      obtain ⟨s, m, p, hr, _⟩ := bd_num hv (by omega)
      obtain ⟨z, hz, hm⟩ := mul_good gv ⟨s, m, p, hr⟩ good_one one_num
      unfold fml
      rw [hm]
      exact hz
    obtain ⟨x, hx⟩ : ∃ x, wst v (0 * t) (a, b) = x := ⟨_, rfl⟩
    rw [hx] at hg ⊢
    obtain ⟨x1, x2⟩ := x
    exact wvF_zero_good r (t + 1) x1 x2 (fun z hz => hl z (by simp [hz])) (fun z hz => gl z (by simp [hz])) hg
/-- as Go asks it -/
theorem Ng.eq {x y : Nat} (h : Ng x y) (hy : y < 18446744073709551616) (hf : y % 9223372036854775808 < 9218868437227405312) : FloatKind.f64.format.order x (Op.negFloat .f64 y) = some .eq := by
  obtain ⟨s, t, m, p, h1, h2, h3⟩ := h
  have hneg : D64.read (Op.negFloat .f64 y) = .number (!t) m p := by
    unfold Op.negFloat
    rw [show 2 ^ (FloatKind.f64.format.exponentBits + FloatKind.f64.format.fractionBits) = 9223372036854775808 from by decide]
    rcases Nat.lt_or_ge y 9223372036854775808 with h | h
    · rw [neg_word y h]
      obtain ⟨n, q, hr, _⟩ := read_word (z := y) (by omega)
      have hr' := hr
      rw [h2] at hr
      injection hr with e1 e2 e3
      subst e1 e2 e3
      exact read_sign (by omega) hr'
    · obtain ⟨r, rfl⟩ : ∃ r, y = 9223372036854775808 + r := ⟨y - 9223372036854775808, by omega⟩
      rw [neg_back r (by omega)]
      obtain ⟨n, q, hr, _⟩ := read_word (z := r) (by omega)
      rw [read_sign (by omega) hr] at h2
      injection h2 with e1 e2 e3
      subst e1 e2 e3
      exact hr
  unfold Format.order
  rw [show FloatKind.f64.format.read x = _ from h1, show FloatKind.f64.format.read (Op.negFloat .f64 y) = _ from hneg]
  simp only [Datum.order]
  have e : signed (!t) m (p - min p p).toNat = signed s m (p - min p p).toNat := by
    rcases h3 with h | h
    · subst h; cases s <;> cases t <;> simp [signed]
    · rw [h, Bool.not_not]
  rw [e, cmp_self]
theorem wave_at (win : List Nat) (k : Nat) (hk : k < 8) : (wave win)[k]? = some (wvF k 0 (0, 0) win) := by
  unfold wave
  rw [List.getElem?_map, List.getElem?_range hk]
  rfl
theorem wave_mirror (win : List Nat) (hw : ∀ v ∈ win, bd 83 v) (h8 : win.length = 8) (k : Nat) (h1 : 1 ≤ k) (h7 : k ≤ 7) :
    FloatKind.f64.format.order (wvF k 0 (0, 0) win).1 (wvF (8 - k) 0 (0, 0) win).1 = some .eq ∧ FloatKind.f64.format.order (wvF k 0 (0, 0) win).2 (Op.negFloat .f64 (wvF (8 - k) 0 (0, 0) win).2) = some .eq := by
  obtain ⟨a, b⟩ := wvF_mirror k h1 h7 win 0 0 0 0 hw (bd_zero _) (bd_zero _) Ng.of_zero (by omega)
  obtain ⟨c, d⟩ := wvF_bd (8 - k) win 0 (0, 0) hw (bd_zero _) (bd_zero _) (by omega)
  refine ⟨?_, b.eq d.1 (by have := d.2; omega)⟩
  rw [a]
  exact bd_self c (by omega)
end Go.Proofs.Ytjgdeijodjihlaa
