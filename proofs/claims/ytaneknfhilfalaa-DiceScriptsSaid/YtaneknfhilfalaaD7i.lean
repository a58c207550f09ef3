/- Layer 7 (dice): what is picked of weights that are right, of doubled ones, of a lone one. No program in sight. -/
import Derived.Test.YtaneknfhilfalaaD7g
import Derived.Test.YtaneknfhilfalaaFld
namespace Go.Proofs.Ytaneknfhilfalaa
open Ieee
set_option linter.unusedVariables false

theorem fadd_of {x y z : Nat} (h : floatBits .add .f64 x y = some z) : fadd x y = z := by unfold fadd; rw [h]; rfl
theorem fmul_of {x y z : Nat} (h : floatBits .mul .f64 x y = some z) : fmul x y = z := by unfold fmul; rw [h]; rfl
theorem gtB_good {x y : Nat} (hx : good x) (hy : good y) : gtB x y = decide (y < x) := by
  rw [gtB_eq, show FloatKind.f64.format.order x y = some (compare x y) from order_good hx hy]
  rcases Nat.lt_trichotomy x y with h | h | h
  · rw [Nat.compare_eq_lt.2 h, decide_eq_false (by omega)]; rfl
  · rw [Nat.compare_eq_eq.2 h, decide_eq_false (by omega)]; rfl
  · rw [Nat.compare_eq_gt.2 h, decide_eq_true h]; rfl
theorem gtB_neg : gtB 9223372036854775808 0 = false := by rw [gtB_eq]; kernel_rfl
theorem zero_good : good 0 := by unfold good inf64; omega
theorem gtB_nn {x : Nat} (h : nn x) : gtB x 0 = decide (0 < x ∧ x < 9223372036854775808) := by
  rcases h with h | h
  · rw [gtB_good h zero_good]; unfold good inf64 at h
    rcases Nat.eq_zero_or_pos x with h0 | h0
    · rw [decide_eq_false (by omega), decide_eq_false (by omega)]
    · rw [decide_eq_true (by omega), decide_eq_true (by omega)]
  · rw [h, gtB_neg, decide_eq_false (by omega)]
/-- a weight that is not above 0 adds nothing -/
theorem fadd_none {x y : Nat} (hx : good x) (hy : nn y) (h : gtB y 0 = false) : fadd x y = x := by
  rw [gtB_nn hy] at h
  have h' := of_decide_eq_false h
  refine fadd_of (add_zero_right hx ?_)
  unfold nn good inf64 at hy
  omega
theorem fadd_ge {x y : Nat} (hx : good x) (hy : nn y) : x ≤ fadd x y := add_ge hx hy (fadd_eq hx hy).1
theorem fadd_good {x y : Nat} (hx : good x) (hy : nn y) : good (fadd x y) := (fadd_eq hx hy).2
theorem okB_nn {x : Nat} (hb : x < 18446744073709551616) (h : okB x = true) : nn x := by
  unfold okB at h
  rw [Bool.and_eq_true] at h
  exact nn_of hb ((fin_num hb).1 h.2) (by simpa using h.1)
theorem chk_good {ws : List Nat} (hb : ∀ x ∈ ws, x < 18446744073709551616) : ∀ {S T : Nat}, good S → chk S ws = some T → good T ∧ S ≤ T := by
  induction ws with
  | nil => intro S T hS h; rw [chk_nil] at h; cases h; exact ⟨hS, Nat.le_refl _⟩
  | cons y r ih =>
    intro S T hS h
    rw [chk_cons] at h
    split at h
    · rename_i ho
      have hn := okB_nn (hb y (by simp)) ho
      obtain ⟨h1, h2⟩ := ih (fun x hx => hb x (by simp [hx])) (fadd_good hS hn) h
      exact ⟨h1, Nat.le_trans (fadd_ge hS hn) h2⟩
    · cases h
/-- what is scanned for is found at a weight above 0 -/
theorem scan_pos (x : Nat) (hx : good x) {ws all : List Nat} (hn : ∀ w ∈ ws, nn w) : ∀ {S : Nat} {last : Int} {i : Nat}, good S → ¬ x < S → all.drop i = ws →
    (S ≠ 0 → ∃ j : Nat, last = (j : Int) ∧ ∃ h : j < all.length, gtB all[j] 0 = true) → (∀ T, chk S ws = some T → T ≠ 0 → ∃ j : Nat, scan x S last i ws = (j : Int) ∧ ∃ h : j < all.length, gtB all[j] 0 = true) := by
  induction ws with
  | nil =>
    intro S last i hS hlt hd hl T hT hT0
    rw [chk_nil] at hT
    cases hT
    rw [scan_nil]
    exact hl hT0
  | cons w r ih =>
    intro S last i hS hlt hd hl T hT hT0
    have hw : nn w := hn w (by simp)
    have hi : i < all.length := by
      rcases Nat.lt_or_ge i all.length with h | h
      · exact h
      · rw [List.drop_eq_nil_of_le h] at hd; cases hd
    have hd2 := List.drop_eq_getElem_cons hi
    rw [hd] at hd2
    have hwi : w = all[i] := by injection hd2
    have hr : all.drop (i + 1) = r := by injection hd2 with _ h; exact h.symm
    rw [chk_cons] at hT
    split at hT
    · rw [scan_cons]
      cases hg : gtB (fadd S w) x with
      | true =>
        rw [gtB_good (fadd_good hS hw) hx] at hg
        have hg' := of_decide_eq_true hg
        refine ⟨i, by simp, hi, ?_⟩
        rw [← hwi]
        cases hc : gtB w 0 with
        | true => rfl
        | false => rw [fadd_none hS hw hc] at hg'; exact absurd hg' hlt
      | false =>
        have hg2 := hg
        rw [gtB_good (fadd_good hS hw) hx] at hg2
        have hg' := of_decide_eq_false hg2
        simp only [Bool.false_eq_true, if_false]
        refine ih (fun w h => hn w (by simp [h])) (fadd_good hS hw) hg' hr ?_ T hT hT0
        intro h0
        cases hc : gtB w 0 with
        | true => exact ⟨i, by simp, hi, by rw [← hwi]; exact hc⟩
        | false =>
          rw [fadd_none hS hw hc] at h0
          simpa using hl h0
    · cases hT
theorem gtB_dbl {x y : Nat} (hx : good x) (hy : good y) (h1 : x < 9214364837600034816) (h2 : y < 9214364837600034816) : gtB (dbl x) (dbl y) = gtB x y := by
  have e : ∀ {x : Nat}, x < 9214364837600034816 → dbl x = if x = 0 then 0 else x + 4503599627370496 := fun {x} h => by
    by_cases h0 : x = 0
    · subst h0; simp [dbl]
    · rw [if_neg h0, dbl_pos (by omega) (by omega)]
  have g : ∀ {x : Nat}, x < 9214364837600034816 → good (dbl x) := fun {x} h => by
    rw [e h]; unfold good inf64; split <;> omega
  rw [gtB_good (g h1) (g h2), gtB_good hx hy, e h1, e h2]
  congr 1
  apply propext
  split <;> split <;> omega
theorem gtB_dbl0 {x : Nat} (h : midn x) : gtB (dbl x) 0 = gtB x 0 := by
  rw [gtB_nn (dbl_nn h), gtB_nn (midn_nn h)]
  rcases h with h | h
  · rw [dbl_mid h]
    congr 1
    apply propext
    unfold mid at h
    split <;> omega
  · subst h; rw [dbl_neg]
theorem mid_num {x : Nat} (h : midn x) : num x := by
  rcases h with h | h
  · obtain ⟨n, q, hr, _⟩ := read_word (z := x) (by unfold mid at h; omega)
    exact ⟨_, _, _, hr⟩
  · subst h; exact ⟨_, _, _, read_neg0⟩
theorem good_num' {x : Nat} (h : x < 9218868437227405312) : num x := by
  obtain ⟨n, q, hr, _⟩ := read_word h
  exact ⟨_, _, _, hr⟩
theorem ord_nn {x : Nat} (h : nn x) : (FloatKind.f64.format.order x 0 == some .lt) = false := by
  rcases h with h | h
  · rw [show FloatKind.f64.format.order x 0 = some (compare x 0) from order_good h zero_good]
    rcases Nat.eq_zero_or_pos x with h0 | h0
    · rw [Nat.compare_eq_eq.2 h0]; rfl
    · rw [Nat.compare_eq_gt.2 h0]; rfl
  · subst h; kernel_rfl
theorem nn_lt {x : Nat} (h : nn x) : x < 18446744073709551616 := by unfold nn good inf64 at h; omega
theorem okB_dbl {x : Nat} (h : midn x) : okB (dbl x) = true := by
  unfold okB
  rw [ord_nn (dbl_nn h), Bool.not_false, Bool.true_and, fin_num (nn_lt (dbl_nn h))]
  rcases h with h | h
  · refine good_num' ?_
    rw [dbl_mid h]; unfold mid at h; split <;> omega
  · subst h; rw [dbl_neg]; exact ⟨_, _, _, read_neg0⟩
theorem chk_dbl {ws : List Nat} (hm : ∀ w ∈ ws, midn w) : ∀ {S T : Nat}, mid S → chk S ws = some T → T < 8660422083433463808 → chk (dbl S) (ws.map dbl) = some (dbl T) ∧ mid T := by
  induction ws with
  | nil => intro S T hS h _; rw [chk_nil] at h; cases h; exact ⟨by rw [List.map_nil, chk_nil], hS⟩
  | cons y r ih =>
    intro S T hS h hT
    rw [chk_cons] at h
    have hy := hm y (by simp)
    split at h
    · have hle := (chk_good (fun x hx => nn_lt (midn_nn (hm x (by simp [hx])))) (fadd_good (mid_good hS) (midn_nn hy)) h).2
      obtain ⟨h1, h2⟩ := add_dbl hS hy (fadd_eq (mid_good hS) (midn_nn hy)).1 (by omega)
      rw [List.map_cons, chk_cons, okB_dbl hy, if_pos rfl, fadd_of h1]
      exact ih (fun x hx => hm x (by simp [hx])) h2 h hT
    · cases h
theorem scan_dbl {x : Nat} (hx : good x) (hx2 : x < 8660422083433463808) {ws : List Nat} (hm : ∀ w ∈ ws, midn w) : ∀ {S T : Nat} (last : Int) (i : Nat), mid S → chk S ws = some T → T < 8660422083433463808 → scan (dbl x) (dbl S) last i (ws.map dbl) = scan x S last i ws := by
  induction ws with
  | nil => intro S T last i hS h _; rw [List.map_nil, scan_nil, scan_nil]
  | cons y r ih =>
    intro S T last i hS h hT
    rw [chk_cons] at h
    have hy := hm y (by simp)
    split at h
    · have hle := (chk_good (fun x hx => nn_lt (midn_nn (hm x (by simp [hx])))) (fadd_good (mid_good hS) (midn_nn hy)) h).2
      obtain ⟨h1, h2⟩ := add_dbl hS hy (fadd_eq (mid_good hS) (midn_nn hy)).1 (by omega)
      rw [List.map_cons, scan_cons, scan_cons, fadd_of h1, gtB_dbl (mid_good h2) hx (by unfold mid at h2; omega) (by omega), gtB_dbl0 hy, ih (fun x hx => hm x (by simp [hx])) _ _ h2 h hT]
    · cases h
theorem totB_good {T : Nat} (h : good T) : totB T = decide (T ≠ 0 ∧ T ≠ 9218868437227405312) := by
  have hlt : T < 18446744073709551616 := by unfold good inf64 at h; omega
  unfold totB
  rw [show FloatKind.f64.format.order T 0 = some (compare T 0) from order_good h zero_good]
  rcases Nat.eq_zero_or_pos T with h0 | h0
  · rw [Nat.compare_eq_eq.2 h0, decide_eq_false (by omega)]; rfl
  · rw [Nat.compare_eq_gt.2 h0]
    show fin64 T = _
    by_cases hi : T = 9218868437227405312
    · rw [decide_eq_false (by omega)]
      cases hf : fin64 T with
      | false => rfl
      | true =>
        obtain ⟨s, m, p, hr⟩ := (fin_num hlt).1 hf
        rw [hi, read_inf] at hr; cases hr
    · rw [decide_eq_true (by omega)]
      exact (fin_num hlt).2 (good_num' (by unfold good inf64 at h; omega))
theorem pick_some {ws : List Nat} {T : Nat} (s : BitVec 64) (hc : chk 0 ws = some T) (ht : totB T = true) : pick ws s = (scan (fmul (realW (mix (s + stride) >>> 11).toNat) T) 0 0 0 ws, 0, s + stride) := by
  unfold pick; rw [hc]; simp [ht]
/-- doubled weights are picked alike -/
theorem pick_dbl {ws : List Nat} {T : Nat} (s : BitVec 64) (hm : ∀ w ∈ ws, midn w) (hc : chk 0 ws = some T) (ht : totB T = true) (hT : T < 8660422083433463808) : pick (ws.map dbl) s = pick ws s := by
  obtain ⟨h1, h2⟩ := chk_dbl hm (Or.inl rfl) hc hT
  rw [dbl_zero] at h1
  have hg := mid_good h2
  rw [totB_good hg] at ht
  have ht' := of_decide_eq_true ht
  obtain ⟨x, m1, m2, m3⟩ := mul_dbl (T := T) (shr11_lt (mix (s + stride))) ht'.1 h2
  have hx : good x := by unfold good inf64 at hg ⊢; omega
  rw [pick_some s hc (by rw [totB_good hg]; exact ht), pick_some s h1 (by
    rw [totB_good (dbl_good h2)]
    refine decide_eq_true ?_
    rw [dbl_mid h2]; unfold mid at h2
    split <;> omega), fmul_of m1, fmul_of m3]
  congr 1
  have := scan_dbl hx (by omega) hm 0 0 (Or.inl rfl) hc hT
  rw [dbl_zero] at this
  exact this
/-- what is picked of right weights -/
theorem pick_right {ws : List Nat} {T : Nat} (s : BitVec 64) (hb : ∀ x ∈ ws, x < 18446744073709551616) (hc : chk 0 ws = some T) (ht : totB T = true) : ∃ j : Nat, pick ws s = ((j : Int), 0, s + stride) ∧ ∃ h : j < ws.length, gtB ws[j] 0 = true := by
  have hg := (chk_good hb zero_good hc).1
  have ht2 := ht
  rw [totB_good hg] at ht2
  have ht' := of_decide_eq_true ht2
  have hn := chk_nn hb 0 T hc
  have hr := real_good (shr11_lt (mix (s + stride)))
  obtain ⟨m1, m2⟩ := fmul_eq hr.1 hr.2 hg (good_num' (by unfold good inf64 at hg; omega))
  obtain ⟨j, h1, h2⟩ := scan_pos _ m2 (all := ws) hn (S := 0) (last := 0) (i := 0) zero_good (by omega) rfl (fun h => absurd rfl h) T hc ht'.1
  exact ⟨j, by rw [pick_some s hc ht, h1], h2⟩
def one64 : Nat := 4607182418800017408
theorem okB_zero : okB 0 = true := by unfold okB; rw [show (FloatKind.f64.format.order 0 0 == some .lt) = false by kernel_rfl, (fin_num (by omega)).2 ⟨_, _, _, read_zero⟩]; rfl
theorem okB_one : okB one64 = true := by unfold okB one64; rw [show (FloatKind.f64.format.order 4607182418800017408 0 == some .lt) = false by kernel_rfl, (fin_num (by omega)).2 ⟨_, _, _, read_one⟩]; rfl
theorem fadd_00 : fadd 0 0 = 0 := fadd_of (by kernel_rfl)
theorem fadd_01 : fadd 0 one64 = one64 := fadd_of (by kernel_rfl)
theorem fadd_10 : fadd one64 0 = one64 := fadd_of (by kernel_rfl)
theorem chk_zeros (S n : Nat) (hS : S = 0 ∨ S = one64) : chk S (List.replicate n 0) = some S := by
  induction n with
  | zero => rw [List.replicate_zero, chk_nil]
  | succ n ih =>
    rw [List.replicate_succ, chk_cons, okB_zero, if_pos rfl]
    rcases hS with h | h
    · subst h; rw [fadd_00]; exact ih
    · subst h; rw [fadd_10]; exact ih
theorem chk_lone (n k : Nat) (h : k < n) : chk 0 ((List.replicate n 0).set k one64) = some one64 := by
  induction n generalizing k with
  | zero => omega
  | succ n ih =>
    rw [List.replicate_succ]
    cases k with
    | zero => rw [List.set_cons_zero, chk_cons, okB_one, if_pos rfl, fadd_01]; exact chk_zeros _ _ (Or.inr rfl)
    | succ k => rw [List.set_cons_succ, chk_cons, okB_zero, if_pos rfl, fadd_00]; exact ih k (by omega)
theorem one_good : good one64 := by unfold good inf64 one64; omega
theorem real_one {m : Nat} (h53 : m < 9007199254740992) : ∃ x, floatBits .mul .f64 (realW m) one64 = some x ∧ x < one64 := by
  have hlt := real_lt h53
  have hg := real_good h53
  have ho : FloatKind.f64.format.order (realW m) 4607182418800017408 = some (compare (realW m) one64) := order_good hg.1 one_good
  rw [ho] at hlt
  have hlt' : realW m < one64 := by
    rcases Nat.lt_or_ge (realW m) one64 with h | h
    · exact h
    · rcases Nat.lt_or_eq_of_le h with h | h
      · rw [Nat.compare_eq_gt.2 h] at hlt; cases hlt
      · rw [Nat.compare_eq_eq.2 h.symm] at hlt; cases hlt
  obtain ⟨k, p, hr⟩ := good_num hg.1 hg.2
  obtain ⟨z, hz, hm⟩ := mul_good hg.1 hg.2 one_good ⟨_, _, _, read_one⟩
  refine ⟨z, hm, Nat.lt_of_le_of_lt ?_ hlt'⟩
  have hm' : D64.mul (realW m) one64 = some z := hm
  unfold Format.mul at hm'
  rw [hr, show D64.read one64 = _ from read_one] at hm'
  have hp : some (D64.write (.number false (k * 2 ^ 52) (p + -52))) = some z := hm'
  rw [write_number] at hp
  have := Option.some.inj hp
  rw [← this]
  unfold one64 at hlt'
  refine nearest_le (by omega) hr (lq_of (b := p + -52) (by omega) (by omega) ?_)
  rw [Int.sub_self, Int.toNat_zero, Nat.pow_zero, Nat.mul_one, show (p - (p + -52)).toNat = 52 by omega]
  exact Nat.le_refl _
theorem scan_lone (x : Nat) (hx : good x) (h1 : x < one64) (n k i : Nat) (h : k < n) (last : Int) : scan x 0 last i ((List.replicate n 0).set k one64) = ((i + k : Nat) : Int) := by
  induction n generalizing k i last with
  | zero => omega
  | succ n ih =>
    rw [List.replicate_succ]
    cases k with
    | zero =>
      rw [List.set_cons_zero, scan_cons, fadd_01, gtB_good one_good hx, decide_eq_true h1, if_pos rfl, Nat.add_zero]
    | succ k =>
      rw [List.set_cons_succ, scan_cons, fadd_00, gtB_good zero_good hx, decide_eq_false (by omega)]
      simp only [Bool.false_eq_true, if_false]
      rw [ih k (i + 1) (by omega)]
      congr 1
      omega
/-- of one weight alone that one -/
theorem pick_lone (n k : Nat) (h : k < n) (s : BitVec 64) : pick ((List.replicate n 0).set k one64) s = ((k : Int), 0, s + stride) := by
  have ht : totB one64 = true := by rw [totB_good one_good]; exact decide_eq_true (by unfold one64; omega)
  obtain ⟨x, h1, h2⟩ := real_one (shr11_lt (mix (s + stride)))
  rw [pick_some s (chk_lone n k h) ht, fmul_of h1, scan_lone x (by unfold good inf64; unfold one64 at h2; omega) h2 n k 0 h 0, Nat.zero_add]
end Go.Proofs.Ytaneknfhilfalaa
