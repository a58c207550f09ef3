/- Layer 9 (load): loads and windows behind a script are bounded; rhythms are equal to themselves. -/
import Derived.Test.YtjgdeijodjihlaaD9x
namespace Go.Proofs.Ytjgdeijodjihlaa
open Go.RowKit
open Ieee
set_option linter.unusedVariables false

theorem vle_add {a b x y : Nat} (hx : vle a x) (hy : ∃ t n j, D64.read y = .number t n j ∧ (t = true → n = 0) ∧ lq n j b 40) (h0 : 0 < a + b) (h53 : a + b < 9007199254740992) : vle (a + b) (fadd x y) := by
  obtain ⟨h1, m, i, h2, h3⟩ := hx
  obtain ⟨t, n, j, g1, g2, g3⟩ := hy
  have hs : floatBits .add .f64 x y = some (D64.write (.number false (signed false m (i - min i j).toNat + signed t n (j - min i j).toNat).natAbs (min i j))) := by
    show D64.add x y = _
    unfold Format.add
    rw [h2, g1]
    have hneg : (if signed false m (i - min i j).toNat + signed t n (j - min i j).toNat = 0 then false && t else decide (signed false m (i - min i j).toNat + signed t n (j - min i j).toNat < 0)) = false := by
      split
      · rfl
      · refine decide_eq_false ?_
        have a1 : 0 ≤ signed false m (i - min i j).toNat := by rw [signed_false]; exact Int.natCast_nonneg _
        have a2 : 0 ≤ signed t n (j - min i j).toNat := by
          cases t with
          | false => rw [signed_false]; exact Int.natCast_nonneg _
          | true => rw [g2 rfl]; unfold signed; simp
        omega
    simp only [Datum.sum, hneg]
    rfl
  unfold fadd
  rw [hs]
  exact vle_write h0 h53 (vle_sum g2 h3 g3)
theorem read_most : D64.read 4787326403894837248 = .number false (2 ^ 52) (-12) := by kernel_rfl
theorem wt_small {y : Nat} (hy : y < 18446744073709551616) (h : wtB y = true) : ∃ t n j, D64.read y = .number t n j ∧ (t = true → n = 0) ∧ lq n j 1 40 := by
  unfold wtB at h
  rw [Bool.and_eq_true] at h
  obtain ⟨hg, hl⟩ := h
  have hn := gb_nn hy hg
  unfold leB Format.order at hl
  rw [show FloatKind.f64.format.read 4787326403894837248 = _ from read_most] at hl
  rcases read_cases y hy with ⟨t, n, j, hr, h0, h1, h2, h3, h4⟩ | ⟨t, hr, h0, _⟩ | ⟨t, f, hr, h0⟩
  · rw [show FloatKind.f64.format.read y = _ from hr] at hl
    have ht : t = true → n = 0 := fun ht => by
      rcases hn with hn | hn
      · have := h0 (by unfold good inf64 at hn; omega)
        rw [this] at ht; cases ht
      · exact h3 (by omega)
    refine ⟨t, n, j, hr, ht, ?_⟩
    cases t with
    | true => rw [ht rfl]; unfold lq; simp
    | false =>
      simp only [Datum.order, signed_false] at hl
      have hc : ((n <<< (j - min j (-12)).toNat : Nat) : Int) ≤ ((2 ^ 52 <<< (-12 - min j (-12)).toNat : Nat) : Int) := by
        rcases Int.lt_trichotomy ((n <<< (j - min j (-12)).toNat : Nat) : Int) ((2 ^ 52 <<< (-12 - min j (-12)).toNat : Nat) : Int) with h | h | h
        · omega
        · omega
        · rw [cmp_gt h] at hl
          simp at hl
      have hc2 : n <<< (j - min j (-12)).toNat ≤ 2 ^ 52 <<< (-12 - min j (-12)).toNat := by exact_mod_cast hc
      rw [Nat.shiftLeft_eq, Nat.shiftLeft_eq] at hc2
      have h12 : lq n j (2 ^ 52) (-12) := hc2
      refine lq_trans h12 (lq_of (b := -12) (by omega) (by omega) ?_)
      rw [show ((-12 : Int) - -12).toNat = 0 from rfl, show ((40 : Int) - -12).toNat = 52 from rfl]
      simp
  · rcases hn with hn | hn
    · rw [show FloatKind.f64.format.read y = _ from hr] at hl
      have := h0 (by unfold good inf64 at hn; omega)
      subst this
      simp [Datum.order] at hl
    · subst hn
      have : D64.read 9223372036854775808 = .number true 0 (-1074) := by kernel_rfl
      rw [this] at hr
      cases hr
  · exfalso
    rcases hn with hn | hn
    · unfold good inf64 at hn; omega
    · omega
theorem mul_num {x y m n : Nat} {p q : Int} (hr : D64.read x = .number false m p) (hr2 : D64.read y = .number false n q) : floatBits .mul .f64 x y = some (D64.write (.number false (m * n) (p + q))) := by
  show D64.mul x y = _
  unfold Format.mul
  rw [hr, hr2]
  have hp : Datum.product (.number false m p) (.number false n q) = some (.number false (m * n) (p + q)) := rfl
  rw [hp, Option.map_some]
theorem lq_half (m n : Nat) (p q : Int) (hn : n = 4503599627370496) (hq : q = -53) : lq (m * n) (p + q) m p := by
  subst hn hq
  refine lq_of (b := p + -53) (by omega) (by omega) ?_
  rw [Int.sub_self, show (p - (p + -53)).toNat = 53 by omega, Int.toNat_zero, Nat.pow_zero, Nat.mul_one]
  exact Nat.mul_le_mul_left _ (by decide)
theorem vle_of {a z m : Nat} {p : Int} {o : Option Nat} (h0 : 0 < a) (h53 : a < 9007199254740992) (hs : o = some (D64.write (.number false m p))) (h : lq m p a 40) : vle a (o.getD 0) := by
  rw [hs]
  exact vle_write h0 h53 h
theorem vle_half {a x : Nat} (hx : vle a x) (h0 : 0 < a) (h53 : a < 9007199254740992) : vle a (fhalf x) := by
  obtain ⟨h1, m, p, h2, h3⟩ := hx
  obtain ⟨n, hn⟩ : ∃ n, n = 2 ^ 52 := ⟨_, rfl⟩
  obtain ⟨q, hq⟩ : ∃ q : Int, q = -53 := ⟨_, rfl⟩
  have hh := read_half
  rw [← hn, ← hq] at hh
  unfold fhalf
  exact vle_of (z := 0) h0 h53 (mul_num h2 hh) (lq_trans (lq_half m n p q (by rw [hn]) hq) h3)
theorem vle_halves {a x : Nat} (hx : vle a x) (h0 : 0 < a) (h53 : a < 9007199254740992) : ∀ n, vle a (halves n x)
  | 0 => hx
  | n + 1 => vle_half (vle_halves hx h0 h53 n) h0 h53
/-- all loads and windows are bounded -/
structure Bnd (K : Nat) (m : Mt) : Prop where
  l : ∀ x ∈ m.L, vle K x
  w : ∀ x ∈ m.win, vle K x
theorem Bnd.mono {K J : Nat} {m : Mt} (h : Bnd K m) (hj : K ≤ J) : Bnd J m := ⟨fun x hx => vle_mono (h.l x hx) hj, fun x hx => vle_mono (h.w x hx) hj⟩
theorem Bnd.onM {K : Nat} {m : Mt} (h : Bnd K m) (h0 : 0 < K) (h53 : K < 9007199254740992) (t : Nat) : Bnd K (onM m t) := by
  refine ⟨fun x hx => ?_, fun x hx => ?_⟩
  · unfold Go.Proofs.Ytjgdeijodjihlaa.onM at hx
    obtain ⟨y, hy, rfl⟩ := List.mem_map.1 hx
    exact vle_halves (h.l y hy) h0 h53 _
  · unfold Go.Proofs.Ytjgdeijodjihlaa.onM shiftW at hx
    rcases List.mem_append.1 hx with h1 | h1
    · exact h.w x (List.mem_of_mem_drop h1)
    · rw [(List.mem_replicate.1 h1).2]; exact vle_zero _
theorem Bnd.onP {K : Nat} {m : Mt} (h : Bnd K m) (h0 : 0 < K) (h53 : K < 9007199254740992) (t : Int) : Bnd K (onP m t).2 := by
  unfold Go.Proofs.Ytjgdeijodjihlaa.onP
  split
  · exact h
  · split
    · exact h
    · exact h.onM h0 h53 _
theorem getD_vle {K : Nat} {l : List Nat} (h : ∀ x ∈ l, vle K x) (i : Nat) : vle K (l.getD i 0) := by
  rw [List.getD_eq_getElem?_getD]
  rcases Nat.lt_or_ge i l.length with h1 | h1
  · rw [List.getElem?_eq_getElem h1]; exact h _ (List.getElem_mem _)
  · rw [List.getElem?_eq_none h1]; exact vle_zero _
theorem Bnd.set {K : Nat} {m : Mt} (h : Bnd K m) (h0 : 0 < K) (h53 : K + 1 < 9007199254740992) (o : Sc) : Bnd (K + 1) (setP m o).2 := by
  unfold setP
  split
  · unfold hitP
    split
    · exact h.mono (by omega)
    · next hc =>
      split
      · have hw : wtB o.wt.toNat = true := by
          cases hh : wtB o.wt.toNat with
          | true => rfl
          | false => exact absurd (Or.inr (Or.inr hh)) hc
        have hs := wt_small o.wt.isLt hw
        have hb := h.onP h0 (by omega) o.now
        refine ⟨fun x hx => ?_, fun x hx => ?_⟩
        · unfold addM at hx
          rcases List.mem_or_eq_of_mem_set hx with h1 | h1
          · exact vle_mono (hb.l x h1) (by omega)
          · rw [h1]; exact vle_add (getD_vle hb.l _) hs (by omega) h53
        · unfold addM at hx
          rcases List.mem_or_eq_of_mem_set hx with h1 | h1
          · exact vle_mono (hb.w x h1) (by omega)
          · rw [h1]; exact vle_add (getD_vle hb.w _) hs (by omega) h53
      · exact h.mono (by omega)
  · split
    · exact (h.onP h0 (by omega) _).mono (by omega)
    · exact h.mono (by omega)
theorem Bnd.run : ∀ (l : List Sc) (K : Nat) (m : Mt) (c : Int), Bnd K m → 0 < K → K + l.length < 9007199254740992 → Bnd (K + l.length) (runM m c l).1
  | [], K, m, c, h, _, _ => h
  | o :: r, K, m, c, h, h0, h53 => by
    rw [runM_cons]
    simp only [List.length_cons] at h53 ⊢
    have := Bnd.run r (K + 1) _ (if (setP m o).1 = true then o.now else c) (h.set h0 (by omega) o) (by omega) (by omega)
    rw [show K + 1 + r.length = K + (r.length + 1) by omega] at this
    exact this
theorem Bnd.new (n h : Nat) : Bnd 1 (newM n h) := by
  refine ⟨fun x hx => ?_, fun x hx => ?_⟩
  · unfold newM at hx; rw [(List.mem_replicate.1 hx).2]; exact vle_zero _
  · unfold newM at hx; rw [(List.mem_replicate.1 hx).2]; exact vle_zero _
theorem run_bnd (n h : Nat) (l : List Sc) (hl : l.length * 40 ≤ 140737488351232) : Bnd 8796093022207 (runM (newM n h) 0 l).1 :=
  (Bnd.run l 1 (newM n h) 0 (Bnd.new n h) (by omega) (by omega)).mono (by omega)
theorem Bnd.win {K : Nat} {m : Mt} (h : Bnd K m) (hK : K ≤ 8796093022208) : ∀ v ∈ m.win, bd 83 v := fun v hv => vle_bd (h.w v hv) hK
theorem Bnd.row {K : Nat} {m : Mt} (h : Bnd K m) (hK : K ≤ 8796093022208) : ∀ v ∈ m.L, bd 83 v := fun v hv => vle_bd (h.l v hv) hK
/- rhythms held against one another -/
theorem run_part_cx {P : Program} {e : TypeId} {k : FloatKind} (he : P.underlying e = some (.complex k)) {xs : Array Value} {off : Nat} {v : Value} {w : World} (hx : xs[off]? = some v) : (part e xs off).run P w = .ok v w := by
  simp [part, isAgg, run_underlying he, hx]
theorem run_equalIn_cx {P : Program} (w : World) (d : Nat) (t : TypeId) (k k' : FloatKind) (a b c e : Nat) (h : P.underlying t = some (.complex k')) : (Op.equalIn (d + 1) t (.complex k a b) (.complex k c e)).run P w = .ok (Op.floatEq k a c && Op.floatEq k b e) w := by
  simp [Op.equalIn, run_underlying h]
theorem run_eqItems_cx {P : Program} (w : World) (d : Nat) {e : TypeId} (he : P.underlying e = some (.complex .f64)) (hc : P.cellsOf e = 1) (l : List (Nat × Nat)) (hl : ∀ p ∈ l, FloatKind.f64.format.order p.1 p.1 = some .eq ∧ FloatKind.f64.format.order p.2 p.2 = some .eq) :
    ∀ is : List Nat, (∀ i ∈ is, i < l.length) → (Op.eqItems (d + 1) e (P.cellsOf e) (V cx l) (V cx l) is).run P w = .ok true w
  | [], _ => by simp [Op.eqItems]
  | i :: is, h => by
    have hi := h i (by simp)
    have ih := run_eqItems_cx w d he hc l hl is (fun j hj => h j (by simp [hj]))
    have hx : (V cx l)[i]? = some (cx l[i]) := by rw [V_get, List.getElem?_eq_getElem hi]; rfl
    have h1 := run_part_cx (P := P) (w := w) he hx
    obtain ⟨p1, p2⟩ := hl l[i] (List.getElem_mem hi)
    rw [hc] at ih ⊢
    simp only [Op.eqItems, Nat.mul_one, Sem.run_bind, h1, Result.andThen_ok, run_equalIn_cx w d e .f64 .f64 _ _ _ _ he]
    unfold Op.floatEq
    rw [p1, p2]
    simpa using ih
theorem wave_eq (win : List Nat) (hw : ∀ v ∈ win, bd 83 v) (h8 : win.length = 8) (w : World) : (Op.equalIn 10000 48 (.agg (V cx (wave win))) (.agg (V cx (wave win)))).run Try.prog w = .ok true w := by
  have hl : (wave win).length = 8 := by unfold wave; simp
  obtain ⟨i, hi⟩ : ∃ i, Try.prog.info? 47 = some i := ⟨_, rfl⟩
  rw [run_equalIn_array w 9999 (n := 8) (e := 47) (i := i) _ _ (by kernel_rfl) hi]
  refine run_eqItems_cx w 9998 (by kernel_rfl) (by kernel_rfl) (wave win) (fun p hp => ?_) _ (fun j hj => by rw [hl]; simpa using hj)
  obtain ⟨b1, b2⟩ := wave_bd win hw h8 p hp
  exact ⟨bd_self b1 (by omega), bd_self b2 (by omega)⟩
end Go.Proofs.Ytjgdeijodjihlaa
