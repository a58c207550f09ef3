/- Layer 9 (load): shards are apart. -/
import Derived.Test.YtjgdeijodjihlaaD9g
namespace Go.Proofs.Ytjgdeijodjihlaa
open Go.RowKit
open Ieee
set_option linter.unusedVariables false

theorem order_some {x y : Nat} (hx : x < 18446744073709551616) (hg : nn x) (hy : num y) : ∃ o, FloatKind.f64.format.order x y = some o := by
  obtain ⟨s, m, p, hr⟩ := hy
  unfold Format.order
  rw [show FloatKind.f64.format.read y = _ from hr]
  rcases read_cases x hx with ⟨t, n, q, hr2, _⟩ | ⟨t, hr2, _⟩ | ⟨t, f, hr2, h⟩
  · rw [show FloatKind.f64.format.read x = _ from hr2]; exact ⟨_, rfl⟩
  · rw [show FloatKind.f64.format.read x = _ from hr2]; cases t <;> exact ⟨_, rfl⟩
  · exfalso
    rcases hg with hg | hg
    · unfold good inf64 at hg; omega
    · omega
theorem num_most : num 4787326403894837248 := ⟨false, 2 ^ 52, -12, by kernel_rfl⟩
theorem gt_le {x : Nat} (hx : x < 18446744073709551616) (hg : gb x = true) : gtB x 4787326403894837248 = !leB x 4787326403894837248 := by
  obtain ⟨o, ho⟩ := order_some hx (gb_nn hx hg) num_most
  unfold gtB leB
  rw [ho]
  cases o <;> rfl
/-- is a hit of another shard none? -/
def skipB (n : Int) (o : Sc) : Bool := decide (o.shard < 0) || decide (n ≤ o.shard) || !gb o.wt.toNat || gtB o.wt.toNat 4787326403894837248
theorem skip_iff (n : Int) (o : Sc) : skipB n o = (decide (o.shard < 0) || decide (n ≤ o.shard) || !wtB o.wt.toNat) := by
  unfold skipB wtB
  cases hg : gb o.wt.toNat with
  | false => simp
  | true => rw [gt_le o.wt.isLt hg]; simp
def apP (sh n : Int) (m : Mt) (o : Sc) : Mt :=
  if o.kind = 1 ∧ o.shard ≠ sh then (if skipB n o = true then m else (onP m o.now).2) else (setP m o).2
def runA (sh n : Int) : Mt → List Sc → Mt
  | m, [] => m
  | m, o :: r => runA sh n (apP sh n m o) r
theorem runA_nil (sh n : Int) (m : Mt) : runA sh n m [] = m := rfl
theorem runA_cons (sh n : Int) (m : Mt) (o : Sc) (r : List Sc) : runA sh n m (o :: r) = runA sh n (apP sh n m o) r := rfl
structure Sim (sh : Int) (m n : Mt) : Prop where
  half : m.half = n.half
  now : m.now = n.now
  len : m.L.length = n.L.length
  el : ∀ k : Nat, sh = k → m.L.getD k 0 = n.L.getD k 0
theorem getD_map {f : Nat → Nat} (l : List Nat) (k : Nat) : (l.map f).getD k 0 = if k < l.length then f (l.getD k 0) else 0 := by
  rw [List.getD_eq_getElem?_getD, List.getElem?_map]
  split
  · next h => rw [List.getD_eq_getElem?_getD, List.getElem?_eq_getElem h]; rfl
  · next h => rw [List.getElem?_eq_none (by omega)]; rfl
theorem getD_set' (l : List Nat) (i k x : Nat) : (l.set i x).getD k 0 = if i = k ∧ k < l.length then x else l.getD k 0 := by
  rw [List.getD_eq_getElem?_getD, List.getElem?_set]
  split
  · next h =>
    subst h
    split
    · next h2 => rw [if_pos ⟨rfl, h2⟩]; rfl
    · next h2 => rw [if_neg (fun c => h2 c.2), List.getD_eq_getElem?_getD, List.getElem?_eq_none (by omega)]
  · next h => rw [if_neg (fun c => h c.1), List.getD_eq_getElem?_getD]
theorem Sim.on {sh : Int} {m n : Mt} (h : Sim sh m n) (t : Int) : (onP m t).1 = (onP n t).1 ∧ Sim sh (onP m t).2 (onP n t).2 := by
  unfold onP
  rw [h.now]
  split
  · exact ⟨rfl, h⟩
  · split
    · exact ⟨rfl, h⟩
    · refine ⟨rfl, h.half, rfl, ?_, fun k hk => ?_⟩
      · unfold onM; simp [h.len]
      · unfold onM ages
        simp only
        rw [getD_map, getD_map, h.len, h.el k hk, h.half, h.now]
theorem Sim.hit {sh : Int} {m n : Mt} (h : Sim sh m n) (t : Int) (x : Nat) : (hitP m sh t x).1 = (hitP n sh t x).1 ∧ Sim sh (hitP m sh t x).2 (hitP n sh t x).2 := by
  obtain ⟨h1, h2⟩ := h.on t
  unfold hitP
  rw [h.len, h1]
  split
  · exact ⟨rfl, h⟩
  · split
    · refine ⟨rfl, h2.half, h2.now, ?_, fun k hk => ?_⟩
      · unfold addM; simpa using h2.len
      · unfold addM
        simp only
        have e : sh.toNat = k := by omega
        rw [getD_set', getD_set', e, h2.len, h2.el k hk]
    · exact ⟨rfl, h⟩
theorem Sim.other {sh : Int} {m n : Mt} (h : Sim sh m n) (s t : Int) (x : Nat) (hs : s ≠ sh) : Sim sh (hitP m s t x).2 (if (decide (s < 0) || decide ((n.L.length : Int) ≤ s) || !wtB x) = true then n else (onP n t).2) := by
  obtain ⟨h1, h2⟩ := h.on t
  unfold hitP
  rw [h.len]
  by_cases c : s < 0 ∨ (n.L.length : Int) ≤ s ∨ wtB x = false
  · have c2 : (decide (s < 0) || decide ((n.L.length : Int) ≤ s) || !wtB x) = true := by rcases c with c | c | c <;> simp [c]
    rw [c2, if_pos c, if_pos rfl]
    exact h
  · have c2 : (decide (s < 0) || decide ((n.L.length : Int) ≤ s) || !wtB x) = false := by
      simp only [not_or] at c
      have c3 : wtB x = true := by simpa using c.2.2
      rw [decide_eq_false c.1, decide_eq_false c.2.1, c3]; rfl
    rw [c2, if_neg c, if_neg Bool.false_ne_true]
    by_cases h0 : (onP m t).1 = 0
    · rw [if_pos h0]
      refine ⟨h2.half, h2.now, ?_, fun k hk => ?_⟩
      · unfold addM; simpa using h2.len
      · unfold addM
        simp only
        rw [getD_set', if_neg (by
          simp only [not_or] at c
          intro e; omega)]
        exact h2.el k hk
    · rw [if_neg h0]
      rw [onP_bad (h1 ▸ h0)]
      exact h
theorem Sim.set {sh : Int} {m n : Mt} (h : Sim sh m n) (o : Sc) : Sim sh (setP m o).2 (apP sh n.L.length n o) := by
  unfold apP
  by_cases c : o.kind = 1 ∧ o.shard ≠ sh
  · rw [if_pos c, skip_iff]
    unfold setP
    rw [if_pos c.1]
    exact h.other _ _ _ c.2
  · rw [if_neg c]
    unfold setP
    by_cases k1 : o.kind = 1
    · have e : o.shard = sh := by
        by_cases e : o.shard = sh
        · exact e
        · exact absurd ⟨k1, e⟩ c
      rw [if_pos k1, if_pos k1, e]
      exact (h.hit _ _).2
    · rw [if_neg k1, if_neg k1]
      split
      · exact (h.on _).2
      · exact h
theorem setP_len (m : Mt) (o : Sc) : (setP m o).2.L.length = m.L.length := by
  unfold setP
  split
  · unfold hitP
    split
    · rfl
    · split
      · unfold addM; simp [onP_len]
      · rfl
  · split
    · exact onP_len _ _
    · rfl
theorem apP_len (sh n : Int) (m : Mt) (o : Sc) : (apP sh n m o).L.length = m.L.length := by
  unfold apP
  split
  · split
    · rfl
    · exact onP_len _ _
  · exact setP_len _ _
theorem Sim.run {sh : Int} : ∀ (l : List Sc) (m n : Mt) (c : Int), Sim sh m n → Sim sh (runM m c l).1 (runA sh n.L.length n l)
  | [], m, n, c, h => h
  | o :: r, m, n, c, h => by
    rw [runM_cons, runA_cons]
    have := Sim.run r _ _ (if (setP m o).1 = true then o.now else c) (h.set o)
    rw [apP_len] at this
    exact this
theorem Sim.of {sh : Int} {m n : Mt} (h : Sim sh m n) : ofP m sh = ofP n sh := by
  unfold ofP
  rw [h.len]
  split
  · next c => exact h.el _ (by omega)
  · rfl
theorem apart_of (sh : Int) (n h : Nat) (l : List Sc) : ofP (runM (newM n h) 0 l).1 sh = ofP (runA sh n (newM n h) l) sh := by
  have e : (newM n h).L.length = n := by unfold newM; simp
  have := Sim.run l (newM n h) (newM n h) 0 (show Sim sh (newM n h) (newM n h) from ⟨rfl, rfl, rfl, fun _ _ => rfl⟩)
  rw [e] at this
  exact this.of
end Go.Proofs.Ytjgdeijodjihlaa
