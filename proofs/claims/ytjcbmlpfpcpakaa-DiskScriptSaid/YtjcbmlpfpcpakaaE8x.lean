/- Layer 8 (disk): DiskScript: pairs of disks, made and stepped. -/
import Derived.Test.YtjcbmlpfpcpakaaE8w
import Derived.Test.YtjcbmlpfpcpakaaD8s
import Derived.Test.YtjcbmlpfpcpakaaD8o
namespace Go.Proofs.Ytjcbmlpfpcpakaa
open Go.RowKit
set_option linter.unusedVariables false
/-- a pair of disks, or of nil ones; K: its blocks -/
def Pr (w0 w : World) (qa qm : Option Addr) (K : Nat → Prop) (j : Nat) : Prop :=
  Ext w0 w ∧ ((qa = none ∧ qm = none ∧ ∀ k, ¬ K k) ∨ ∃ g sb rv m rsb rsc pv E left d, qa = some ⟨g, 0, none⟩ ∧ qm = some ⟨m, 0, none⟩ ∧ PQ w0 w g sb rv m rsb rsc pv E left d ∧ d.R.length ≤ j ∧ ∀ k, K k ↔ kk g sb rv m rsb pv E k)
theorem Pr.ext {w0 w w' : World} {qa qm : Option Addr} {K : Nat → Prop} {j : Nat} (h : Pr w0 w qa qm K j) (e : Ext w w') : Pr w0 w' qa qm K j := by
  refine ⟨h.1.trans e, ?_⟩
  rcases h.2 with h | ⟨g, sb, rv, m, rsb, rsc, pv, E, left, d, h1, h2, h3, h4, h5⟩
  · exact Or.inl h
  · exact Or.inr ⟨g, sb, rv, m, rsb, rsc, pv, E, left, d, h1, h2, h3.ext e, h4, h5⟩
theorem Pr.up {w0 w : World} {qa qm : Option Addr} {K : Nat → Prop} {j : Nat} (h : Pr w0 w qa qm K j) : Pr w0 w qa qm K (j + 1) := by
  refine ⟨h.1, ?_⟩
  rcases h.2 with h | ⟨g, sb, rv, m, rsb, rsc, pv, E, left, d, h1, h2, h3, h4, h5⟩
  · exact Or.inl h
  · exact Or.inr ⟨g, sb, rv, m, rsb, rsc, pv, E, left, d, h1, h2, h3, Nat.le_succ_of_le h4, h5⟩
theorem Pr.lt {w0 w : World} {qa qm : Option Addr} {K : Nat → Prop} {j : Nat} (h : Pr w0 w qa qm K j) : ∀ k, K k → k < w.heap.size ∧ w0.heap.size ≤ k := fun k hk => by
  rcases h.2 with ⟨_, _, h⟩ | ⟨g, sb, rv, m, rsb, rsc, pv, E, left, d, h1, h2, h3, h4, h5⟩
  · exact absurd hk (h k)
  · exact ⟨h3.lt k ((h5 k).1 hk), h3.lo k ((h5 k).1 hk)⟩
theorem Pr.only {w0 w w' : World} {qa qm : Option Addr} {K p : Nat → Prop} {j : Nat} (h : Pr w0 w qa qm K j) (e : Only w w' p) (h1 : ∀ k, p k → w0.heap.size ≤ k) (h2 : ∀ k, K k → ¬ p k) : Pr w0 w' qa qm K j := by
  refine ⟨h.1.of_only e h1, ?_⟩
  rcases h.2 with h | ⟨g, sb, rv, m, rsb, rsc, pv, E, left, d, k1, k2, k3, k4, k5⟩
  · exact Or.inl h
  · exact Or.inr ⟨g, sb, rv, m, rsb, rsc, pv, E, left, d, k1, k2, k3.only e h1 (fun k hk => h2 k ((k5 k).2 hk)), k4, k5⟩
theorem Pr.step {w0 w : World} {qa qm : Option Addr} {K : Nat → Prop} {j : Nat} (h : Pr w0 w qa qm K j) (hjb : (j + 1) * 72 ≤ 140737488355328) (p : Dop) (ok : p.ok w0) (hkl : p.keep.length ≤ 140737488351232) :
    Calls Try.prog 42 #[.pointer qa, .pointer qm, .agg (opC p)] w fun e w' => e = .returned (.bool true) ∧ ∃ K', Pr w0 w' qa qm K' (j + 1) ∧ Only w w' K ∧ ∀ k, K' k → K k ∨ w.heap.size ≤ k := by
  rcases h.2 with ⟨rfl, rfl, hK⟩ | ⟨g, sb, rv, m, rsb, rsc, pv, E, left, d, rfl, rfl, k3, k4, k5⟩
  · exact (step_nil h.1 p ok hkl).mono fun e w' ⟨h1, h2⟩ => ⟨h1, K, ⟨h.1.trans h2, Or.inl ⟨rfl, rfl, hK⟩⟩, h2.only, fun k hk => Or.inl hk⟩
  · refine (step_any k3 k4 hjb p ok hkl).mono fun e w' ⟨h1, sb', rv', rsb', rsc', pv', E', left', d', q1, q2, q3, q4⟩ => ⟨h1, kk g sb' rv' m rsb' pv' E', ⟨q1.x, Or.inr ⟨g, sb', rv', m, rsb', rsc', pv', E', left', d', rfl, rfl, q1, q2, fun k => Iff.rfl⟩⟩, q3.mono (fun k hk => (k5 k).2 hk), fun k hk => ?_⟩
    rcases q4 k hk with h | h
    · exact Or.inl ((k5 k).2 h)
    · exact Or.inr h
/-- making, by the program and by the document -/
theorem new_any (n : Int) (w : World) : Calls Try.prog 24 #[ci n] w fun e w' => ∃ qa r, e = .returned (.tuple #[.pointer qa, ci r]) ∧ Ext w w' ∧
    (((n < 1 ∨ 65536 < n) ∧ qa = none ∧ r = 2) ∨ ∃ k : Nat, n = k ∧ 1 ≤ k ∧ k ≤ 65536 ∧ qa = some ⟨w.heap.size + 1, 0, none⟩ ∧ r = 0 ∧ DB w' w.heap.size (w.heap.size + 1) w.heap.size (.slice none 0 0) (newD k)) := by
  by_cases hb : n < 1 ∨ 65536 < n
  · refine (new_refused n w hb).mono ?_
    rintro e w' ⟨h1, rfl⟩
    exact ⟨none, 2, h1, Ext.refl _, Or.inl ⟨hb, rfl, rfl⟩⟩
  · obtain ⟨k, rfl⟩ : ∃ k : Nat, n = k := ⟨n.toNat, by omega⟩
    exact (new_ok k w (by omega) (by omega)).mono fun e w' ⟨h1, h2, h3⟩ => ⟨_, 0, h1, h2, Or.inr ⟨k, rfl, by omega, by omega, rfl, rfl, h3⟩⟩
theorem rnew_any (n : Int) (w : World) : Calls Try.prog 39 #[ci n] w fun e w' => ∃ qa r, e = .returned (.tuple #[.pointer qa, ci r]) ∧ Ext w w' ∧
    (((n < 1 ∨ 65536 < n) ∧ qa = none ∧ r = 2) ∨ ∃ k : Nat, n = k ∧ 1 ≤ k ∧ k ≤ 65536 ∧ qa = some ⟨w.heap.size + 1, 0, none⟩ ∧ r = 0 ∧ RB w' w.heap.size (w.heap.size + 1) w.heap.size (64 * k) (.slice none 0 0) [] k (List.replicate (64 * k) 0#8) (-1) 0 0) := by
  by_cases hb : n < 1 ∨ 65536 < n
  · refine (rnew_bad n w hb).mono ?_
    rintro e w' ⟨h1, rfl⟩
    exact ⟨none, 2, h1, Ext.refl _, Or.inl ⟨hb, rfl, rfl⟩⟩
  · obtain ⟨k, rfl⟩ : ∃ k : Nat, n = k := ⟨n.toNat, by omega⟩
    exact (rnew_ok k w (by omega) (by omega)).mono fun e w' ⟨h1, h2, h3⟩ => ⟨_, 0, h1, h2, Or.inr ⟨k, rfl, by omega, by omega, rfl, rfl, h3⟩⟩
def badI (img : List (BitVec 8)) : Prop := img.length / 64 < 1 ∨ 65536 < img.length / 64 ∨ img.length ≠ img.length / 64 * 64
theorem load_any (b N : Nat) (img : List (BitVec 8)) (hN : img.length = N) (w : World) (hl : LentAt w b img) (hm : N ≤ 140737488351232) : Calls Try.prog 36 #[.slice (some ⟨b, 0, none⟩) N (N + 3)] w fun e w' => ∃ qa r, e = .returned (.tuple #[.pointer qa, ci r]) ∧ Ext w w' ∧
    ((badI img ∧ qa = none ∧ r = 82) ∨ ∃ k : Nat, img.length = 64 * k ∧ 1 ≤ k ∧ k ≤ 65536 ∧ qa = some ⟨w.heap.size + 1, 0, none⟩ ∧ r = 0 ∧ DB w' w.heap.size (w.heap.size + 1) w.heap.size (.slice none 0 0) ⟨k, img, [], false, 0, 0, 0⟩) := by
  subst hN
  by_cases hb : badI img
  · refine (load_refused _ _ _ w (by unfold maxLen; omega) hb).mono ?_
    rintro e w' ⟨h1, rfl⟩
    exact ⟨none, 82, h1, Ext.refl _, Or.inl ⟨hb, rfl, rfl⟩⟩
  · unfold badI at hb
    obtain ⟨k, hk⟩ : ∃ k : Nat, img.length = 64 * k := ⟨img.length / 64, by omega⟩
    obtain ⟨b', o', c', e, hr⟩ := hl.rd.range (by omega)
    unfold lentV at e
    injection e with e _ _
    injection e with e
    injection e with e1 e2 _
    subst e1 e2
    rw [hk]
    exact (load_ok b 0 (64 * k + 3) img k (by omega) (by omega) hk hr (by omega)).mono fun e w' ⟨h1, h2, h3⟩ => ⟨_, 0, h1, h2, Or.inr ⟨k, rfl, by omega, by omega, rfl, rfl, h3⟩⟩
theorem rload_any (ia : Option Addr) (ic N : Nat) (img : List (BitVec 8)) (hN : img.length = N) (w : World) (hl : Rd w cb (.slice ia N ic) img) (hm : N ≤ 140737488351232) : Calls Try.prog 40 #[.slice ia N ic] w fun e w' => ∃ qa r, e = .returned (.tuple #[.pointer qa, ci r]) ∧ Ext w w' ∧
    ((badI img ∧ qa = none ∧ r = 82) ∨ ∃ k g sb sc : Nat, img.length = 64 * k ∧ 1 ≤ k ∧ k ≤ 65536 ∧ qa = some ⟨g, 0, none⟩ ∧ r = 0 ∧ w.heap.size ≤ g ∧ w.heap.size ≤ sb ∧ RB w' w.heap.size g sb sc (.slice none 0 0) [] k img (-1) 0 0) := by
  subst hN
  by_cases hb : badI img
  · refine (rload_bad _ _ _ w (by unfold maxLen; omega) hb).mono ?_
    rintro e w' ⟨h1, rfl⟩
    exact ⟨none, 82, h1, Ext.refl _, Or.inl ⟨hb, rfl, rfl⟩⟩
  · unfold badI at hb
    obtain ⟨k, hk⟩ : ∃ k : Nat, img.length = 64 * k := ⟨img.length / 64, by omega⟩
    exact (rload_ok _ img k (by omega) (by omega) hk hl).mono fun e w' ⟨g, sb, sc, h1, h2, h3, h4, h5⟩ => ⟨_, 0, h1, h2, Or.inr ⟨k, g, sb, sc, hk, by omega, by omega, rfl, rfl, h3, h4, h5⟩⟩
theorem pr_made {w0 w : World} {B B' g sb m rsb rsc n : Nat} {S : List (BitVec 8)} (e : Ext w0 w) (h : DB w B g sb (.slice none 0 0) ⟨n, S, [], false, 0, 0, 0⟩) (r : RB w B' m rsb rsc (.slice none 0 0) [] n S (-1) 0 0) (hb : w0.heap.size ≤ g ∧ w0.heap.size ≤ sb ∧ w0.heap.size ≤ m ∧ w0.heap.size ≤ rsb) :
    Pr w0 w (some ⟨g, 0, none⟩) (some ⟨m, 0, none⟩) (kk g sb (.slice none 0 0) m rsb (.slice none 0 0) []) 0 :=
  ⟨e, Or.inr ⟨g, sb, _, m, rsb, rsc, _, [], -1, _, rfl, rfl, ⟨e, ⟨h.b, h.s, ⟨by simp [pcs], Or.inl ⟨rfl, rfl⟩⟩, h.ok⟩, ⟨r.b, r.s, r.sl, r.n1, r.n2, ⟨rfl, Or.inl ⟨rfl, rfl⟩⟩, fun x hx => by cases hx⟩, rfl, rfl, (fun h => by cases h), hb⟩, Nat.le_refl _, fun k => Iff.rfl⟩⟩
theorem pr_none {w0 w : World} (e : Ext w0 w) : Pr w0 w none none (fun _ => False) 0 := ⟨e, Or.inl ⟨rfl, rfl, fun k h => h⟩⟩
/-- two pairs, apart, and the lists that hold them -/
structure Two (w0 w : World) (qa qb qx qy : Option Addr) (K0 K1 : Nat → Prop) (ad am j : Nat) : Prop where
  p0 : Pr w0 w qa qx K0 j
  p1 : Pr w0 w qb qy K1 j
  d : ∀ k, K0 k → ¬ K1 k
  a : Blk w ad #[.pointer qa, .pointer qb, .pointer none] 28
  m : Blk w am #[.pointer qx, .pointer qy, .pointer none] 53
  n : ∀ k, (K0 k ∨ K1 k) → k ≠ ad ∧ k ≠ am
theorem Two.ext {w0 w w' : World} {qa qb qx qy : Option Addr} {K0 K1 : Nat → Prop} {ad am j : Nat} (h : Two w0 w qa qb qx qy K0 K1 ad am j) (e : Ext w w') : Two w0 w' qa qb qx qy K0 K1 ad am j := ⟨h.p0.ext e, h.p1.ext e, h.d, h.a.ext e, h.m.ext e, h.n⟩
theorem Two.up {w0 w : World} {qa qb qx qy : Option Addr} {K0 K1 : Nat → Prop} {ad am j : Nat} (h : Two w0 w qa qb qx qy K0 K1 ad am j) : Two w0 w qa qb qx qy K0 K1 ad am (j + 1) := ⟨h.p0.up, h.p1.up, h.d, h.a, h.m, h.n⟩
def pick3 (i : Nat) (a b : Option Addr) : Option Addr := if i = 0 then a else if i = 1 then b else none
theorem Two.cells {w0 w : World} {qa qb qx qy : Option Addr} {K0 K1 : Nat → Prop} {ad am j : Nat} (h : Two w0 w qa qb qx qy K0 K1 ad am j) (i : Nat) (hi : i < 3) : w.cell? ⟨ad, i, none⟩ = some (.pointer (pick3 i qa qb)) ∧ w.cell? ⟨am, i, none⟩ = some (.pointer (pick3 i qx qy)) := by
  rw [h.a.cell, h.m.cell]
  match i, hi with
  | 0, _ => exact ⟨rfl, rfl⟩
  | 1, _ => exact ⟨rfl, rfl⟩
  | 2, _ => exact ⟨rfl, rfl⟩
theorem Two.step {w0 w : World} {qa qb qx qy : Option Addr} {K0 K1 : Nat → Prop} {ad am j : Nat} (h : Two w0 w qa qb qx qy K0 K1 ad am j) (hjb : (j + 1) * 72 ≤ 140737488355328) (p : Dop) (ok : p.ok w0) (hkl : p.keep.length ≤ 140737488351232) (i : Nat) (hi : i < 3) :
    Calls Try.prog 42 #[.pointer (pick3 i qa qb), .pointer (pick3 i qx qy), .agg (opC p)] w fun e w' => e = .returned (.bool true) ∧ (∃ K0' K1', Two w0 w' qa qb qx qy K0' K1' ad am (j + 1)) ∧ ∀ b c t, Blk w b c t → (¬ K0 b ∧ ¬ K1 b) → Blk w' b c t := by
  have h01 : pick3 0 qa qb = qa ∧ pick3 0 qx qy = qx ∧ pick3 1 qa qb = qb ∧ pick3 1 qx qy = qy ∧ pick3 2 qa qb = none ∧ pick3 2 qx qy = none := ⟨rfl, rfl, rfl, rfl, rfl, rfl⟩
  match i, hi with
  | 0, _ =>
    rw [h01.1, h01.2.1]
    refine (h.p0.step hjb p ok hkl).mono fun e w' ⟨h1, K', q1, q2, q3⟩ => ⟨h1, ⟨K', K1, q1, (h.p1.only q2 (fun k hk => (h.p0.lt k hk).2) (fun k hk hk' => h.d k hk' hk)).up, fun k hk hk' => ?_, q2.blk h.a (fun hk => (h.n _ (Or.inl hk)).1 rfl), q2.blk h.m (fun hk => (h.n _ (Or.inl hk)).2 rfl), fun k hk => ?_⟩, fun b c t hb hn => q2.blk hb hn.1⟩
    · rcases q3 k hk with h3 | h3
      · exact h.d k h3 hk'
      · have := (h.p1.lt k hk').1; omega
    · rcases hk with hk | hk
      · rcases q3 k hk with h3 | h3
        · exact h.n k (Or.inl h3)
        · have := h.a.lt; have := h.m.lt; exact ⟨by omega, by omega⟩
      · exact h.n k (Or.inr hk)
  | 1, _ =>
    rw [h01.2.2.1, h01.2.2.2.1]
    refine (h.p1.step hjb p ok hkl).mono fun e w' ⟨h1, K', q1, q2, q3⟩ => ⟨h1, ⟨K0, K', (h.p0.only q2 (fun k hk => (h.p1.lt k hk).2) (fun k hk hk' => h.d k hk hk')).up, q1, fun k hk hk' => ?_, q2.blk h.a (fun hk => (h.n _ (Or.inr hk)).1 rfl), q2.blk h.m (fun hk => (h.n _ (Or.inr hk)).2 rfl), fun k hk => ?_⟩, fun b c t hb hn => q2.blk hb hn.2⟩
    · rcases q3 k hk' with h3 | h3
      · exact h.d k hk h3
      · have := (h.p0.lt k hk).1; omega
    · rcases hk with hk | hk
      · exact h.n k (Or.inl hk)
      · rcases q3 k hk with h3 | h3
        · exact h.n k (Or.inr h3)
        · have := h.a.lt; have := h.m.lt; exact ⟨by omega, by omega⟩
  | 2, _ =>
    rw [h01.2.2.2.2.1, h01.2.2.2.2.2]
    exact (step_nil h.p0.1 p ok hkl).mono fun e w' ⟨h1, h2⟩ => ⟨h1, ⟨K0, K1, (h.ext h2).up⟩, fun b c t hb _ => hb.ext h2⟩
end Go.Proofs.Ytjcbmlpfpcpakaa
