/- Layer 8 (disk): the program's disk and the document's, side by side. -/
import Derived.Test.YtjcbmlpfpcpakaaE8f
import Derived.Test.YtjcbmlpfpcpakaaD8v
namespace Go.Proofs.Ytjcbmlpfpcpakaa
open Go.RowKit
set_option linter.unusedVariables false
structure PQ (w0 w : World) (g sb : Nat) (rv : Value) (m rsb rsc : Nat) (pv : Value) (E : List We) (left : Int) (d : Dk) : Prop where
  x : Ext w0 w
  p : DB w w0.heap.size g sb rv d
  r : RB w w0.heap.size m rsb rsc pv E d.n d.S left d.c0 d.c1
  e : wR E = d.R
  l : left = if d.fused = true then d.left else -1
  f : d.fused = true → 0 ≤ d.left ∧ d.left ≤ 9223372036854775807
  b : w0.heap.size ≤ g ∧ w0.heap.size ≤ sb ∧ w0.heap.size ≤ m ∧ w0.heap.size ≤ rsb
/-- the blocks of both -/
def kk (g sb : Nat) (rv : Value) (m rsb : Nat) (pv : Value) (E : List We) (k : Nat) : Prop := mine g sb rv k ∨ mineR m rsb pv E k
theorem DB.types {w : World} {B g sb : Nat} {rv : Value} {d : Dk} (h : DB w B g sb rv d) : ∀ k, mine g sb rv k → ∃ c t, Blk w k c t ∧ (t = 130 ∨ t = 132 ∨ t = 134) := by
  rintro k (rfl | rfl | hk)
  · exact ⟨_, _, h.b, Or.inl rfl⟩
  · exact ⟨_, _, h.s, Or.inr (Or.inl rfl)⟩
  · obtain ⟨h1, ⟨rfl, h2⟩ | ⟨x, cap, cur, rfl, h3, h4, _⟩⟩ := h.r
    · cases hk
    · cases hk
      exact ⟨_, _, h4, Or.inr (Or.inr rfl)⟩
theorem DB.lt {w : World} {B g sb : Nat} {rv : Value} {d : Dk} (h : DB w B g sb rv d) : ∀ k, mine g sb rv k → k < w.heap.size := fun k hk => by
  obtain ⟨c, t, hb, _⟩ := h.types k hk
  exact hb.lt
theorem pq_apart {w : World} {B g sb : Nat} {rv : Value} {d : Dk} {m rsb rsc n : Nat} {pv : Value} {E : List We} {S : List (BitVec 8)} {left made synced : Int} (h : DB w B g sb rv d) (r : RB w B m rsb rsc pv E n S left made synced) :
    ∀ k, mine g sb rv k → ¬ mineR m rsb pv E k := fun k h1 h2 => by
  obtain ⟨c, t, hb, ht⟩ := h.types k h1
  obtain ⟨c', t', hb', ht'⟩ := r.types k h2
  have e := Blk.type hb hb'
  subst e
  rcases ht with rfl | rfl | rfl <;> rcases ht' with h | h | h <;> exact absurd h (by decide)
theorem RB.after {w w' : World} {B g sb : Nat} {rv : Value} {d : Dk} {m rsb rsc n : Nat} {pv : Value} {E : List We} {S : List (BitVec 8)} {left made synced : Int} (r : RB w B m rsb rsc pv E n S left made synced) (h : DB w B g sb rv d) (o : Only w w' (mine g sb rv)) : RB w' B m rsb rsc pv E n S left made synced :=
  r.only o fun k hk hm => pq_apart h r k hm hk
theorem DB.after {w w' : World} {B g sb : Nat} {rv : Value} {d : Dk} {m rsb rsc n : Nat} {pv : Value} {E : List We} {S : List (BitVec 8)} {left made synced : Int} {q : Nat → Prop} (h : DB w B g sb rv d) (r : RB w B m rsb rsc pv E n S left made synced) (o : Only w w' q) (hq : ∀ k, q k → mineR m rsb pv E k) : DB w' B g sb rv d :=
  h.only o fun k hk hm => pq_apart h r k hk (hq k hm)
theorem RB.lo {w : World} {B m rsb rsc n : Nat} {pv : Value} {E : List We} {S : List (BitVec 8)} {left made synced : Int} (r : RB w B m rsb rsc pv E n S left made synced) (h1 : B ≤ m) (h2 : B ≤ rsb) : ∀ k, mineR m rsb pv E k → B ≤ k := by
  rintro k (rfl | rfl | hk | ⟨x, hx, hk⟩)
  · exact h1
  · exact h2
  · exact (World.ownsRow.lt r.p k hk).1
  · obtain ⟨g', c, e1, e2, e3, e4⟩ := (r.e x hx).1.v
    rw [e1] at hk
    cases hk
    exact e3
section
variable {w0 w w' : World} {g sb m rsb rsc : Nat} {rv pv : Value} {E : List We} {left : Int} {d : Dk}
theorem PQ.lo (h : PQ w0 w g sb rv m rsb rsc pv E left d) : ∀ k, kk g sb rv m rsb pv E k → w0.heap.size ≤ k := by
  rintro k (hk | hk)
  · exact row_mine h.p rfl h.b.1 h.b.2.1 k hk
  · exact h.r.lo h.b.2.2.1 h.b.2.2.2 k hk
theorem PQ.lt (h : PQ w0 w g sb rv m rsb rsc pv E left d) : ∀ k, kk g sb rv m rsb pv E k → k < w.heap.size := by
  rintro k (hk | hk)
  · exact h.p.lt k hk
  · exact h.r.lt k hk
theorem PQ.ext (h : PQ w0 w g sb rv m rsb rsc pv E left d) (e : Ext w w') : PQ w0 w' g sb rv m rsb rsc pv E left d := ⟨h.x.trans e, h.p.ext e, h.r.ext e, h.e, h.l, h.f, h.b⟩
theorem PQ.only {p : Nat → Prop} (h : PQ w0 w g sb rv m rsb rsc pv E left d) (e : Only w w' p) (h1 : ∀ k, p k → w0.heap.size ≤ k) (h2 : ∀ k, kk g sb rv m rsb pv E k → ¬ p k) : PQ w0 w' g sb rv m rsb rsc pv E left d :=
  ⟨h.x.of_only e h1, h.p.only e (fun k hk => h2 k (Or.inl hk)), h.r.only e (fun k hk => h2 k (Or.inr hk)), h.e, h.l, h.f, h.b⟩
theorem PQ.pow (h : PQ w0 w g sb rv m rsb rsc pv E left d) : (powP d = 80 ∧ left = 0) ∨ (powP d = 0 ∧ left ≠ 0) := by
  unfold powP
  have hl := h.l
  cases hf : d.fused with
  | false =>
    rw [hf, if_neg (by simp)] at hl
    rw [if_neg (by simp)]
    exact Or.inr ⟨rfl, by omega⟩
  | true =>
    rw [hf, if_pos rfl] at hl
    by_cases h0 : d.left = 0
    · rw [if_pos ⟨rfl, h0⟩]; exact Or.inl ⟨rfl, by omega⟩
    · rw [if_neg (fun c => h0 c.2)]; exact Or.inr ⟨rfl, by omega⟩
/-- the power that is left, behind a write or a sync that was answered OK -/
theorem PQ.less (h : PQ w0 w g sb rv m rsb rsc pv E left d) (hp : powP d = 0) : lessL left = (if d.fused = true then wrap64 (d.left - 1) else -1) ∧ (d.fused = true → 0 ≤ wrap64 (d.left - 1) ∧ wrap64 (d.left - 1) ≤ 9223372036854775807) := by
  have hl := h.l
  have hf := h.f
  unfold powP at hp
  unfold lessL
  cases hq : d.fused with
  | false =>
    rw [hq, if_neg (by simp)] at hl
    rw [if_neg (show ¬ 0 < left by omega)]
    exact ⟨by simpa using hl, fun h => by cases h⟩
  | true =>
    rw [hq, if_pos rfl] at hl
    obtain ⟨f1, f2⟩ := hf hq
    have hne : d.left ≠ 0 := fun h0 => by
      rw [if_pos ⟨hq, h0⟩] at hp
      cases hp
    have e : wrap64 (d.left - 1) = d.left - 1 := by unfold wrap64; omega
    rw [if_pos (show 0 < left by omega), hl, e]
    exact ⟨by simp, fun _ => ⟨by omega, by omega⟩⟩
theorem PQ.dx (h : PQ w0 w g sb rv m rsb rsc pv E left d) : DX w0 w g sb d := ⟨h.x, h.b.1, h.b.2.1, rv, h.p⟩
end
/-- what a step leaves: the pair, and all else as it was -/
def After (w0 w w' : World) (K : Nat → Prop) (g m j : Nat) : Prop :=
  ∃ sb rv rsb rsc pv E left d, PQ w0 w' g sb rv m rsb rsc pv E left d ∧ d.R.length ≤ j ∧ Only w w' K ∧ ∀ k, kk g sb rv m rsb pv E k → K k ∨ w.heap.size ≤ k
section
variable {w0 w w' : World} {g sb m rsb rsc j : Nat} {rv pv : Value} {E : List We} {left : Int} {d : Dk}
theorem PQ.same (h : PQ w0 w g sb rv m rsb rsc pv E left d) (hj : d.R.length ≤ j) (e : Ext w w') : After w0 w w' (kk g sb rv m rsb pv E) g m j :=
  ⟨sb, rv, rsb, rsc, pv, E, left, d, h.ext e, hj, e.only, fun k hk => Or.inl hk⟩
end
/-- a step's cells, boxed -/
def opC (p : Dop) : Array Value := #[ci p.who, ci p.kind, ci p.n, p.dv, p.kv, ci p.torn, ci p.cut]
theorem grown_only' {w w' : World} {g : Nat} (h : w.grownBy w' (some g)) : Only w w' (· = g) := ⟨h.os, h.tape, h.output, h.size, fun k hk hp => h.block k hk (fun e => hp (Option.some.inj e))⟩
end Go.Proofs.Ytjcbmlpfpcpakaa
