/- Layer 8 (disk), the document's disk in memory. -/
import Derived.Test.YtjcbmlpfpcpakaaD8x
namespace Go.Proofs.Ytjcbmlpfpcpakaa
open Go.RowKit
set_option linter.unusedVariables false
/-- a write that waits, as the document's disk has it: its sector, the slice, the bytes -/
structure We where
  s : Nat
  v : Value
  l : List (BitVec 8)
def prc (e : We) : List Value := [ci e.s, e.v]
structure We.ok (w : World) (B sb : Nat) (e : We) : Prop where
  v : ∃ g c, e.v = .slice (some ⟨g, 0, none⟩) 64 c ∧ Spn w 5 cb g c e.l ∧ B ≤ g ∧ g ≠ sb
  l : e.l.length = 64
def wR (E : List We) : List (Nat × List (BitVec 8)) := E.map (fun e => (e.s, e.l))
structure RB (w : World) (B g sb sc : Nat) (pv : Value) (E : List We) (n : Nat) (S : List (BitVec 8)) (left made synced : Int) : Prop where
  b : Blk w g (rc (.slice (some ⟨sb, 0, none⟩) (64 * n) sc) pv left made synced) 137
  s : Spn w 5 cb sb sc S
  sl : S.length = 64 * n
  n1 : 1 ≤ n
  n2 : n ≤ 65536
  p : w.ownsRow B 175 2 pv E.length (E.flatMap prc)
  e : ∀ e ∈ E, e.ok w B sb ∧ e.s < n
/-- the document's disk's own blocks -/
def mineR (g sb : Nat) (pv : Value) (E : List We) (k : Nat) : Prop := k = g ∨ k = sb ∨ pv.ownBlock = some k ∨ ∃ e ∈ E, e.v.ownBlock = some k
theorem Spn.only {α : Type} {w w' : World} {T : TypeId} {f : α → Value} {g c : Nat} {l : List α} {p : Nat → Prop} (h : Spn w T f g c l) (e : Only w w' p) (hp : ¬ p g) : Spn w' T f g c l := by
  obtain ⟨cur, h1, h2, h3⟩ := h.blk
  exact ⟨h.le, h.mx, cur, e.blk h1 hp, h2, h3⟩
theorem ownsRow_only {w w' : World} {B T s : Nat} {rv : Value} {n : Nat} {xs : List Value} {p : Nat → Prop} (h : w.ownsRow B T s rv n xs) (e : Only w w' p) (hp : ∀ k, rv.ownBlock = some k → ¬ p k) : w'.ownsRow B T s rv n xs :=
  row_far h fun k hk hlt => e.block k hlt (hp k hk)
theorem ownsRow_type {w : World} {B T s : Nat} {rv : Value} {n g : Nat} {xs : List Value} {c : Array Value} {t : TypeId} (h : w.ownsRow B T s rv n xs) (k : Blk w g c t) (ht : T ≠ t) : rv.ownBlock ≠ some g := by
  obtain ⟨h1, ⟨rfl, h2⟩ | ⟨x, cap, cur, rfl, h3, h4, _⟩⟩ := h
  · intro e; cases e
  · intro e
    have : x = g := Option.some.inj e
    subst this
    exact ht (Blk.type (show Blk w x cur T from h4) k)
section
variable {w w' : World} {B g sb sc n : Nat} {pv : Value} {E : List We} {S : List (BitVec 8)} {left made synced : Int}
theorem RB.only {p : Nat → Prop} (h : RB w B g sb sc pv E n S left made synced) (e : Only w w' p) (hp : ∀ k, mineR g sb pv E k → ¬ p k) : RB w' B g sb sc pv E n S left made synced :=
  ⟨e.blk h.b (hp g (Or.inl rfl)), h.s.only e (hp sb (Or.inr (Or.inl rfl))), h.sl, h.n1, h.n2, ownsRow_only h.p e (fun k hk => hp k (Or.inr (Or.inr (Or.inl hk)))), fun x hx => ⟨⟨by
    obtain ⟨g', c, h1, h2, h3, h4⟩ := (h.e x hx).1.v
    exact ⟨g', c, h1, h2.only e (hp g' (Or.inr (Or.inr (Or.inr ⟨x, hx, by rw [h1]; rfl⟩)))), h3, h4⟩, (h.e x hx).1.l⟩, (h.e x hx).2⟩⟩
theorem RB.ext (h : RB w B g sb sc pv E n S left made synced) (e : Ext w w') : RB w' B g sb sc pv E n S left made synced := h.only (p := fun _ => False) e.only (fun _ _ h => h)
theorem RB.lt (h : RB w B g sb sc pv E n S left made synced) : ∀ k, mineR g sb pv E k → k < w.heap.size := by
  rintro k (rfl | rfl | hk | ⟨x, hx, hk⟩)
  · exact h.b.lt
  · exact h.s.lt
  · exact (World.ownsRow.lt h.p k hk).2
  · obtain ⟨g', c, h1, h2, h3, h4⟩ := (h.e x hx).1.v
    rw [h1] at hk
    cases hk
    exact h2.lt
/-- the type of each of its blocks -/
theorem RB.types (h : RB w B g sb sc pv E n S left made synced) : ∀ k, mineR g sb pv E k → ∃ c t, Blk w k c t ∧ (t = 137 ∨ t = 5 ∨ t = 175) := by
  rintro k (rfl | rfl | hk | ⟨x, hx, hk⟩)
  · exact ⟨_, _, h.b, Or.inl rfl⟩
  · obtain ⟨cur, h1, _⟩ := h.s.blk
    exact ⟨_, _, h1, Or.inr (Or.inl rfl)⟩
  · obtain ⟨h1, ⟨rfl, h2⟩ | ⟨x, cap, cur, rfl, h3, h4, _⟩⟩ := h.p
    · cases hk
    · cases hk
      exact ⟨_, _, h4, Or.inr (Or.inr rfl)⟩
  · obtain ⟨g', c, h1, h2, h3, h4⟩ := (h.e x hx).1.v
    rw [h1] at hk
    cases hk
    obtain ⟨cur, h5, _⟩ := h2.blk
    exact ⟨_, _, h5, Or.inr (Or.inl rfl)⟩
theorem RB.row (h : RB w B g sb sc pv E n S left made synced) : ∃ a c, pv = .slice a E.length c ∧ E.length ≤ c ∧ c ≤ maxLen ∧ ∀ j, (hj : j < E.length) → ∃ x, a = some ⟨x, 0, none⟩ ∧ w.cell? ⟨x, j * 2, none⟩ = some (ci E[j].s) ∧ w.cell? ⟨x, j * 2 + 1, none⟩ = some E[j].v := by
  obtain ⟨h1, ⟨rfl, h2⟩ | ⟨x, cap, cur, rfl, h3, h4, h5, h6, h7, h8⟩⟩ := h.p
  · exact ⟨none, 0, by rw [h2], by omega, by unfold maxLen; omega, fun j hj => by omega⟩
  · refine ⟨_, cap, rfl, h5, h6, fun j hj => ⟨x, rfl, ?_⟩⟩
    have key : ∀ (R : List We) (j : Nat), (hj : j < R.length) → (R.flatMap prc)[j * 2]? = some (ci R[j].s) ∧ (R.flatMap prc)[j * 2 + 1]? = some R[j].v := by
      intro R
      induction R with
      | nil => intro j hj; simp at hj
      | cons p r ih =>
        intro j hj
        rw [List.flatMap_cons]
        cases j with
        | zero => exact ⟨rfl, rfl⟩
        | succ j =>
          have := ih j (by simpa using hj)
          rw [List.getElem?_append_right (by simp [prc]; omega), List.getElem?_append_right (by simp [prc]; omega)]
          simp only [prc, List.length_cons, List.length_nil]
          rw [show (j + 1) * 2 - (0 + 1 + 1) = j * 2 by omega, show (j + 1) * 2 + 1 - (0 + 1 + 1) = j * 2 + 1 by omega]
          exact this
    obtain ⟨k1, k2⟩ := key E j hj
    rw [← h8] at k1 k2
    rw [List.getElem?_take] at k1 k2
    rw [cell_of_row w x _ cur 175 (0, 0) h4, cell_of_row w x _ cur 175 (0, 0) h4]
    constructor
    · split at k1
      · simpa using k1
      · cases k1
    · split at k2
      · simpa using k2
      · cases k2
theorem RB.lim (h : RB w B g sb sc pv E n S left made synced) : sc ≤ maxLen ∧ 64 * n ≤ sc := ⟨h.s.mx, by have := h.s.le; have := h.sl; omega⟩
end
end Go.Proofs.Ytjcbmlpfpcpakaa
