/- Small laws on the walk's memory: a cell that is written twice, cells of new blocks. No program in sight. -/
import Derived.WalkKit
import Derived.KernelRfl
namespace Go.Proofs.Ytaneknfhilfalaa
open Go.RowKit

theorem setCell_setCell (w : World) (a : Addr) (u v : Value) : (w.setCell a u).setCell a v = w.setCell a v := by
  unfold World.setCell
  congr 1
  apply Array.ext
  · simp
  · intro i h1 h2
    simp only [Array.getElem_modify]
    by_cases h : a.block = i
    · simp only [h, if_true]
      cases hx : w.heap[i]'(by simpa using h2) <;> simp only []
      congr 1
      split
      · rfl
      · rw [Array.setIfInBounds_setIfInBounds]
    · simp only [h, if_false]
attribute [go_sem] setCell_setCell
/-- a cell that is written to what it holds -/
theorem setCell_self (w : World) (a : Addr) (v : Value) (h : w.cell? a = some v) : w.setCell a v = w := by
  have e : (w.setCell a v).heap = w.heap := by
    unfold World.setCell World.cell? at *
    apply Array.ext
    · simp
    · intro i h1 h2
      simp only [Array.getElem_modify]
      by_cases hi : a.block = i
      · subst hi
        simp only [if_true]
        rw [Array.getElem?_eq_getElem h2] at h
        cases hx : w.heap[a.block] with
        | cells c e f =>
          rw [hx] at h
          simp only at h
          congr 1
          cases hs : a.spot.isSome with
          | true => simp [hs] at h
          | false =>
            simp only [hs, Bool.false_eq_true, if_false] at h ⊢
            obtain ⟨ho, hv⟩ := Array.getElem?_eq_some_iff.1 h
            refine congrArg (fun z => Obj.cells z e f) ?_
            apply Array.ext
            · simp
            · intro j g1 g2
              rw [Array.getElem_setIfInBounds]
              split
              · rename_i hj; subst hj; exact hv.symm
              · rfl
        | _ => rfl
      · simp only [hi, if_false]
  cases w
  unfold World.setCell at e ⊢
  simp only at e
  simp only [e]
/-- what the call makes beside all that was there -/
theorem below_alloc {a w : World} {o : Obj} (h : Below a.heap.size a w) : Below a.heap.size a (w.alloc o) := h.alloc h.size o
theorem below_drew {a w : World} (h : Below a.heap.size a w) : Below a.heap.size a w.drew := h.drew
theorem below_set {a w : World} {p : Addr} {u : Value} (hp : a.heap.size ≤ p.block) (h : Below a.heap.size a w) : Below a.heap.size a (w.setCell p u) := h.setCell hp u
theorem below_trans {a b c : World} (h : Below a.heap.size a b) (k : Below b.heap.size b c) : Below a.heap.size a c := h.trans (k.mono h.size)
end Go.Proofs.Ytaneknfhilfalaa
