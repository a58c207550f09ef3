/- Small laws on the walk's memory: a cell that is written twice, cells of new blocks. No program in sight. -/
import Derived.Test.YtjcbmlpfpcpakaaBv
import Derived.Deep.Draws
import Derived.Lib.Hide
namespace Go.Proofs.Ytjcbmlpfpcpakaa
open Go.RowKit
set_option linter.unusedVariables false

theorem setCell_setCell (w : World) (a : Addr) (u v : Value) : (w.setCell a u).setCell a v = w.setCell a v := by
  unfold World.setCell
  congr 1
  apply Array.ext
  · simp
  · intro i h1 h2
    simp only [Array.getElem_modify]
    by_cases h : a.block = i
    · simp only [h, if_true]
      cases hx : w.heap[i]'(by simpa using h2) <;> simp only []
      congr 1
      split
      · rfl
      · rw [Array.setIfInBounds_setIfInBounds]
    · simp only [h, if_false]
attribute [go_sem] setCell_setCell
/-- a cell that is written to what it holds -/
theorem setCell_self (w : World) (a : Addr) (v : Value) (h : w.cell? a = some v) : w.setCell a v = w := by
  have e : (w.setCell a v).heap = w.heap := by
    unfold World.setCell World.cell? at *
    apply Array.ext
    · simp
    · intro i h1 h2
      simp only [Array.getElem_modify]
      by_cases hi : a.block = i
      · subst hi
        simp only [if_true]
        rw [Array.getElem?_eq_getElem h2] at h
        cases hx : w.heap[a.block] with
        | cells c e f =>
          rw [hx] at h
          simp only at h
          congr 1
          cases hs : a.spot.isSome with
          | true => simp [hs] at h
          | false =>
            simp only [hs, Bool.false_eq_true, if_false] at h ⊢
            obtain ⟨ho, hv⟩ := Array.getElem?_eq_some_iff.1 h
            refine congrArg (fun z => Obj.cells z e f) ?_
            apply Array.ext
            · simp
            · intro j g1 g2
              rw [Array.getElem_setIfInBounds]
              split
              · rename_i hj; subst hj; exact hv.symm
              · rfl
        | _ => rfl
      · simp only [hi, if_false]
  cases w
  unfold World.setCell at e ⊢
  simp only at e
  simp only [e]
/-- what the call makes beside all that was there -/
theorem below_alloc {a w : World} {o : Obj} (h : Below a.heap.size a w) : Below a.heap.size a (w.alloc o) := h.alloc h.size o
theorem below_drew {a w : World} (h : Below a.heap.size a w) : Below a.heap.size a w.drew := h.drew
theorem below_drewN {a w : World} {n : Nat} (h : Below a.heap.size a w) : Below a.heap.size a (w.drewN n) := ⟨h.os, h.tape, h.output, h.size, h.block⟩
theorem below_set {a w : World} {p : Addr} {u : Value} (hp : a.heap.size ≤ p.block) (h : Below a.heap.size a w) : Below a.heap.size a (w.setCell p u) := h.setCell hp u
theorem below_trans {a b c : World} (h : Below a.heap.size a b) (k : Below b.heap.size b c) : Below a.heap.size a c := h.trans (k.mono h.size)
/-- the cells of a row whose elements take one cell each -/
def V {α : Type} (f : α → Value) (l : List α) : Array Value := (l.map f).toArray
section
variable {α : Type} (f : α → Value) (l : List α)
theorem V_size : (V f l).size = l.length := by simp [V]
theorem V_get (i : Nat) : (V f l)[i]? = (l[i]?).map f := by simp [V]
theorem V_at (i : Nat) (d : α) (h : i < l.length) : (V f l)[i]? = some (f (l.getD i d)) := by
  rw [V_get, List.getD_eq_getElem?_getD, List.getElem?_eq_getElem h]; rfl
theorem V_set (i : Nat) (a : α) : (V f l).setIfInBounds i (f a) = V f (l.set i a) := by
  simp [V, List.map_set]
theorem V_rep (n : Nat) (a : α) : V f (List.replicate n a) = (List.replicate n (f a)).toArray := by simp [V]
theorem V_toList : (V f l).toList = l.map f := by simp [V]
end
/-- 'i64', 'u8', 'u64', ..: how numbers lie in cells -/
abbrev ci (x : Int) : Value := .int .i64 x
abbrev cb (x : BitVec 8) : Value := .int .u8 (Bv x)
abbrev cw (x : BitVec 64) : Value := .int .u64 (Bv x)
theorem drewN_setCell (w : World) (n : Nat) (a : Addr) (v : Value) : (w.drewN n).setCell a v = (w.setCell a v).drewN n := rfl
theorem drewN_alloc (w : World) (n : Nat) (o : Obj) : (w.drewN n).alloc o = (w.alloc o).drewN n := rfl
attribute [go_sem] drewN_setCell drewN_alloc
attribute [irreducible] V
attribute [go_sem] V_set
theorem madeCells_one (z : Value) (n : Nat) : madeCells #[z] n = (List.replicate n z).toArray := by
  apply Array.ext'
  rw [toList_madeCells_one]
/-- 'make([]T, l, c)', a cell an element: the new block written out -/
theorem run_make_one {P : Program} {α : Type} (f : α → Value) (x : α) (t e : TypeId) (i : TypeInfo) (bytes : Nat) (ht : P.underlying t = some (.slice e)) (hi : P.info? e = some i) (hz : i.zero = some (f x))
    (hs : i.size = 1) (hb : i.bytes = bytes) (hc : (f x).cells = #[f x]) (l c : Nat) (hlc : l ≤ c) (hbytes : bytes * c ≤ 281474976710656) (h63 : c ≤ 9223372036854775807) (w : World) :
    (Instr.makeSlice t (.int .i64 (l : Int)) (.int .i64 (c : Int))).run P w = .ok (.slice (some ⟨w.heap.size, 0, none⟩) l c) (w.alloc (.cells (V f (List.replicate c x)) e)) := by
  have hbytes' : (i.bytes : Int) * (c : Int) ≤ 281474976710656 := by
    rw [hb]
    have h := Int.ofNat_le.2 hbytes
    rwa [Int.natCast_mul] at h
  have hr := run_make (P := P) w t e i (f x) ht hi hz .i64 .i64 l c (by omega) (by omega) hbytes' (by omega)
  rw [hr, hs, hc, Nat.mul_one]
  simp only [Int.toNat_natCast, madeCells_one, V_rep]
end Go.Proofs.Ytjcbmlpfpcpakaa
