/- A world behind a call that left all that was there as it was; reading lists and own rows in it. No program in sight. -/
import Derived.Test.YtjcbmlpfpcpakaaArr
namespace Go.Proofs.Ytjcbmlpfpcpakaa
open Go.RowKit
set_option linter.unusedVariables false

theorem not32 (x : BitVec 32) : bits .xor .u32 IntKind.u32.max (Bv x) = Bv (~~~x) := by
  rw [bits32]; simp only [ofInt_Bv, opw]
  rw [show (BitVec.ofInt 32 IntKind.u32.max) = BitVec.allOnes 32 from rfl, BitVec.allOnes_xor]
theorem add8 (x y : BitVec 8) : IntKind.u8.wrap (Bv x + Bv y) = Bv (x + y) := by rw [u8_wrap, BitVec.ofInt_add]; simp only [ofInt_Bv]
theorem add8c (x : BitVec 8) (n : Nat) : IntKind.u8.wrap (Bv x + (no_index (OfNat.ofNat n : Int))) = Bv (x + BitVec.ofNat 8 n) := by
  rw [u8_wrap, BitVec.ofInt_add, ofInt_lit]; simp only [ofInt_Bv]
theorem csub8 (x : BitVec 8) (n : Nat) : IntKind.u8.wrap ((no_index (OfNat.ofNat n : Int)) - Bv x) = Bv (BitVec.ofNat 8 n - x) := by
  rw [u8_wrap, ofInt_sub', ofInt_lit]; simp only [ofInt_Bv]
attribute [go_sem] not32 add8 add8c csub8
/-- what was there is there as it was -/
def Ext (w w' : World) : Prop := Below w.heap.size w w'
theorem Ext.refl (w : World) : Ext w w := Below.refl _ _
theorem Ext.trans {a b c : World} (h : Ext a b) (k : Ext b c) : Ext a c := below_trans h k
theorem Ext.size {a b : World} (h : Ext a b) : a.heap.size ≤ b.heap.size := Below.size h
theorem Ext.alloc {a b : World} (h : Ext a b) (o : Obj) : Ext a (b.alloc o) := below_alloc h
theorem Ext.drew {a b : World} (h : Ext a b) : Ext a b.drew := below_drew h
theorem Ext.drewN {a b : World} (h : Ext a b) (n : Nat) : Ext a (b.drewN n) := below_drewN h
theorem Ext.set {a b : World} (h : Ext a b) {p : Addr} (hp : a.heap.size ≤ p.block) (u : Value) : Ext a (b.setCell p u) := below_set hp h
theorem Ext.grown {a b c : World} {row : Option Nat} (h : Ext a b) (hg : b.grownBy c row) (hr : ∀ k, row = some k → a.heap.size ≤ k) : Ext a c := Below.grown h hg h.size hr
theorem Ext.rd {α : Type} {w w' : World} {f : α → Value} {v : Value} {l : List α} (h : Ext w w') (k : Rd w f v l) : Rd w' f v l := k.below h
theorem Ext.own {α : Type} {w w' : World} {B : Nat} {T : TypeId} {f : α → Value} {v : Value} {l : List α} (h : Ext w w') (k : Own w B T f v l) : Own w' B T f v l := k.below h
theorem Ext.cell {w w' : World} (h : Ext w w') {p : Addr} {v : Value} (k : w.cell? p = some v) : w'.cell? p = some v := by
  rw [Below.cell h (World.block_lt_of_cell? w p k)]; exact k
theorem Ext.heap {w w' : World} (h : Ext w w') {b : Nat} {o : Obj} (k : w.heap[b]? = some o) : w'.heap[b]? = some o := by
  rw [Below.block h b (Array.getElem?_eq_some_iff.1 k).1]; exact k
theorem Ext.of_alloc {w : World} (o : Obj) : Ext w (w.alloc o) := (Ext.refl w).alloc o
theorem Ext.of_alloc2 {w : World} (o q : Obj) : Ext w ((w.alloc o).alloc q) := ((Ext.refl w).alloc o).alloc q
theorem Ext.of_alloc3 {w : World} (o q r : Obj) : Ext w (((w.alloc o).alloc q).alloc r) := (((Ext.refl w).alloc o).alloc q).alloc r
theorem Ext.below {a b c : World} {g : Nat} (h : Ext a b) (k : Below g b c) (hg : a.heap.size ≤ g) : Ext a c := Below.trans h (k.mono hg)
theorem Ext.to {a b : World} (h : Ext a b) : Below a.heap.size a b := h
theorem Ext.of {a b : World} (h : Below a.heap.size a b) : Ext a b := h
theorem Ext.block {w w' : World} (h : Ext w w') {b : Nat} (hb : b < w.heap.size) : w'.heap[b]? = w.heap[b]? := Below.block h b hb
attribute [irreducible] Ext
/-- a block's cells, all of them -/
def Blk (w : World) (g : Nat) (c : Array Value) (t : TypeId) : Prop := w.heap[g]? = some (.cells c t (0, 0))
theorem Blk.lt {w : World} {g : Nat} {c : Array Value} {t : TypeId} (h : Blk w g c t) : g < w.heap.size := (Array.getElem?_eq_some_iff.1 h).1
theorem Blk.cell {w : World} {g : Nat} {c : Array Value} {t : TypeId} (h : Blk w g c t) (i : Nat) : w.cell? ⟨g, i, none⟩ = c[i]? := by
  unfold Blk at h; simp [World.cell?, h]
theorem Blk.free {w : World} {g : Nat} {c : Array Value} {t : TypeId} (h : Blk w g c t) (i : Nat) : w.frozen? ⟨g, i, none⟩ = false := by
  unfold Blk at h; simp [World.frozen?, h]
theorem Blk.new (w : World) (c : Array Value) (t : TypeId) : Blk (w.alloc (.cells c t)) w.heap.size c t := by unfold Blk World.alloc; simp
theorem Blk.ext {w w' : World} {g : Nat} {c : Array Value} {t : TypeId} (h : Blk w g c t) (k : Ext w w') : Blk w' g c t := k.heap h
theorem Blk.below {w w' : World} {g B : Nat} {c : Array Value} {t : TypeId} (h : Blk w g c t) (k : Below B w w') (hg : g < B) : Blk w' g c t := (k.block g hg).trans h
theorem Blk.grown {w w' : World} {g : Nat} {c : Array Value} {t : TypeId} {row : Option Nat} (h : Blk w g c t) (k : w.grownBy w' row) (hg : some g ≠ row) : Blk w' g c t := (k.block g h.lt hg).trans h
theorem Blk.alloc {w : World} {g : Nat} {c : Array Value} {t : TypeId} (h : Blk w g c t) (o : Obj) : Blk (w.alloc o) g c t := h.ext (Ext.of_alloc o)
theorem Blk.set {w : World} {g : Nat} {c : Array Value} {t : TypeId} (h : Blk w g c t) (i : Nat) (v : Value) : Blk (w.setCell ⟨g, i, none⟩ v) g (c.setIfInBounds i v) t := by
  unfold Blk at *
  unfold World.setCell
  simp only [Array.getElem?_modify, if_true, h, Option.map_some]
  rfl
theorem Blk.far {w : World} {g : Nat} {c : Array Value} {t : TypeId} (h : Blk w g c t) (a : Addr) (ha : g ≠ a.block) (v : Value) : Blk (w.setCell a v) g c t := by
  unfold Blk at *
  rw [Below.heap_setCell _ _ _ _ ha]; exact h
theorem grown_set (w : World) (g i : Nat) (v : Value) : w.grownBy (w.setCell ⟨g, i, none⟩ v) (some g) :=
  ⟨rfl, rfl, rfl, by simp [World.setCell], fun k _ hk => Below.heap_setCell _ _ _ _ (fun h => hk (by rw [h]))⟩
theorem Ext.grownBy {w w' : World} (h : Ext w w') (row : Option Nat) : w.grownBy w' row := ⟨h.to.os, h.to.tape, h.to.output, h.to.size, fun k hk _ => h.block hk⟩
theorem grown_below {w w' : World} {g B : Nat} (h : w.grownBy w' (some g)) (hB : B ≤ g) (hw : B ≤ w.heap.size) : Below B w w' := ⟨h.os, h.tape, h.output, h.size, fun k hk => h.block k (by omega) (fun e => by have := Option.some.inj e; omega)⟩
theorem grown_trans {a b c : World} {row : Option Nat} (h : a.grownBy b row) (k : b.grownBy c row) : a.grownBy c row :=
  ⟨k.os.trans h.os, k.tape.trans h.tape, k.output.trans h.output, Nat.le_trans h.size k.size, fun i hi hne => (k.block i (Nat.lt_of_lt_of_le hi h.size) hne).trans (h.block i hi hne)⟩
theorem Ext.grown1 {a b c : World} {g : Nat} (h : Ext a b) (k : b.grownBy c (some g)) (hg : a.heap.size ≤ g) : Ext a c := h.below (grown_below k hg h.size) (Nat.le_refl _)
/-- a row of the call's own as the walk wants it: each element's cell, free to be written, and the row behind the write -/
theorem Own.form {α : Type} {w : World} {B : Nat} {T : TypeId} {f : α → Value} {v : Value} {l : List α} (h : Own w B T f v l) : ∃ qa c, v = .slice qa l.length c ∧ ∀ i, (hi : i < l.length) → ∃ g, qa = some ⟨g, 0, none⟩ ∧ B ≤ g ∧ g < w.heap.size ∧ w.cell? ⟨g, i, none⟩ = some (f l[i]) ∧ w.frozen? ⟨g, i, none⟩ = false ∧ ∀ x, Own (w.setCell ⟨g, i, none⟩ (f x)) B T f v (l.set i x) := by
  obtain ⟨h1, ⟨rfl, h0⟩ | ⟨g, cap, cur, rfl, hB, hg, hle, hmx, hsz, htake⟩⟩ := h
  · exact ⟨none, 0, by rw [h0], fun i hi => absurd hi (by omega)⟩
  · refine ⟨_, _, rfl, fun i hi => ⟨g, rfl, hB, (Array.getElem?_eq_some_iff.1 hg).1, ?_, by simp [World.frozen?, hg], fun x => ?_⟩⟩
    · rw [cell_of_row w g i cur T (0, 0) hg]
      have e : (cur.toList.take (l.length * 1))[i]? = (l.map f)[i]? := by rw [htake]
      rw [List.getElem?_take, if_pos (by omega), List.getElem?_map, List.getElem?_eq_getElem hi] at e
      simpa using e
    · refine ⟨by simp, Or.inr ⟨g, cap, cur.setIfInBounds i (f x), by simp, hB, Blk.set hg i (f x), by simpa using hle, hmx, by simpa using hsz, ?_⟩⟩
      rw [Array.toList_setIfInBounds, List.length_set, List.take_set, htake, List.map_set]
theorem Own.lt {α : Type} {w : World} {B : Nat} {T : TypeId} {f : α → Value} {v : Value} {l : List α} (h : Own w B T f v l) : ∀ k, v.ownBlock = some k → B ≤ k ∧ k < w.heap.size := World.ownsRow.lt h
end Go.Proofs.Ytjcbmlpfpcpakaa
