/- Laws for regions that draw their order, taken one operation at a time. -/
import Derived.Test.YtjcbmlpfpcpakaaD8l
import Derived.Deep.DeepCutAuto
import Derived.Deep.RegionHeldLaw
namespace Go.Proofs.Ytjcbmlpfpcpakaa
open Go.RowKit
theorem array_run (b o c : Nat) (w : World) : (Instr.arrayAt 132 (.slice (some ⟨b, o, none⟩) 64 c)).run Try.prog w = .ok (.pointer (some ⟨b, o, none⟩)) w := by kernel_rfl
section
variable {a : Operand → Value} {ds : Option Nat} {ty : TypeId} {ps : String} {af : Array Edge} {gd : Option (Nat × Bool)} {w : World} {x y : Operand}
theorem exec_load_sec (b off : Nat) (l : List (BitVec 8)) (hl : l.length = 64) (hx : a x = .pointer (some ⟨b, off, none⟩))
    (hr : w.rangeAt b off (l.map cb)) : (execOp a ⟨ds, .load 132 x, ty, ps, af, gd⟩).run Try.prog w = .ok (.value (.agg (V cb l))) w := by
  unfold execOp
  simp only [hx, Sem.run_bind, load_sec hr hl, Result.andThen_ok]
  rfl
theorem exec_build_pend (at' : Nat) (l : List (BitVec 8)) (hl : l.length = 64) (hx : a x = ci at') (hy : a y = .agg (V cb l)) :
    (execOp a ⟨ds, .build 134 #[(0, x), (1, y)], ty, ps, af, gd⟩).run Try.prog w = .ok (.value (.agg (pc (at', l)).toArray)) w := by
  unfold execOp
  simp only [List.map_toArray, List.map_cons, List.map_nil, hx, hy, Sem.run_bind, build_run at' l hl w, Result.andThen_ok]
  rfl
theorem exec_array (b off c : Nat) (hx : a x = .slice (some ⟨b, off, none⟩) 64 c) :
    (execOp a ⟨ds, .sliceToArrayPointer 132 x, ty, ps, af, gd⟩).run Try.prog w = .ok (.value (.pointer (some ⟨b, off, none⟩))) w := by
  unfold execOp
  simp only [hx, Sem.run_bind, array_run, Result.andThen_ok]
  rfl
end
theorem row_ext {w w' : World} {B T s : Nat} {rv : Value} {n : Nat} {xs : List Value} (h : w.ownsRow B T s rv n xs) (e : Ext w w') : w'.ownsRow B T s rv n xs := by
  obtain ⟨h1, h2 | ⟨x, cap, cur, h2, h3, h4, h5⟩⟩ := h
  · exact ⟨h1, Or.inl h2⟩
  · exact ⟨h1, Or.inr ⟨x, cap, cur, h2, h3, e.heap h4, h5⟩⟩
theorem Only.set {a b : World} {p : Nat → Prop} (h : Only a b p) {g i : Nat} (hg : p g) (v : Value) : Only a (b.setCell ⟨g, i, none⟩ v) p :=
  h.trans ⟨rfl, rfl, rfl, by simp [World.setCell], fun k _ hk => Below.heap_setCell _ _ _ _ (fun e => hk ((show g = k from e.symm) ▸ hg))⟩
theorem Only.drew {a b : World} {p : Nat → Prop} (h : Only a b p) : Only a b.drew p := ⟨h.os, h.tape, h.output, h.size, h.block⟩
theorem Blk.drew {w : World} {g : Nat} {c : Array Value} {t : TypeId} (h : Blk w g c t) : Blk w.drew g c t := h
theorem range_ext {w w' : World} {b o : Nat} {cs : List Value} (h : w.rangeAt b o cs) (e : Ext w w') : w'.rangeAt b o cs := fun j v hv => e.cell (h j v hv)
theorem row_far {w w' : World} {B T s : Nat} {rv : Value} {n : Nat} {xs : List Value} (h : w.ownsRow B T s rv n xs) (he : ∀ k, rv.ownBlock = some k → k < w.heap.size → w'.heap[k]? = w.heap[k]?) : w'.ownsRow B T s rv n xs := by
  obtain ⟨h1, h2 | ⟨x, cap, cur, h2, h3, h4, h5⟩⟩ := h
  · exact ⟨h1, Or.inl h2⟩
  · refine ⟨h1, Or.inr ⟨x, cap, cur, h2, h3, ?_, h5⟩⟩
    rw [he x (by rw [h2]; rfl) (Array.getElem?_eq_some_iff.1 h4).1]
    exact h4
end Go.Proofs.Ytjcbmlpfpcpakaa
