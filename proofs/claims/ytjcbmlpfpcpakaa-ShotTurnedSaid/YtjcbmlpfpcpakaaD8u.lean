/- Variables of many cells (a sector, a write that waits) in plain regions: read whole, made and written whole. -/
import Derived.Test.YtjcbmlpfpcpakaaD8t
namespace Go.Proofs.Ytjcbmlpfpcpakaa
open Go.RowKit
structure AggT (ty n : Nat) (z : Array Value) : Prop where
  d : ∃ d, Try.prog.underlying ty = some d ∧ d.isRow = true
  size : (Try.prog.info? ty).map (·.size) = some n
  zero : ∀ w, (zeroValue ty).run Try.prog w = .ok (.agg z) w
  zsize : z.size = n
theorem A132 : AggT 132 64 (List.replicate 64 (.int .u8 0)).toArray := by
  refine ⟨⟨_, Try.u132, rfl⟩, Try.size132, fun w => ?_, by simp⟩
  have : (Try.prog.info? 132).map (fun i => (i.zero, i.size, i.bytes)) = some (some (.agg (List.replicate 64 (.int .u8 0)).toArray), 64, 64) := by kernel_rfl
  obtain ⟨i, j1, j2, j3, j4⟩ := info_parts this
  simp [zeroValue, typeInfo, j1, j2]
theorem Try.u134 : ∃ d, Try.prog.underlying 134 = some d ∧ d.isRow = true := by
  have h : (Try.prog.underlying 134).map TypeDesc.isRow = some true := by kernel_rfl
  cases hu : Try.prog.underlying 134 with
  | none => rw [hu] at h; cases h
  | some d => rw [hu] at h; exact ⟨d, rfl, by simpa using h⟩
theorem A134 : AggT 134 65 (ci 0 :: List.replicate 64 (.int .u8 0)).toArray := by
  refine ⟨Try.u134, by kernel_rfl, fun w => ?_, by simp⟩
  obtain ⟨i, j1, j2, j3, j4⟩ := info_parts Try.info134
  simp [zeroValue, typeInfo, j1, j2]
section
variable {ty n : Nat} {z : Array Value} {ops : Array Oper} {rest : List Oper} {o o2 : Oper} {a : Act} {w : World} {Q : Exit → Act → World → Prop}
theorem wpList_load_row (A : AggT ty n z) (hgd : o.guard = none) (x : Operand) (ho : o.op = .load ty x) (b off : Nat) (hx : a.eval x = .pointer (some ⟨b, off, none⟩))
    (cs : List Value) (hl : cs.length = n) (hr : w.rangeAt b off cs) (h : wpList Try.prog ops Q rest (a.put o.dst (.agg cs.toArray)) w) : wpList Try.prog ops Q (o :: rest) a w := by
  obtain ⟨d, h1, h2⟩ := A.d
  exact wpList_load_mid hgd ty x ho b off hx cs d hr h1 h2 (by rw [hl]; exact A.size) h
theorem storeVar_row (A : AggT ty n z) (g : Nat) (cur : Array Value) (t : TypeId) (hb : Blk w g cur t) (hc : cur.size = n) (cs : List Value) (hl : cs.length = n) (h1 : ∀ v ∈ cs, v.oneCell' = true) :
    (storeVar ty ⟨g, 0, none⟩ (.agg cs.toArray)).run Try.prog w = .ok () (w.setRow g cs.toArray) := by
  have hst := run_storeCells_at Try.prog g 0 t cs 0 cur w hb (by omega) h1
  simp only [Nat.add_zero, Nat.zero_add, List.take_zero, List.nil_append] at hst
  rw [List.drop_eq_nil_of_le (by rw [Array.length_toList]; omega), List.append_nil] at hst
  have h132 := A.size
  cases hq : Try.prog.info? ty with
  | none => rw [hq] at h132; cases h132
  | some q =>
    rw [hq] at h132
    have hs : q.size = n := by simpa using h132
    have hcc : (Value.agg cs.toArray).cells = cs.toArray := rfl
    unfold storeVar
    rw [hcc]
    simp [sizeOf, typeInfo, hq, hs, hl, hst]
theorem wpList_store_blk (A : AggT ty n z) (hgd : o.guard = none) (x y : Operand) (ho : o.op = .store ty x y) (g : Nat) (hx : a.eval x = .pointer (some ⟨g, 0, none⟩)) (cur : Array Value) (t : TypeId) (hb : Blk w g cur t) (hc : cur.size = n)
    (cs : List Value) (hl : cs.length = n) (h1 : ∀ v ∈ cs, v.oneCell' = true) (hy : a.eval y = .agg cs.toArray)
    (h : ∀ w', Blk w' g cs.toArray t → w.grownBy w' (some g) → wpList Try.prog ops Q rest (a.put o.dst undef) w') : wpList Try.prog ops Q (o :: rest) a w :=
  wpList_plain hgd fun K hK => by
    unfold Oper.wp execOp
    simp only [ho, hx, hy, Instr.storeAt, Instr.sureAddr, Sem.run_bind, Sem.run_pure, Result.andThen_ok, storeVar_row A g cur t hb hc cs hl h1]
    exact hK _ _ (h _ (setRow_heap w g _ _ t (0, 0) hb) ⟨rfl, rfl, rfl, by simp [World.setRow], fun k _ hk => setRow_other w g k _ (fun e => hk (by rw [e]))⟩)
theorem wpList_alloc_row (A : AggT ty n z) (hgd : o.guard = none) (ho : o.op = .alloc ty)
    (h : wpList Try.prog ops Q rest (a.put o.dst (.pointer (some ⟨w.heap.size, 0, none⟩))) (w.alloc (.cells z ty))) : wpList Try.prog ops Q (o :: rest) a w :=
  wpList_plain hgd fun K hK => by
    have hr : (Instr.alloc ty true (.tuple #[])).run Try.prog w = .ok (.pointer (some ⟨w.heap.size, 0, none⟩)) (w.alloc (.cells z ty)) := by
      have hcc : (Value.agg z).cells = z := rfl
      unfold Instr.alloc
      simp [Sem.run_bind, A.zero, Result.andThen_ok, newVar, newRow, hcc]
    unfold Oper.wp execOp
    simp only [ho, Sem.run_bind, hr, Result.andThen_ok]
    exact hK _ _ h
/-- made and written whole -/
theorem wpList_make_row (A : AggT ty n z) (hgd : o.guard = none) (hgd2 : o2.guard = none) (ho : o.op = .alloc ty) (x y : Operand) (ho2 : o2.op = .store ty x y)
    (hx : (a.put o.dst (.pointer (some ⟨w.heap.size, 0, none⟩))).eval x = .pointer (some ⟨w.heap.size, 0, none⟩))
    (cs : List Value) (hl : cs.length = n) (h1 : ∀ v ∈ cs, v.oneCell' = true) (hy : (a.put o.dst (.pointer (some ⟨w.heap.size, 0, none⟩))).eval y = .agg cs.toArray)
    (h : ∀ w', Ext w w' → Blk w' w.heap.size cs.toArray ty → wpList Try.prog ops Q rest ((a.put o.dst (.pointer (some ⟨w.heap.size, 0, none⟩))).put o2.dst undef) w') : wpList Try.prog ops Q (o :: o2 :: rest) a w :=
  wpList_alloc_row A hgd ho (wpList_store_blk A hgd2 x y ho2 w.heap.size hx z ty (Blk.new w z ty) A.zsize cs hl h1 hy fun w' hb hg => h w' ((Ext.of_alloc _).grown1 hg (Nat.le_refl _)) hb)
end
theorem pc_one (p : Nat × List (BitVec 8)) : ∀ v ∈ pc p, v.oneCell' = true := fun v hv => by
  unfold pc at hv
  rcases List.mem_cons.1 hv with rfl | hv
  · rfl
  · obtain ⟨y, _, rfl⟩ := List.mem_map.1 hv; rfl
theorem cb_ones (l : List (BitVec 8)) : ∀ v ∈ l.map cb, v.oneCell' = true := fun v hv => by
  obtain ⟨y, _, rfl⟩ := List.mem_map.1 hv; rfl
theorem pc_len (p : Nat × List (BitVec 8)) (h : p.2.length = 64) : (pc p).length = 65 := by unfold pc; simp [h]
/-- the second part of a write that waits -/
theorem pc_data {w : World} {b : Nat} {p : Nat × List (BitVec 8)} {t : TypeId} (h : Blk w b (pc p).toArray t) : w.rangeAt b 1 (p.2.map cb) := fun j v hv => by
  rw [h.cell]
  unfold pc
  simpa [Nat.add_comm 1 j] using hv
theorem pc_at {w : World} {b : Nat} {p : Nat × List (BitVec 8)} {t : TypeId} (h : Blk w b (pc p).toArray t) : w.cell? ⟨b, 0, none⟩ = some (ci p.1) := by
  rw [h.cell]
  unfold pc
  rfl
theorem V_range {w : World} {b : Nat} {l : List (BitVec 8)} {t : TypeId} (h : Blk w b (l.map cb).toArray t) : w.rangeAt b 0 (l.map cb) := fun j v hv => by
  rw [h.cell]
  simpa using hv
end Go.Proofs.Ytjcbmlpfpcpakaa
