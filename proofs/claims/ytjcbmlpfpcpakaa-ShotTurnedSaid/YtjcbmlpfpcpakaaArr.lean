/- Arrays as values in blocks of the call's own, and slices that read as lists. No program in sight. -/
import Derived.Test.YtjcbmlpfpcpakaaMem
import Derived.Deep.WholeRow
import Derived.Deep.MidRow
import Derived.Laws.AppendOwnNone
import Derived.OwnWalk
namespace Go.Proofs.Ytjcbmlpfpcpakaa
open Go.RowKit
set_option linter.unusedVariables false

abbrev c32 (x : BitVec 32) : Value := .int .u32 (Bv x)
theorem V_one {α : Type} (f : α → Value) (hf : ∀ a, (f a).oneCell' = true) (l : List α) : (V f l).all (·.oneCell') = true := by
  rw [Array.all_eq_true_iff_forall_mem]
  intro v hv
  have h : v ∈ (V f l).toList := by simpa using hv
  rw [V_toList] at h
  obtain ⟨a, _, rfl⟩ := List.mem_map.1 h
  exact hf a
theorem setRow_alloc_two (w : World) (c c' : Array Value) (t : TypeId) (o : Obj) : ((w.alloc (.cells c t)).alloc o).setRow w.heap.size c' = (w.alloc (.cells c' t)).alloc o := by
  simp only [World.setRow, World.alloc]
  congr 1
  apply Array.ext_getElem?
  intro i
  rw [Array.getElem?_modify]
  by_cases h : w.heap.size = i
  · subst h
    simp [Array.getElem?_push]
  · have h' : ¬ i = w.heap.size := fun e => h e.symm
    simp [h, h', Array.getElem?_push]
/-- a whole array into the block that was made last but one -/
theorem run_storeAt_two {P : Program} (w : World) (t : TypeId) (c c' : Array Value) (o : Obj) (hi : (P.info? t).map (·.size) = some c'.size) (ho : c.size = c'.size) (h1 : c'.all (·.oneCell') = true) :
    (Instr.storeAt t (.pointer (some ⟨w.heap.size, 0, none⟩)) (.agg c')).run P ((w.alloc (.cells c t)).alloc o) = .ok () ((w.alloc (.cells c' t)).alloc o) := by
  simp only [Instr.storeAt, Instr.sureAddr, Sem.run_bind, Sem.run_pure, Result.andThen]
  rw [run_storeVar_row _ _ t t c c' (heap_alloc2_old w _ _) hi ho h1, setRow_alloc_two]
/-- the operation: a whole array into a block, whose cells are as many -/
theorem wpList_store_row {P : Program} {ops : Array Oper} {rest : List Oper} {op : Oper} {a : Act} {w : World} {Q : Exit → Act → World → Prop} (hgd : op.guard = none) (ty : TypeId) (x y : Operand) (ho : op.op = .store ty x y)
    (g : Nat) (cells old : Array Value) (t : TypeId) (hx : a.eval x = .pointer (some ⟨g, 0, none⟩)) (hy : a.eval y = .agg cells)
    (hg : w.heap[g]? = some (.cells old t (0, 0))) (hi : (P.info? ty).map (·.size) = some cells.size) (hs : old.size = cells.size) (h1 : cells.all (·.oneCell') = true)
    (h : wpList P ops Q rest (a.put op.dst undef) (w.setRow g cells)) : wpList P ops Q (op :: rest) a w := by
  refine wpList_plain hgd fun K hK => ?_
  unfold Oper.wp execOp
  simp only [ho, hx, hy, Instr.storeAt, Instr.sureAddr, Sem.run_bind, Sem.run_pure, Result.andThen_ok, run_storeVar_row w g t ty old cells hg hi hs h1]
  exact hK _ _ h
theorem heap_third (w : World) (A B C : Obj) : (((w.alloc A).alloc B).alloc C).heap[w.heap.size + 1 + 1]? = some C := by
  have h := heap_alloc_last ((w.alloc A).alloc B) C
  simpa using h
theorem setRow_third (w : World) (A B : Obj) (c c' : Array Value) (t : TypeId) : (((w.alloc A).alloc B).alloc (.cells c t)).setRow (w.heap.size + 1 + 1) c' = ((w.alloc A).alloc B).alloc (.cells c' t) := by
  have h := World.setRow_alloc_new ((w.alloc A).alloc B) c c' t
  simpa using h
/-- a slice that reads as this list, an element a cell: empty, or its cells one by one -/
def Rd {α : Type} (w : World) (f : α → Value) (v : Value) (l : List α) : Prop :=
  (∃ a c, v = .slice a 0 c ∧ l = [] ∧ (a = none → c = 0)) ∨
  ∃ b o c n, v = .slice (some ⟨b, o, none⟩) n c ∧ n = l.length ∧ 0 < n ∧ ∀ i, (hi : i < l.length) → w.cell? ⟨b, o + i, none⟩ = some (f l[i])
theorem Rd.of_cells {α : Type} {w w' : World} {f : α → Value} {v : Value} {l : List α} (h : Rd w f v l) (hw : ∀ b o, b < w.heap.size → w'.cell? ⟨b, o, none⟩ = w.cell? ⟨b, o, none⟩) : Rd w' f v l := by
  rcases h with h | ⟨b, o, c, n, h1, h2, h3, h⟩
  · exact Or.inl h
  · exact Or.inr ⟨b, o, c, n, h1, h2, h3, fun i hi => by rw [hw b (o + i) (World.block_lt_of_cell? w _ (h i hi))]; exact h i hi⟩
theorem Rd.alloc {α : Type} {w : World} {f : α → Value} {v : Value} {l : List α} {ob : Obj} (h : Rd w f v l) : Rd (w.alloc ob) f v l :=
  h.of_cells (fun b o hb => World.cell?_alloc_lt _ _ _ hb)
theorem Rd.drew {α : Type} {w : World} {f : α → Value} {v : Value} {l : List α} (h : Rd w f v l) : Rd w.drew f v l := h.of_cells (fun _ _ _ => rfl)
theorem Rd.drewN {α : Type} {w : World} {f : α → Value} {v : Value} {l : List α} {n : Nat} (h : Rd w f v l) : Rd (w.drewN n) f v l := h.of_cells (fun _ _ _ => rfl)
theorem Rd.below {α : Type} {w w' : World} {f : α → Value} {v : Value} {l : List α} (h : Rd w f v l) (hb : Below w.heap.size w w') : Rd w' f v l :=
  h.of_cells (fun b o hlt => hb.cell (p := ⟨b, o, none⟩) hlt)
/-- a new row, read -/
theorem Rd.new {α : Type} {w : World} {f : α → Value} {l m : List α} {T : TypeId} {b n c : Nat} (hb : b = w.heap.size) (hn : n = l.length) : Rd (w.alloc (.cells (V f (l ++ m)) T)) f (.slice (some ⟨b, 0, none⟩) n c) l := by
  subst hb
  subst hn
  rcases Nat.eq_zero_or_pos l.length with h | h
  · have : l = [] := List.eq_nil_of_length_eq_zero h
    subst this
    exact Or.inl ⟨_, _, rfl, rfl, fun h => by cases h⟩
  · refine Or.inr ⟨_, _, _, _, rfl, rfl, h, fun i hi => ?_⟩
    rw [Nat.zero_add, World.cell?_alloc_new, V_get, List.getElem?_append_left hi, List.getElem?_eq_getElem hi]
    rfl
/-- a slice of the call's own (its block is B or a later one) that holds this list -/
def Own {α : Type} (w : World) (B : Nat) (T : TypeId) (f : α → Value) (v : Value) (l : List α) : Prop := w.ownsRow B T 1 v l.length (l.map f)
theorem Own.nil {α : Type} {w : World} {B : Nat} {T : TypeId} {f : α → Value} : Own w B T f (.slice none 0 0) [] := World.ownsRow_nil _ _ _ _
theorem Own.rd {α : Type} {w : World} {B : Nat} {T : TypeId} {f : α → Value} {v : Value} {l : List α} (h : Own w B T f v l) : Rd w f v l := by
  obtain ⟨_, ⟨rfl, h0⟩ | ⟨g, cap, cur, rfl, _, hg, _, _, _, htake⟩⟩ := h
  · exact Or.inl ⟨_, _, rfl, List.eq_nil_of_length_eq_zero h0, fun _ => rfl⟩
  · rcases Nat.eq_zero_or_pos l.length with h | h
    · exact Or.inl ⟨_, _, by rw [h], List.eq_nil_of_length_eq_zero h, fun h => by cases h⟩
    · refine Or.inr ⟨g, 0, cap, _, rfl, rfl, h, fun i hi => ?_⟩
      rw [Nat.zero_add, cell_of_row w g i cur T (0, 0) hg]
      have e : (cur.toList.take (l.length * 1))[i]? = (l.map f)[i]? := by rw [htake]
      rw [List.getElem?_take, if_pos (by omega), List.getElem?_map, List.getElem?_eq_getElem hi] at e
      simpa using e
theorem Own.kept {α : Type} {w w' : World} {B : Nat} {T : TypeId} {f : α → Value} {v : Value} {l : List α} {row : Option Nat} (h : Own w B T f v l) (hg : w.grownBy w' row) (hne : v.ownBlock = none ∨ v.ownBlock ≠ row) : Own w' B T f v l :=
  World.ownsRow.kept h hg hne
theorem Own.alloc {α : Type} {w : World} {B : Nat} {T : TypeId} {f : α → Value} {v : Value} {l : List α} {o : Obj} (h : Own w B T f v l) : Own (w.alloc o) B T f v l := World.ownsRow.alloc h o
theorem Own.drew {α : Type} {w : World} {B : Nat} {T : TypeId} {f : α → Value} {v : Value} {l : List α} (h : Own w B T f v l) : Own w.drew B T f v l := h
theorem Own.drewN {α : Type} {w : World} {B : Nat} {T : TypeId} {f : α → Value} {v : Value} {l : List α} {n : Nat} (h : Own w B T f v l) : Own (w.drewN n) B T f v l := h
theorem Own.mono {α : Type} {w : World} {B B' : Nat} {T : TypeId} {f : α → Value} {v : Value} {l : List α} (h : Own w B T f v l) (hB : B' ≤ B) : Own w B' T f v l := by
  obtain ⟨h1, h | ⟨g, cap, cur, h2, h3, h4⟩⟩ := h
  · exact ⟨h1, Or.inl h⟩
  · exact ⟨h1, Or.inr ⟨g, cap, cur, h2, Nat.le_trans hB h3, h4⟩⟩
theorem Own.below {α : Type} {w w' : World} {B : Nat} {T : TypeId} {f : α → Value} {v : Value} {l : List α} (h : Own w B T f v l) (hb : Below w.heap.size w w') : Own w' B T f v l := by
  obtain ⟨h1, h | ⟨g, cap, cur, h2, h3, h4, h5⟩⟩ := h
  · exact ⟨h1, Or.inl h⟩
  · exact ⟨h1, Or.inr ⟨g, cap, cur, h2, h3, by rw [hb.block g (Array.getElem?_eq_some_iff.1 h4).1]; exact h4, h5⟩⟩
/-- 'append(v, x...)': whatever is read behind what is the call's own -/
theorem wpList_append_rd {P : Program} {α : Type} (f : α → Value) (hf1 : ∀ a, (f a).oneCell' = true) {ops : Array Oper} {rest : List Oper} {o : Oper} {a : Act} {w : World} {Q : Exit → Act → World → Prop} (hgd : o.guard = none) (s x : Operand) (t : TypeId)
    (ho : o.op = .call { callee := .builtin .append, args := #[s, x], argTypes := #[t, t] })
    (B : Nat) (e : TypeId) (i : TypeInfo) (z : α) (bytes : Nat) (ht : P.underlying t = some (.slice e)) (hi : P.info? e = some i) (hz : i.zero = some (f z))
    (hsize : i.size = 1) (hby : i.bytes = bytes) (hzs : (f z).cells.size = 1)
    (v : Value) (l : List α) (hs : a.eval s = v) (hown : Own w B e f v l) (sv : Value) (m : List α) (hx : a.eval x = sv) (hm : Rd w f sv m)
    (hbytes : (l.length + m.length) * bytes ≤ 140737488355328) (h63 : l.length + m.length ≤ 9223372036854775807) (hB : B ≤ w.heap.size)
    (h : ∀ v' w', Own w' B e f v' (l ++ m) → w.grownBy w' v.ownBlock → wpList P ops Q rest (a.put o.dst v') w') : wpList P ops Q (o :: rest) a w := by
  have hmx : l.length + m.length ≤ maxLen := by unfold maxLen; omega
  have fin : ∀ v' w', w'.ownsRow B e 1 v' (l.length + m.length) (l.map f ++ m.map f) → Own w' B e f v' (l ++ m) := fun v' w' h => by
    unfold Own; rw [List.length_append, List.map_append]; exact h
  rcases hm with ⟨ao, c, rfl, rfl, hc0⟩ | ⟨b, off, c, n, rfl, hn, hp, hc⟩
  · cases ao with
    | some ad =>
      exact wpList_append_own w hgd s x t ho B e i (f z) 1 bytes ht hi hz hsize hby hzs (by decide) v l.length (l.map f) hs hown ad 0 c [] hx (by simp) (by simp) (by simp) (by simpa using hmx) (by simpa using hbytes) hB
        (fun v' w' h1 h2 _ => h v' w' (fin v' w' (by simpa using h1)) h2)
    | none =>
      obtain rfl := hc0 rfl
      exact wpList_append_own_none hgd s x t ho B e i 1 ht hi v l.length (l.map f) hs hown hx
        (h v w (by rw [List.append_nil]; exact hown) (World.grownBy.refl _ _))
  · subst hn
    refine wpList_append_own w hgd s x t ho B e i (f z) 1 bytes ht hi hz hsize hby hzs (by decide) v l.length (l.map f) hs hown ⟨b, off, none⟩ m.length c (m.map f) hx (by simp) ?_ ?_ hmx hbytes hB
        (fun v' w' h1 h2 _ => h v' w' (fin v' w' h1) h2)
    · intro j u hu
      obtain ⟨hj, rfl⟩ := List.getElem?_eq_some_iff.1 hu
      rw [Addr.add_mid, hc j (by simpa using hj), List.getElem_map]
    · intro u hu
      obtain ⟨y, _, rfl⟩ := List.mem_map.1 hu
      exact hf1 y
end Go.Proofs.Ytjcbmlpfpcpakaa
