/- Layer 8 (disk): what the operations on whole sectors do. -/
import Derived.Test.YtjcbmlpfpcpakaaD8b
import Derived.Maps.AppendAt
import Derived.Deep.RegionLaw
import Derived.StillTailTactics
namespace Go.Proofs.Ytjcbmlpfpcpakaa
open Go.RowKit
set_option linter.unusedVariables false

theorem fold_set (off : Nat) : ∀ (l : List Value) (k : Nat) (cs : Array Value), off + k + l.length ≤ cs.size →
    ((l.zipIdx k).foldl (fun cs x => cs.setIfInBounds (off + x.2) x.1) cs).toList = cs.toList.take (off + k) ++ l ++ cs.toList.drop (off + k + l.length)
  | [], k, cs, h => by simp
  | x :: r, k, cs, h => by
    simp only [List.length_cons] at h
    rw [List.zipIdx_cons, List.foldl_cons, fold_set off r (k + 1) _ (by simpa using by omega)]
    simp only [Array.toList_setIfInBounds]
    have hk : off + k < cs.toList.length := by simpa using by omega
    rw [show off + (k + 1) = off + k + 1 by omega, List.take_succ_eq_append_getElem (by simpa using hk), List.getElem_set_self, List.take_set_of_le (Nat.le_refl _), List.drop_set_of_lt (by omega)]
    simp only [List.length_cons, List.append_assoc, List.cons_append, List.nil_append]
    rw [show off + k + 1 + r.length = off + k + (r.length + 1) by omega]
theorem fill_agg (place : Nat → Option (Nat × Nat)) (cells c : Array Value) (i off n : Nat) (rest : List (Nat × Value)) (hp : place i = some (off, n)) (hn : c.size = n) (hf : off + n ≤ cells.size) :
    Instr.fill place cells ((i, .agg c) :: rest) = Instr.fill place (cells.toList.take off ++ c.toList ++ cells.toList.drop (off + n)).toArray rest := by
  have e : (c.zipIdx.foldl (fun cs x => cs.setIfInBounds (off + x.2) x.1) cells) = (cells.toList.take off ++ c.toList ++ cells.toList.drop (off + n)).toArray := by
    apply Array.ext'
    have h := fold_set off c.toList 0 cells (by simp; omega)
    rw [Nat.add_zero] at h
    rw [← Array.foldl_toList, Array.toList_zipIdx, h]
    simp [hn]
  have hc : (Value.agg c).cells = c := rfl
  have hne : ¬ (c.size ≠ n ∨ cells.size < off + c.size) := by omega
  rw [Instr.fill, hp]
  simp only [hc]
  rw [if_neg (by simpa using by omega)]
  exact congrArg (fun z => Instr.fill place z rest) e
theorem pc_size (p : Nat × List (BitVec 8)) (h : p.2.length = 64) : (pc p).toArray.size = 65 := by unfold pc; simp [h]
theorem build_run (at' : Nat) (l : List (BitVec 8)) (hl : l.length = 64) (w : World) : (Instr.build 134 #[(0, ci at'), (1, .agg (V cb l))]).run Try.prog w = .ok (.agg (pc (at', l)).toArray) w := by
  refine run_build w 134 _ _ ?_
  have hb : ∀ parts, Try.prog.built 134 parts = Instr.fill (fun x => (#[(0, 1), (1, 64)] : Array (Nat × Nat))[x]?) (ci 0 :: List.replicate 64 (.int .u8 0)).toArray parts := fun parts => by kernel_rfl
  rw [hb]
  have h1 : Instr.fill (fun x => (#[(0, 1), (1, 64)] : Array (Nat × Nat))[x]?) (ci 0 :: List.replicate 64 (.int .u8 0)).toArray #[(0, ci at'), (1, .agg (V cb l))].toList =
      Instr.fill (fun x => (#[(0, 1), (1, 64)] : Array (Nat × Nat))[x]?) (ci at' :: List.replicate 64 (.int .u8 0)).toArray [(1, .agg (V cb l))] := rfl
  rw [h1, fill_agg _ _ (V cb l) 1 1 64 [] rfl (by rw [V_size, hl]) (by simp)]
  rw [V_toList, List.drop_eq_nil_of_le (by simp), List.append_nil]
  unfold Instr.fill pc
  rfl
theorem Try.u128 : Try.prog.underlying 128 = some (.slice 134) := by kernel_rfl
theorem Try.info134 : (Try.prog.info? 134).map (fun i => (i.zero, i.size, i.bytes)) = some (some (.agg (ci 0 :: List.replicate 64 (.int .u8 0)).toArray), 65, 72) := by kernel_rfl
theorem buildSlice_run (p : Nat × List (BitVec 8)) (hl : p.2.length = 64) (w : World) : (Instr.buildSlice 128 1 #[(0, .agg (pc p).toArray)]).run Try.prog w = .ok (.slice (some ⟨w.heap.size, 0, none⟩) 1 1) (w.alloc (.cells (pc p).toArray 134)) := by
  obtain ⟨i, j1, j2, j3, j4⟩ := info_parts Try.info134
  have hz : (zeroValue 134).run Try.prog w = .ok (.agg (ci 0 :: List.replicate 64 (.int .u8 0)).toArray) w := by simp [zeroValue, typeInfo, j1, j2]
  have hf : ∀ Z : Array Value, Z.size = 65 → Instr.fill (fun i => some (i * 65, 65)) Z [(0, .agg (pc p).toArray)] = some (pc p).toArray := fun Z hZ => by
    rw [fill_agg _ _ (pc p).toArray 0 0 65 [] rfl (pc_size p hl) (by omega)]
    unfold Instr.fill
    rw [List.take_zero, List.nil_append, List.drop_eq_nil_of_le (by rw [Array.length_toList]; omega), List.append_nil]
  have c65 : Try.prog.cellsOf 134 = 65 := by kernel_rfl
  generalize (ci 0 :: List.replicate 64 (.int .u8 0)).toArray = Z0 at hz
  unfold Instr.buildSlice
  simp only [Sem.run_bind, run_underlying Try.u128, Result.andThen_ok, run_sizeOf w j1, c65, Nat.one_mul]
  rw [if_neg (by omega), if_neg (by omega)]
  simp only [Sem.run_bind, hz, Result.andThen_ok, Sem.run_pure]
  rw [hf _ (by simp)]
  simp [newRow]
theorem step_wp {P : Program} {ops : Array Oper} {o : Oper} {a : Act} {w : World} {K : Act → World → Prop} {Q : Exit → Act → World → Prop} {E : Prop} (hgd : o.guard = none) (h : Oper.wp P o a w K Q) :
    if Region.wanted o (yielded ops a.tmps) = true then Oper.wp P o a w K Q else E := by
  rw [if_pos (by simp [Region.wanted, hgd])]
  exact h
theorem wp_load_sec {o : Oper} {a : Act} {w : World} {K : Act → World → Prop} {Q : Exit → Act → World → Prop} (x : Operand) (ho : o.op = .load 132 x) (b off : Nat) (hx : a.eval x = .pointer (some ⟨b, off, none⟩))
    (l : List (BitVec 8)) (hl : l.length = 64) (hr : w.rangeAt b off (l.map cb)) (h : K (a.put o.dst (.agg (V cb l))) w) : Oper.wp Try.prog o a w K Q := by
  rw [V_eq] at h
  exact wp_load_mid (P := Try.prog) 132 x ho b off hx (l.map cb) _ hr Try.u132 rfl (by rw [List.length_map, hl]; exact Try.size132) h
theorem wp_build_pend {o : Oper} {a : Act} {w : World} {K : Act → World → Prop} {Q : Exit → Act → World → Prop} (x y : Operand) (ho : o.op = .build 134 #[(0, x), (1, y)]) (at' : Nat) (l : List (BitVec 8)) (hx : a.eval x = ci at') (hy : a.eval y = .agg (V cb l)) (hl : l.length = 64)
    (h : K (a.put o.dst (.agg (pc (at', l)).toArray)) w) : Oper.wp Try.prog o a w K Q := by
  unfold Oper.wp execOp
  simp only [ho, List.map_toArray, List.map_cons, List.map_nil, hx, hy, Sem.run_bind, build_run at' l hl w, Result.andThen_ok]
  exact h
theorem wp_slice_pend {o : Oper} {a : Act} {w : World} {K : Act → World → Prop} {Q : Exit → Act → World → Prop} (x : Operand) (ho : o.op = .buildSlice 128 1 #[(0, x)]) (p : Nat × List (BitVec 8)) (hx : a.eval x = .agg (pc p).toArray) (hl : p.2.length = 64)
    (h : K (a.put o.dst (.slice (some ⟨w.heap.size, 0, none⟩) 1 1)) (w.alloc (.cells (pc p).toArray 134))) : Oper.wp Try.prog o a w K Q := by
  unfold Oper.wp execOp
  simp only [ho, List.map_toArray, List.map_cons, List.map_nil, hx, Sem.run_bind, buildSlice_run p hl w, Result.andThen_ok]
  exact h
theorem wp_append_pend {o : Oper} {a : Act} {w : World} {K : Act → World → Prop} {Q : Exit → Act → World → Prop} (s x : Operand) (ho : o.op = .call { callee := .builtin .append, args := #[s, x], argTypes := #[128, 128] })
    (B : Nat) (rv : Value) (R : List (Nat × List (BitVec 8))) (hs : a.eval s = rv) (hown : w.ownsRow B 134 65 rv R.length (pcs R)) (b c : Nat) (p : Nat × List (BitVec 8)) (hx : a.eval x = .slice (some ⟨b, 0, none⟩) 1 c) (hb : Blk w b (pc p).toArray 134) (hl : p.2.length = 64)
    (hn : (R.length + 1) * 72 ≤ 140737488355328) (hB : B ≤ w.heap.size)
    (h : ∀ rv' w', w'.ownsRow B 134 65 rv' (R ++ [p]).length (pcs (R ++ [p])) → w.grownBy w' rv.ownBlock → (rv'.ownBlock = rv.ownBlock ∨ rv'.ownBlock = some w.heap.size) → K (a.put o.dst rv') w') : Oper.wp Try.prog o a w K Q := by
  obtain ⟨i, j1, j2, j3, j4⟩ := info_parts Try.info134
  obtain ⟨v', w', hr, h2, h3, _, h5⟩ := run_append_own_at (P := Try.prog) w B 128 o.type 134 i _ 65 72 Try.u128 j1 j2 j3 j4 (by simp [Value.cells]) (by decide) rv R.length (pcs R) hown ⟨b, 0, none⟩ 1 c (pc p) (by unfold pc; simp [hl])
    (fun j u hj => by
      rw [Addr.add_mid, Nat.zero_add, hb.cell]
      simpa using hj)
    (fun u hu => by
      unfold pc at hu
      rcases List.mem_cons.1 hu with rfl | hu
      · rfl
      · obtain ⟨y, _, rfl⟩ := List.mem_map.1 hu; rfl) (by unfold maxLen; omega) hn hB
  have e : pcs R ++ pc p = pcs (R ++ [p]) := by unfold pcs; rw [List.flatMap_append]; simp
  unfold Oper.wp execOp
  simp only [ho, resolve, invoke, builtin, Sem.run_bind, Sem.run_pure, Result.andThen_ok, List.map_toArray, List.map_cons, List.map_nil, hs, hx, hr]
  refine h v' w' ?_ h3 h5
  rw [List.length_append, List.length_singleton, ← e]
  exact h2
/-- a sector written in its place -/
def putS (S : List (BitVec 8)) (i : Nat) (l : List (BitVec 8)) : List (BitVec 8) := S.take (64 * i) ++ l ++ S.drop (64 * i + 64)
theorem putS_len {S l : List (BitVec 8)} {n i : Nat} (h : S.length = 64 * n) (hi : i < n) (hl : l.length = 64) : (putS S i l).length = 64 * n := by
  unfold putS
  rw [List.length_append, List.length_append, List.length_take, List.length_drop]
  omega
theorem wp_store_sec {o : Oper} {a : Act} {w : World} {K : Act → World → Prop} {Q : Exit → Act → World → Prop} (x y : Operand) (ho : o.op = .store 132 x y) (sb i : Nat) (hx : a.eval x = .pointer (some ⟨sb, i * 64, none⟩))
    (S l : List (BitVec 8)) (n : Nat) (hy : a.eval y = .agg (V cb l)) (hl : l.length = 64) (hb : Blk w sb (V cb S) 132) (hS : S.length = 64 * n) (hi : i < n)
    (h : ∀ w', Blk w' sb (V cb (putS S i l)) 132 → w.grownBy w' (some sb) → K (a.put o.dst undef) w') : Oper.wp Try.prog o a w K Q := by
  have hst := run_storeCells_at Try.prog sb (i * 64) 132 (l.map cb) 0 (V cb S) w hb (by rw [V_size, List.length_map]; omega) (fun v hv => by obtain ⟨x, _, rfl⟩ := List.mem_map.1 hv; rfl)
  simp only [Nat.add_zero] at hst
  have hrow : ((V cb S).toList.take (i * 64) ++ l.map cb ++ (V cb S).toList.drop (i * 64 + (l.map cb).length)).toArray = V cb (putS S i l) := by
    apply Array.ext'
    rw [V_toList, V_toList, List.length_map, hl, Nat.mul_comm i 64]
    unfold putS
    simp [List.map_take, List.map_drop]
  rw [hrow] at hst
  have hsv : (storeVar 132 ⟨sb, i * 64, none⟩ (.agg (V cb l))).run Try.prog w = .ok () (w.setRow sb (V cb (putS S i l))) := by
    have h132 := Try.size132
    cases hq : Try.prog.info? 132 with
    | none => rw [hq] at h132; cases h132
    | some q =>
      rw [hq] at h132
      have hs : q.size = 64 := by simpa using h132
      have hc : (Value.agg (V cb l)).cells = V cb l := rfl
      have hz : (V cb l).size = 64 := by rw [V_size, hl]
      unfold storeVar
      rw [hc]
      simp [sizeOf, typeInfo, hq, hs, hz, V_toList, hst]
  unfold Oper.wp execOp
  simp only [ho, hx, hy, Instr.storeAt, Instr.sureAddr, Sem.run_bind, Sem.run_pure, Result.andThen_ok, hsv]
  exact h _ (setRow_heap w sb _ _ 132 (0, 0) hb) ⟨rfl, rfl, rfl, by simp [World.setRow], fun k _ hk => setRow_other w sb k _ (fun e => hk (by rw [e]))⟩
/- the same in plain lists, and in a region's reading head -/
theorem wpList_load_sec {ops : Array Oper} {rest : List Oper} {o : Oper} {a : Act} {w : World} {Q : Exit → Act → World → Prop} (hgd : o.guard = none) (x : Operand) (ho : o.op = .load 132 x) (b off : Nat) (hx : a.eval x = .pointer (some ⟨b, off, none⟩))
    (l : List (BitVec 8)) (hl : l.length = 64) (hr : w.rangeAt b off (l.map cb)) (h : wpList Try.prog ops Q rest (a.put o.dst (.agg (V cb l))) w) : wpList Try.prog ops Q (o :: rest) a w :=
  wpList_plain hgd fun K hK => wp_load_sec x ho b off hx l hl hr (hK _ _ h)
theorem wpList_slice_pend {ops : Array Oper} {rest : List Oper} {o : Oper} {a : Act} {w : World} {Q : Exit → Act → World → Prop} (hgd : o.guard = none) (x : Operand) (ho : o.op = .buildSlice 128 1 #[(0, x)]) (p : Nat × List (BitVec 8)) (hx : a.eval x = .agg (pc p).toArray) (hl : p.2.length = 64)
    (h : wpList Try.prog ops Q rest (a.put o.dst (.slice (some ⟨w.heap.size, 0, none⟩) 1 1)) (w.alloc (.cells (pc p).toArray 134))) : wpList Try.prog ops Q (o :: rest) a w :=
  wpList_plain hgd fun K hK => wp_slice_pend x ho p hx hl (hK _ _ h)
theorem wpList_append_pend {ops : Array Oper} {rest : List Oper} {o : Oper} {a : Act} {w : World} {Q : Exit → Act → World → Prop} (hgd : o.guard = none) (s x : Operand) (ho : o.op = .call { callee := .builtin .append, args := #[s, x], argTypes := #[128, 128] })
    (B : Nat) (rv : Value) (R : List (Nat × List (BitVec 8))) (hs : a.eval s = rv) (hown : w.ownsRow B 134 65 rv R.length (pcs R)) (b c : Nat) (p : Nat × List (BitVec 8)) (hx : a.eval x = .slice (some ⟨b, 0, none⟩) 1 c) (hb : Blk w b (pc p).toArray 134) (hl : p.2.length = 64)
    (hn : (R.length + 1) * 72 ≤ 140737488355328) (hB : B ≤ w.heap.size)
    (h : ∀ rv' w', w'.ownsRow B 134 65 rv' (R ++ [p]).length (pcs (R ++ [p])) → w.grownBy w' rv.ownBlock → (rv'.ownBlock = rv.ownBlock ∨ rv'.ownBlock = some w.heap.size) → wpList Try.prog ops Q rest (a.put o.dst rv') w') : wpList Try.prog ops Q (o :: rest) a w :=
  wpList_plain hgd fun K hK => wp_append_pend s x ho B rv R hs hown b c p hx hb hl hn hB fun rv' w' h1 h2 h3 => hK _ _ (h rv' w' h1 h2 h3)
theorem wpList_store_sec {ops : Array Oper} {rest : List Oper} {o : Oper} {a : Act} {w : World} {Q : Exit → Act → World → Prop} (hgd : o.guard = none) (x y : Operand) (ho : o.op = .store 132 x y) (sb i : Nat) (hx : a.eval x = .pointer (some ⟨sb, i * 64, none⟩))
    (S l : List (BitVec 8)) (n : Nat) (hy : a.eval y = .agg (V cb l)) (hl : l.length = 64) (hb : Blk w sb (V cb S) 132) (hS : S.length = 64 * n) (hi : i < n)
    (h : ∀ w', Blk w' sb (V cb (putS S i l)) 132 → w.grownBy w' (some sb) → wpList Try.prog ops Q rest (a.put o.dst undef) w') : wpList Try.prog ops Q (o :: rest) a w :=
  wpList_plain hgd fun K hK => wp_store_sec x y ho sb i hx S l n hy hl hb hS hi fun w' h1 h2 => hK _ _ (h w' h1 h2)
theorem wpStill_run {P : Program} {ops : Array Oper} {rest : List Oper} {o : Oper} {a : Act} {w : World} {Q : Act → Prop} {v : Value} (hgd : o.guard = none) (hr : (execOp a.eval o).run P w = .ok (.value v) w) (h : wpStill P ops w Q rest (a.put o.dst v)) : wpStill P ops w Q (o :: rest) a := by
  unfold wpStill
  rw [if_pos (by simp [Region.wanted, hgd])]
  unfold Oper.still
  rw [hr]
  exact ⟨rfl, h⟩
theorem wpStill_load_sec {ops : Array Oper} {rest : List Oper} {o : Oper} {a : Act} {w : World} {Q : Act → Prop} (hgd : o.guard = none) (x : Operand) (ho : o.op = .load 132 x) (b off : Nat) (hx : a.eval x = .pointer (some ⟨b, off, none⟩))
    (l : List (BitVec 8)) (hl : l.length = 64) (hr : w.rangeAt b off (l.map cb)) (h : wpStill Try.prog ops w Q rest (a.put o.dst (.agg (V cb l)))) : wpStill Try.prog ops w Q (o :: rest) a := by
  refine wpStill_run hgd ?_ h
  unfold execOp
  simp only [ho, hx, Sem.run_bind, load_sec hr hl, Result.andThen_ok]
  rfl
theorem wpStill_build_pend {ops : Array Oper} {rest : List Oper} {o : Oper} {a : Act} {w : World} {Q : Act → Prop} (hgd : o.guard = none) (x y : Operand) (ho : o.op = .build 134 #[(0, x), (1, y)]) (at' : Nat) (l : List (BitVec 8)) (hx : a.eval x = ci at') (hy : a.eval y = .agg (V cb l)) (hl : l.length = 64)
    (h : wpStill Try.prog ops w Q rest (a.put o.dst (.agg (pc (at', l)).toArray))) : wpStill Try.prog ops w Q (o :: rest) a := by
  refine wpStill_run hgd ?_ h
  unfold execOp
  simp only [ho, List.map_toArray, List.map_cons, List.map_nil, hx, hy, Sem.run_bind, build_run at' l hl w, Result.andThen_ok]
  rfl
end Go.Proofs.Ytjcbmlpfpcpakaa
