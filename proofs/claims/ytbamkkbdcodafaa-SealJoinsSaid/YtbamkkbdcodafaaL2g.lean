/- SealJoins: the walk of the law. -/
import Derived.Test.YtbamkkbdcodafaaS2m
import Derived.Test.YtbamkkbdcodafaaS2i
import Derived.Test.YtbamkkbdcodafaaEqa
import Derived.Deep.RegionWith
namespace Go.Proofs.Ytbamkkbdcodafaa
open Go.RowKit
set_option linter.unusedVariables false

theorem four_of' {α : Type} (l : List α) (h : l.length = 4) : ∃ a b c d, l = [a, b, c, d] := by
  match l, h with
  | [a, b, c, d], _ => exact ⟨a, b, c, d, rfl⟩
theorem heap_second' (w : World) (A B : Obj) : ((w.alloc A).alloc B).heap[w.heap.size + 1]? = some B := by
  have h := heap_alloc_last (w.alloc A) B
  simpa using h
theorem setRow_second' (w : World) (A : Obj) (c c' : Array Value) (t : TypeId) : ((w.alloc A).alloc (.cells c t)).setRow (w.heap.size + 1) c' = (w.alloc A).alloc (.cells c' t) := by
  have h := World.setRow_alloc_new (w.alloc A) c c' t
  simpa using h
set_option maxHeartbeats 1000000 in
theorem joins_walk (a b : BitVec 32) (n : Int) (c : BitVec 8) (W : World) (hn : -9223372036854775808 ≤ n ∧ n ≤ 9223372036854775807) :
    Calls Try.prog 9 #[c32 a, c32 b, .int .i64 n, cb c] W fun e w' => e = .returned (.bool true) ∧ Ext W w' := by
  have H28 := Lib.hid (rjoin_calls a b n hn W)
  have H29 := Lib.hid (rturn_calls a n hn c W)
  have H30 := Lib.hid (rtail_calls a b W)
  have H31 := Lib.hid (fun w => join_calls a b n hn w)
  have H27 := Lib.hid (fun w => turn_calls a n hn c w)
  have H26 := Lib.hid (fun w => tail_calls a b w)
  have HN := Lib.hid hn
  clear hn
  obtain ⟨t, ht⟩ : ∃ t, four8 (tailw a b) = t := ⟨_, rfl⟩
  have h4 : t.length = 4 := by rw [← ht]; exact four8_len _
  have HT := Lib.hid ht
  have H4 := Lib.hid h4
  rw [ht] at H30 H26
  clear ht h4
  obtain ⟨t0, t1, t2, t3, ht'⟩ := four_of' t H4.out
  have ht := Lib.hid ht'
  have hVt : V cb t = #[cb t0, cb t1, cb t2, cb t3] := by rw [ht']; unfold V; rfl
  have HVt := Lib.hid hVt
  have hEq : ∀ w : World, (Op.equalIn 10000 30 (.agg #[cb t0, cb t1, cb t2, cb t3]) (.agg #[cb t0, cb t1, cb t2, cb t3])).run Try.prog w = .ok (decide (t = t)) w := fun w => by
    obtain ⟨i5, j1, _⟩ := info_parts Try.info5
    rw [← hVt]
    exact run_equal_words w 9998 Try.underlying30 Try.underlying5 j1 (by kernel_rfl) t t H4.out H4.out
  rw [show decide (t = t) = true by simp] at hEq
  rw [hVt] at H26
  clear ht' hVt
  go_enter Try.func9, Try.ntmps9
  go_wp2_with (first
    | (go_at_call 28; refine H28.out.mono ?_; clear H28; rintro e w1 ⟨rfl, rfl⟩)
    | (go_at_call 29; refine H29.out.mono ?_; clear H29; rintro e w1 ⟨rfl, rfl⟩)
    | (go_at_call 30; refine H30.out.mono ?_; clear H30; rintro e w1 ⟨rfl, A, rfl⟩)
    | (refine wpList_store_row rfl 30 (.tmp 11) (.tmp 22) rfl (W.heap.size + 1) (V cb t) (V cb (List.replicate 4 0#8)) 30 rfl rfl (by rw [show V cb (List.replicate 4 0#8) = #[.int .u8 0, .int .u8 0, .int .u8 0, .int .u8 0] by unfold V; rfl]; exact heap_second' _ _ _) (by rw [Try.size30, V_size, H4.out]) (by rw [V_size, V_size, H4.out]; rfl) (V_one _ (fun _ => rfl) _) ?_
       rw [setRow_second']
       have e4 : Ext W ((W.alloc A).alloc (.cells (V cb t) 30)) := Ext.of_alloc2 _ _
       have b4 : Blk ((W.alloc A).alloc (.cells (V cb t) 30)) (W.heap.size + 1) (V cb t) 30 := heap_second' _ _ _
       generalize (W.alloc A).alloc (.cells (V cb t) 30) = w5 at *
       obtain ⟨gX, hgX⟩ : ∃ g, W.heap.size + 1 = g := ⟨_, rfl⟩
       have HGX := Lib.hid hgX
       rw [hgX]
       rw [hgX] at b4
       clear hgX
       have d0 : w5.cell? ⟨gX, 0, none⟩ = some (cb t0) := by rw [b4.cell, V_get, ht.out]; rfl
       have d1 : w5.cell? ⟨gX, 1, none⟩ = some (cb t1) := by rw [b4.cell, V_get, ht.out]; rfl
       have d2 : w5.cell? ⟨gX, 2, none⟩ = some (cb t2) := by rw [b4.cell, V_get, ht.out]; rfl
       have d3 : w5.cell? ⟨gX, 3, none⟩ = some (cb t3) := by rw [b4.cell, V_get, ht.out]; rfl
       have E0 := Lib.hid e4
       clear e4 b4)
    | fail)
  simp only [Act.put]
  have hq1 : (decide ((Bv (stn a n ^^^ b) : Int) = Bv (stn a n ^^^ b))) = true := by simp
  have hq2 : (decide ((Bv (trnw a n c) : Int) = Bv (trnw a n c))) = true := by simp
  go_region_with (first
    | (go_at_call 31; refine (H31.out _).mono ?_; clear H31; rintro e x1 ⟨rfl, e1⟩
       have d0 := e1.cell (by simpa using d0); have d1 := e1.cell (by simpa using d1); have d2 := e1.cell (by simpa using d2); have d3 := e1.cell (by simpa using d3)
       have E1 := Lib.hid (E0.out.drew.trans e1)
       clear e1)
    | (go_at_call 27; refine (H27.out _).mono ?_; clear H27; rintro e x2 ⟨rfl, e2⟩
       have d0 := e2.cell (by simpa using d0); have d1 := e2.cell (by simpa using d1); have d2 := e2.cell (by simpa using d2); have d3 := e2.cell (by simpa using d3)
       have E2 := Lib.hid (E1.out.trans e2)
       clear e2)
    | (go_at_call 26; refine (H26.out _).mono ?_; clear H26; rintro e x3 ⟨rfl, A3, h3⟩
       have e3 := Ext.of_alloc (w := x2) A3
       rw [h3] at e3
       have d0 := e3.cell d0; have d1 := e3.cell d1; have d2 := e3.cell d2; have d3 := e3.cell d3
       have E3 := Lib.hid (E2.out.trans e3)
       clear e3 h3))
  all_goals (first | go_ret | (go_wp2_with fail; go_ret))
  all_goals exact ⟨rfl, E3.out⟩
theorem joins_walk' (a b : BitVec 32) (n : Int) (c : BitVec 8) (W : World) (hn : -9223372036854775808 ≤ n ∧ n ≤ 9223372036854775807) :
    Calls Try.prog 9 #[c32 a, c32 b, .int .i64 n, cb c] W fun e w' => e = .returned (.bool true) ∧ Below W.heap.size W w' :=
  (joins_walk a b n c W hn).mono fun e w' h => ⟨h.1, h.2.to⟩
end Go.Proofs.Ytbamkkbdcodafaa
