/- Layer 7 (dice): shuffles and picks as they write; a full row that grows. -/
import Derived.Test.YtaneknfhilfalaaD7g
namespace Go.Proofs.Ytaneknfhilfalaa
open Go.RowKit
set_option linter.unusedVariables false

abbrev DB (w : World) (b : Nat) (s : BitVec 64) : Prop := Blk w b #[.int .u64 (Bv s)] 69
theorem DB.die {w : World} {b : Nat} {s : BitVec 64} (h : DB w b s) : Die w b s := ⟨h.cell 0, h.free 0⟩
theorem DB.next {w : World} {b : Nat} {s s' : BitVec 64} (h : DB w b s) : DB (w.setCell ⟨b, 0, none⟩ (.int .u64 (Bv s'))) b s' := h.set 0 _
theorem grown_drewN {w w' : World} {row : Option Nat} (h : w.grownBy w' row) (k : Nat) : w.grownBy (w'.drewN k) row := ⟨h.os, h.tape, h.output, h.size, h.block⟩
theorem grown_alloc {w w' : World} {row : Option Nat} (h : w.grownBy w' row) (o : Obj) : w.grownBy (w'.alloc o) row :=
  ⟨h.os, h.tape, h.output, Nat.le_trans h.size (by simp), fun k hk hne => ((Ext.of_alloc (w := w') o).block (Nat.lt_of_lt_of_le hk h.size)).trans (h.block k hk hne)⟩
theorem shuf_len (n : Nat) (s : BitVec 64) (h1 : 1 ≤ n) (h2 : n ≤ 65536) : (shuf (n - 1) (upto n) s).1.length = n := by
  have h := (shuf_perm (n - 1) (upto n) s (by rw [upto_len]; omega) (by rw [upto_len]; omega)).length_eq
  rw [h, upto_len]
theorem shuffle_own (b : Nat) (s : BitVec 64) (n : Nat) (h1 : 1 ≤ n) (h2 : n ≤ 65536) (w : World) (h : DB w b s) :
    Calls Try.prog 29 #[.pointer (some ⟨b, 0, none⟩), .int .i64 n] w fun e w' => e = .returned (.slice (some ⟨w.heap.size, 0, none⟩) n n) ∧
      DB w' b (shuf (n - 1) (upto n) s).2 ∧ Blk w' w.heap.size (V ci (shuf (n - 1) (upto n) s).1) 3 ∧ w.grownBy w' (some b) ∧ w.heap.size < w'.heap.size := by
  refine (shuffle_calls b s n h1 h2 w h.die).mono fun e w' ⟨he, k, hw⟩ => ?_
  subst hw
  have hs : (w.setCell ⟨b, 0, none⟩ (.int .u64 (Bv (shuf (n - 1) (upto n) s).2))).heap.size = w.heap.size := by simp [World.setCell]
  refine ⟨he, ?_, ?_, ?_, ?_⟩
  · exact Blk.ext (Blk.alloc h.next _) ((Ext.refl _).drewN k)
  · have := Blk.new (w.setCell ⟨b, 0, none⟩ (.int .u64 (Bv (shuf (n - 1) (upto n) s).2))) (V ci (shuf (n - 1) (upto n) s).1) 3
    rw [hs] at this
    exact Blk.ext this ((Ext.refl _).drewN k)
  · exact grown_drewN (grown_alloc (grown_set _ _ _ _) _) k
  · show w.heap.size < ((w.setCell _ _).alloc _).heap.size
    rw [World.size_alloc, hs]; omega
theorem pick_own (b : Nat) (s : BitVec 64) (wv : Value) (ws : List Nat) (w : World) (hd : DB w b s) (hw : Rd w cf wv ws) (hb : ∀ x ∈ ws, x < 18446744073709551616) (hm : ws.length ≤ 9223372036854775807) :
    Calls Try.prog 31 #[.pointer (some ⟨b, 0, none⟩), wv] w fun e w' => e = .returned (.tuple #[ci (pick ws s).1, ci (pick ws s).2.1]) ∧ DB w' b (pick ws s).2.2 ∧ w.grownBy w' (some b) := by
  refine (pick_calls b s wv ws w hd.die hw hb hm).mono fun e w' ⟨he, k, hwk⟩ => ?_
  subst hwk
  exact ⟨he, Blk.ext hd.next ((Ext.refl _).drewN k), grown_drewN (grown_set _ _ _ _) k⟩
/-- one element more behind a row that is full: new memory, nothing else is touched -/
theorem wpList_append_full {P : Program} {α : Type} (f : α → Value) {ops : Array Oper} {rest : List Oper} {o : Oper} {a : Act} {w : World} {Q : Exit → Act → World → Prop} (hgd : o.guard = none) (s x : Operand) (t : TypeId)
    (ho : o.op = .call { callee := .builtin .append, args := #[s, x], argTypes := #[t, t] })
    (e : TypeId) (i : TypeInfo) (z : Value) (bytes : Nat) (ht : P.underlying t = some (.slice e)) (hi : P.info? e = some i) (hz : i.zero = some z)
    (hsize : i.size = 1) (hby : i.bytes = bytes) (hzs : z.cells.size = 1)
    (A n : Nat) (l : List α) (hn : l.length = n) (hs : a.eval s = .slice (some ⟨A, 0, none⟩) n n) (hb : Blk w A (V f l) e) (g c : Nat) (y : α) (hx : a.eval x = .slice (some ⟨g, 0, none⟩) 1 c) (hg : w.cell? ⟨g, 0, none⟩ = some (f y))
    (hbytes : (n + 1) * bytes ≤ 140737488355328) (h63 : n + 1 ≤ maxLen)
    (h : ∀ v' w', Own w' w.heap.size e f v' (l ++ [y]) → Ext w w' → w.heap.size < w'.heap.size → wpList P ops Q rest (a.put o.dst v') w') : wpList P ops Q (o :: rest) a w := by
  subst hn
  refine wpList_plain hgd fun K hK => ?_
  have hge := grownCap_ge w (l.length + 1) l.length e
  have hcm : grownCap w (l.length + 1) l.length e ≤ maxLen := grownCap_le_maxLen w (l.length + 1) l.length e h63
  have hr := run_append_grow (P := P) w t o.type e i z ht hi hz ⟨A, 0, none⟩ l.length l.length (l.map f) (by rw [hsize]; simp) (fun j v hj => by
      rw [Addr.add_mid, Nat.zero_add, hb.cell, V_get, ← List.getElem?_map]; exact hj) ⟨g, 0, none⟩ 1 c [f y] (by rw [hsize]; rfl) (fun j v hj => by
      match j, hj with
      | 0, hj =>
        simp at hj
        subst hj
        simpa [Addr.add] using hg) (by omega) (by simp only [maxLen] at h63; omega) (by rw [hby]; exact growslice_fits (by omega) hbytes)
  have hown : Own (w.drew.alloc (.cells ((l.map f).toArray ++ [f y].toArray ++ Builtin.zeroCells z.cells (grownCap w (l.length + 1) l.length e - (l.length + 1))) e)) w.heap.size e f (.slice (some ⟨w.heap.size, 0, none⟩) (l.length + 1) (grownCap w (l.length + 1) l.length e)) (l ++ [y]) := by
    unfold Own
    rw [List.length_append, List.length_singleton, List.map_append]
    refine ⟨by simp, .inr ⟨w.heap.size, _, _, rfl, Nat.le_refl _, heap_alloc_new w.drew _, hge, hcm, ?_, ?_⟩⟩
    · simp only [Array.size_append, List.size_toArray, size_zeroCells, hzs, List.length_map, List.length_singleton]
      omega
    · simp only [Array.toList_append, List.append_assoc]
      rw [← List.append_assoc]
      have : (l.map f ++ [f y]).length = (l.length + 1) * 1 := by simp
      rw [← this]
      exact List.take_left
  unfold Oper.wp execOp
  simp only [ho, resolve, invoke, builtin, Sem.run_bind, Sem.run_pure, Result.andThen_ok, List.map_toArray, List.map_cons, List.map_nil, hs, hx, hr]
  exact hK _ _ (h _ _ hown ((Ext.refl w).drew.alloc _) (by show w.heap.size < (w.alloc _).heap.size; simp))
/-- the first k places hold c, c + 1 .. -/
def fillF (c : Int) (k : Nat) (l : List Int) : List Int := ((List.range k).map fun j : Nat => c + j) ++ l.drop k
theorem fillF_zero (c : Int) (l : List Int) : fillF c 0 l = l := by simp [fillF]
theorem fillF_len (c : Int) (k : Nat) (l : List Int) (h : k ≤ l.length) : (fillF c k l).length = l.length := by simp [fillF]; omega
theorem fillF_set (c : Int) (k : Nat) (l : List Int) (h : k < l.length) : (fillF c k l).set k (c + k) = fillF c (k + 1) l := by
  unfold fillF
  rw [List.set_append_right _ _ (by simp), List.length_map, List.length_range, Nat.sub_self, List.range_succ, List.map_append, List.append_assoc]
  congr 1
  rw [List.drop_eq_getElem_cons h, List.set_cons_zero]
  rfl
theorem fillF_all (c : Int) (l : List Int) : fillF c l.length l = (List.range l.length).map fun j : Nat => c + j := by simp [fillF]
def cnt (c : Int) (n : Nat) : List Int := (List.range n).map fun j : Nat => c + j
theorem cnt_len (c : Int) (n : Nat) : (cnt c n).length = n := by simp [cnt]
theorem cnt_get (c : Int) (n i : Nat) (h : i < (cnt c n).length) : (cnt c n)[i] = c + i := by simp [cnt]
theorem cnt_succ (c : Int) (n : Nat) : cnt c (n + 1) = cnt c n ++ [c + n] := by unfold cnt; rw [List.range_succ, List.map_append]; rfl
end Go.Proofs.Ytaneknfhilfalaa
