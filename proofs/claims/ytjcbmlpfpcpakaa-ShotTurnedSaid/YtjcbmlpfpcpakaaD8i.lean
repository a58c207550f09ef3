/- Layer 8 (disk): loaded disks. -/
import Derived.Test.YtjcbmlpfpcpakaaD8h
namespace Go.Proofs.Ytjcbmlpfpcpakaa
open Go.RowKit
set_option linter.unusedVariables false
theorem arrayAt_run (b o m c : Nat) (hm : 64 ≤ m) (w : World) : (Instr.arrayAt 132 (.slice (some ⟨b, o, none⟩) m c)).run Try.prog w = .ok (.pointer (some ⟨b, o, none⟩)) w := by
  have h : ¬ m < 64 := by omega
  unfold Instr.arrayAt
  simp [Sem.run_bind, run_underlying Try.u132, Result.andThen_ok, h]
theorem slice36_run (b o m c l : Nat) (h1 : l ≤ m) (h3 : l < c) (w : World) : (Instr.sliceAt 36 (.slice (some ⟨b, o, none⟩) m c) (some (ci l)) none none).run Try.prog w = .ok (.slice (some ⟨b, o + l, none⟩) (m - l) (c - l)) w := by
  have h4 : ¬ c = l := by omega
  have h2 : (0 : Int) ≤ (l : Int) ∧ (l : Int) ≤ (m : Int) := by omega
  obtain ⟨i, j1, j2, j3, j4⟩ := info_parts Try.info5
  simp [Instr.sliceAt, Instr.slice, run_underlying Try.u36, Instr.sliceBounds, Instr.sliceBound, asIntOf, h2, h1, h4, go_sem, sizeOf, typeInfo, j1, j3, Addr.add_mid]
theorem exec_slice36 {a : Operand → Value} {ds : Option Nat} {ty : TypeId} {ps : String} {af : Array Edge} {gd : Option (Nat × Bool)} {w : World} {x y : Operand} (b o m c l : Nat) (h1 : l ≤ m) (h3 : l < c) (hx : a x = .slice (some ⟨b, o, none⟩) m c) (hy : a y = ci l) :
    (execOp a ⟨ds, .slice 36 x (some y) none none, ty, ps, af, gd⟩).run Try.prog w = .ok (.value (.slice (some ⟨b, o + l, none⟩) (m - l) (c - l))) w := by
  unfold execOp
  simp only [hx, hy, Option.map_some, Option.map_none, Sem.run_bind, slice36_run b o m c l h1 h3, Result.andThen_ok]
  rfl
theorem exec_array_ge {a : Operand → Value} {ds : Option Nat} {ty : TypeId} {ps : String} {af : Array Edge} {gd : Option (Nat × Bool)} {w : World} {x : Operand} (b o m c : Nat) (h1 : 64 ≤ m) (hx : a x = .slice (some ⟨b, o, none⟩) m c) :
    (execOp a ⟨ds, .sliceToArrayPointer 132 x, ty, ps, af, gd⟩).run Try.prog w = .ok (.value (.pointer (some ⟨b, o, none⟩))) w := by
  unfold execOp
  simp only [hx, Sem.run_bind, arrayAt_run b o m c h1, Result.andThen_ok]
  rfl
theorem range_sec {w : World} {b o n k : Nat} {img : List (BitVec 8)} (h : w.rangeAt b o (img.map cb)) (hl : img.length = 64 * n) (hk : k < n) : w.rangeAt b (o + k * 64) ((sec img k).map cb) := fun j v hv => by
  obtain ⟨hj, rfl⟩ := List.getElem?_eq_some_iff.1 hv
  rw [List.length_map, sec_len hl hk] at hj
  rw [show o + k * 64 + j = o + (64 * k + j) by omega]
  refine h _ _ ?_
  rw [List.getElem?_map, ← sec_get hl hk hj, List.getElem_map, List.getElem?_eq_getElem (by rw [sec_len hl hk]; exact hj)]
  rfl
def loadD (img : List (BitVec 8)) : Dk := ⟨img.length / 64, img, [], false, 0, 0, 0⟩
def loadK (n k : Nat) (img : List (BitVec 8)) : List (BitVec 8) := img.take (64 * k) ++ List.replicate (64 * (n - k)) 0#8
theorem loadK_len {n k : Nat} {img : List (BitVec 8)} (h : img.length = 64 * n) (hk : k ≤ n) : (loadK n k img).length = 64 * n := by
  unfold loadK
  rw [List.length_append, List.length_take, List.length_replicate]
  omega
theorem loadK_step {n k : Nat} {img : List (BitVec 8)} (h : img.length = 64 * n) (hk : k < n) : putS (loadK n k img) k (sec img k) = loadK n (k + 1) img := by
  have h1 : (img.take (64 * k)).length = 64 * k := by rw [List.length_take]; omega
  unfold putS loadK
  rw [take_sec, List.take_append_of_le_length (by omega), List.take_of_length_le (by omega), List.drop_append, h1, List.drop_eq_nil_of_le (by omega), List.nil_append]
  rw [show 64 * k + 64 - 64 * k = 64 by omega, List.drop_replicate, show 64 * (n - k) - 64 = 64 * (n - (k + 1)) by omega]
set_option maxRecDepth 100000 in
set_option maxHeartbeats 2000000 in
theorem load_ok {w : World} (b o c : Nat) (img : List (BitVec 8)) (n : Nat) (h1 : 1 ≤ n) (h2 : n ≤ 65536) (hl : img.length = 64 * n) (hr : w.rangeAt b o (img.map cb)) (hc : 64 * n ≤ c) :
    Calls Try.prog 36 #[.slice (some ⟨b, o, none⟩) (64 * n) c] w fun e w' => e = .returned (.tuple #[.pointer (some ⟨w.heap.size + 1, 0, none⟩), ci 0]) ∧ Ext w w' ∧ DB w' w.heap.size (w.heap.size + 1) w.heap.size (.slice none 0 0) ⟨n, img, [], false, 0, 0, 0⟩ := by
  have hmk := make_run n h2
  have hq : ((64 * n : Nat) : Int) / 64 = (n : Int) := by omega
  have hf1 : decide ((n : Int) < 1) = false := decide_eq_false (by omega)
  have hf2 : decide (65536 < (n : Int)) = false := decide_eq_false (by omega)
  have hf3 : (64 * (n : Int) != (n : Int) * 64) = false := by simp; omega
  have HR := Lib.hid hr
  have HL := Lib.hid hl
  have hnn : (n : Int) ≤ 65536 := by omega
  have h1' : 1 ≤ (n : Int) := by omega
  clear hr hl
  go_enter Try.func36, Try.ntmps36
  go_wp2_with fail
  have HI := Lib.hid (show Ext w ((w.alloc (.cells (V cb (List.replicate (64 * n) 0#8)) 132)).alloc (.cells (dc (newD n) w.heap.size (.slice none 0 0)) 130)) from ((Ext.refl w).alloc _).alloc _)
  have b1 := (Blk.new w (V cb (List.replicate (64 * n) 0#8)) 132).alloc (.cells (dc (newD n) w.heap.size (.slice none 0 0)) 130)
  have b2 := Blk.new (w.alloc (.cells (V cb (List.replicate (64 * n) 0#8)) 132)) (dc (newD n) w.heap.size (.slice none 0 0)) 130
  have hz : (w.alloc (.cells (V cb (List.replicate (64 * n) 0#8)) 132)).heap.size = w.heap.size + 1 := Array.size_push _
  rw [hz] at b2
  have HB1 := Lib.hid b1
  have HB2 := Lib.hid b2
  clear b1 b2 hz
  go_loopw [32] (fun iv wx => ∃ k : Nat, k ≤ n ∧ iv = ci k ∧ Hid (Ext w wx ∧ Blk wx w.heap.size (V cb (loadK n k img)) 132 ∧ Blk wx (w.heap.size + 1) (dc (newD n) w.heap.size (.slice none 0 0)) 130)) (fun iv _ => ((n : Int) - intOf iv).toNat)
  case atStart => exact ⟨0, Nat.zero_le _, rfl, HI.out, by unfold loadK; rw [Nat.mul_zero, List.take_zero, List.nil_append, Nat.sub_zero]; exact HB1.out, HB2.out⟩
  case round =>
    clear HI HB1 HB2 hmk hf1 hf2
    obtain ⟨k, hk, rfl, hU⟩ := hrel
    by_cases hlt : k < n
    · have hlt' : (k : Int) < n := by omega
      have c0 : wr.cell? ⟨w.heap.size + 1, 0, none⟩ = some (.slice (some ⟨w.heap.size, 0, none⟩) n n) := hU.out.2.2.cell 0
      have c0' : wr.drew.cell? ⟨w.heap.size + 1, 0, none⟩ = some (.slice (some ⟨w.heap.size, 0, none⟩) n n) := hU.out.2.2.cell 0
      have hl := Lib.hid (sec_len HL.out hlt)
      have hg0 : IntKind.i64.wrap ((k : Int) * 64) = (k : Int) * 64 := by rw [IntKind.wrap_i64]; omega
      have hg3 : ((64 * n : Nat) : Int) = 64 * (n : Int) := by omega
      have hg1 : ((k : Int) * 64).toNat = k * 64 := by omega
      have hg2 : k * 64 ≤ 64 * n := by omega
      go_upto_region 8 with (fail)
      refine wp_region_still_tail 12 follows_mixed (by kernel_rfl) ?_
      simp only [List.take_succ_cons, List.take_zero, List.drop_succ_cons, List.drop_zero]
      still_step
      still_step
      still_step
      still_step
      still_step
      still_step
      still_step
      still_step
      refine wpStill_run (v := .slice (some ⟨b, o + k * 64, none⟩) (64 * n - k * 64) (c - k * 64)) rfl ?_ ?_
      · refine exec_slice36 b o (64 * n) c (k * 64) (by omega) (by omega) rfl ?_
        exact congrArg ci (by omega)
      refine wpStill_run rfl (exec_array_ge b (o + k * 64) (64 * n - k * 64) (c - k * 64) (by omega) ?_) ?_
      · rfl
      refine wpStill_load_sec rfl _ rfl b (o + k * 64) rfl (sec img k) hl.out ?_ ?_
      · exact range_sec (range_ext HR.out hU.out.1.drew) HL.out hlt
      still_step
      refine wpStill_nil ?_
      change wpList _ _ _ _ _ (World.drew wr)
      refine wpList_store_sec rfl _ _ rfl w.heap.size k rfl (loadK n k img) (sec img k) n rfl hl.out hU.out.2.1.drew (loadK_len HL.out hk) hlt fun w3 B3 G3 => ?_
      have HB3 := Lib.hid B3
      have HG3 := Lib.hid G3
      clear B3 G3 c0 c0'
      go_wp2_with fail
      refine ⟨⟨k + 1, hlt, by simp, Lib.hid ⟨hU.out.1.drew.grown1 HG3.out (Nat.le_refl _), ?_, hU.out.2.2.drew.grown HG3.out (by simp)⟩⟩, by simp only [intOf]; omega⟩
      rw [← loadK_step HL.out hlt]
      exact HB3.out
    · have hek : k = n := by omega
      subst hek
      go_wp2_with fail
      go_ret2
      have q := hU.out.2.1
      have e : loadK k k img = img := by unfold loadK; rw [List.take_of_length_le (by rw [HL.out]; exact Nat.le_refl _), Nat.sub_self, Nat.mul_zero, List.replicate_zero, List.append_nil]
      rw [e] at q
      exact ⟨rfl, hU.out.1, hU.out.2.2, q, ⟨by simp [pcs], Or.inl ⟨rfl, rfl⟩⟩, ⟨h1, h2, HL.out, fun p hp => by cases hp⟩⟩
end Go.Proofs.Ytjcbmlpfpcpakaa
