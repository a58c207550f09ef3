/- Layer 8 (disk): new disks. -/
import Derived.Test.YtjcbmlpfpcpakaaD8g
namespace Go.Proofs.Ytjcbmlpfpcpakaa
open Go.RowKit
set_option linter.unusedVariables false
theorem madeRep (m n : Nat) (v : Value) (hm : 0 < m) : madeCells (List.replicate m v).toArray n = (List.replicate n v).toArray := by
  apply Array.ext
  · simp [madeCells]
  · intro i h1 h2
    have hi : i % m < m := Nat.mod_lt _ hm
    simp only [madeCells, List.size_toArray, List.length_replicate, Array.getElem_map, Array.getElem_range, List.getElem_toArray, List.getElem_replicate]
    rw [getElem!_pos _ _ (by simpa using hi)]
    simp
theorem madeSectors (n : Nat) : madeCells (List.replicate 64 (.int .u8 0)).toArray n = V cb (List.replicate n 0#8) := by
  rw [V_eq, madeRep 64 n _ (by decide), List.map_replicate]
  rfl
theorem Try.u127 : Try.prog.underlying 127 = some (.slice 132) := by kernel_rfl
theorem Try.info132 : (Try.prog.info? 132).map (fun i => (i.zero, i.size, i.bytes)) = some (some (.agg (List.replicate 64 (.int .u8 0)).toArray), 64, 64) := by kernel_rfl
theorem make_run (n : Nat) (hn : n ≤ 65536) (w : World) : (Instr.makeSlice 127 (ci n) (ci n)).run Try.prog w = .ok (.slice (some ⟨w.heap.size, 0, none⟩) n n) (w.alloc (.cells (V cb (List.replicate (64 * n) 0#8)) 132)) := by
  obtain ⟨i, j1, j2, j3, j4⟩ := info_parts Try.info132
  have hr := run_make (P := Try.prog) w 127 132 i _ Try.u127 j1 j2 .i64 .i64 n n (by omega) (by omega) (by rw [j4]; omega) (by omega)
  have hc : (Value.agg (List.replicate 64 (Value.int .u8 0)).toArray).cells = (List.replicate 64 (Value.int .u8 0)).toArray := rfl
  rw [hc, j3, Int.toNat_natCast, madeSectors, Nat.mul_comm n 64] at hr
  exact hr
def newD (n : Nat) : Dk := ⟨n, List.replicate (64 * n) 0#8, [], false, 0, 0, 0⟩
theorem newD_ok {n : Nat} (h1 : 1 ≤ n) (h2 : n ≤ 65536) : (newD n).ok := ⟨h1, h2, by simp [newD], fun p hp => by cases hp⟩
theorem new_refused (n : Int) (w : World) (hn : n < 1 ∨ 65536 < n) : Calls Try.prog 24 #[ci n] w fun e w' => e = .returned (.tuple #[.pointer none, ci 2]) ∧ w = w' := by
  by_cases h0 : n < 1
  · have hf1 : decide (n < 1) = true := decide_eq_true h0
    clear hn
    go_enter Try.func24, Try.ntmps24
    go_wp2_with fail
    go_ret2
    exact ⟨rfl, rfl⟩
  · have hf1 : decide (n < 1) = false := decide_eq_false h0
    have h1 : 65536 < n := by omega
    have hf2 : decide (65536 < n) = true := decide_eq_true h1
    clear hn
    go_enter Try.func24, Try.ntmps24
    go_wp2_with fail
    go_ret2
    exact ⟨rfl, rfl⟩
theorem new_ok (n : Nat) (w : World) (h1 : 1 ≤ n) (h2 : n ≤ 65536) : Calls Try.prog 24 #[ci n] w fun e w' => e = .returned (.tuple #[.pointer (some ⟨w.heap.size + 1, 0, none⟩), ci 0]) ∧ Ext w w' ∧ DB w' w.heap.size (w.heap.size + 1) w.heap.size (.slice none 0 0) (newD n) := by
  have hmk := make_run n h2
  have hf1 : decide ((n : Int) < 1) = false := decide_eq_false (by omega)
  have hf2 : decide (65536 < (n : Int)) = false := decide_eq_false (by omega)
  have h1' : ¬ (n : Int) < 1 := by omega
  have h2' : ¬ 65536 < (n : Int) := by omega
  have HOK := Lib.hid (newD_ok h1 h2)
  go_enter Try.func24, Try.ntmps24
  go_wp2_with fail
  go_ret2
  have e1 : Ext w ((w.alloc (.cells (V cb (List.replicate (64 * n) 0#8)) 132)).alloc (.cells (dc (newD n) w.heap.size (.slice none 0 0)) 130)) := ((Ext.refl w).alloc _).alloc _
  have b1 := (Blk.new w (V cb (List.replicate (64 * n) 0#8)) 132).alloc (.cells (dc (newD n) w.heap.size (.slice none 0 0)) 130)
  have b2 := Blk.new (w.alloc (.cells (V cb (List.replicate (64 * n) 0#8)) 132)) (dc (newD n) w.heap.size (.slice none 0 0)) 130
  have hz : (w.alloc (.cells (V cb (List.replicate (64 * n) 0#8)) 132)).heap.size = w.heap.size + 1 := Array.size_push _
  rw [hz] at b2
  exact ⟨rfl, e1, b2, b1, ⟨by simp [pcs, newD], Or.inl ⟨rfl, rfl⟩⟩, HOK.out⟩
end Go.Proofs.Ytjcbmlpfpcpakaa
