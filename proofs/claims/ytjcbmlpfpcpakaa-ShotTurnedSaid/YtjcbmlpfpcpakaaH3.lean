/- Layer 12 (shot): the walks of the small functions over a disk: read, write, sync, slot; a refusal is a panic. -/
import Derived.Test.YtjcbmlpfpcpakaaH2
import Derived.Test.YtjcbmlpfpcpakaaG1
import Derived.Test.YtjcbmlpfpcpakaaD8n
namespace Go.Proofs.Ytjcbmlpfpcpakaa
open Go.RowKit
set_option linter.unusedVariables false
/-- an object: its cells -/
def sc (g fr size gen : Nat) (dead : Bool) : Array Value := #[.pointer (some ⟨g, 0, none⟩), ci fr, ci size, ci gen, .bool dead]
theorem Sc.cells {w : World} {o g fr size gen : Nat} {dead : Bool} (h : Blk w o (sc g fr size gen dead) 143) :
    w.cell? ⟨o, 0, none⟩ = some (.pointer (some ⟨g, 0, none⟩)) ∧ w.cell? ⟨o, 1, none⟩ = some (ci fr) ∧ w.cell? ⟨o, 2, none⟩ = some (ci size) ∧ w.cell? ⟨o, 3, none⟩ = some (ci gen) ∧ w.cell? ⟨o, 4, none⟩ = some (.bool dead) :=
  ⟨h.cell 0, h.cell 1, h.cell 2, h.cell 3, h.cell 4⟩
abbrev flt (n : Int) : PanicEntry := { v := .iface 177 (ci n), recovered := false }
theorem Try.u146 : Try.prog.underlying 146 = some (.array 64 5) := by kernel_rfl
theorem Try.size146 : (Try.prog.info? 146).map (·.size) = some 64 := by kernel_rfl
theorem A146 : AggT 146 64 (List.replicate 64 (.int .u8 0)).toArray := by
  refine ⟨⟨_, Try.u146, rfl⟩, Try.size146, fun w => ?_, by simp⟩
  have : (Try.prog.info? 146).map (fun i => (i.zero, i.size, i.bytes)) = some (some (.agg (List.replicate 64 (.int .u8 0)).toArray), 64, 64) := by kernel_rfl
  obtain ⟨i, j1, j2, j3, j4⟩ := info_parts this
  simp [zeroValue, typeInfo, j1, j2]
theorem array_run146 (b o c : Nat) (w : World) : (Instr.arrayAt 146 (.slice (some ⟨b, o, none⟩) 64 c)).run Try.prog w = .ok (.pointer (some ⟨b, o, none⟩)) w := by kernel_rfl
theorem V_rangeV {w : World} {b : Nat} {l : List (BitVec 8)} {t : TypeId} (h : Blk w b (V cb l) t) : w.rangeAt b 0 (l.map cb) := by
  rw [V_eq] at h
  exact V_range h
theorem size_map146 (l : List (BitVec 8)) (h : l.length = 64) : (Try.prog.info? 146).map (·.size) = some (V cb l).size := by rw [Try.size146, V_size, h]
theorem Dk.read_len {d : Dk} (h : d.ok) {i : Nat} (hi : i < d.n) : (d.read i).length = 64 := readS_len _ _ _ (sec_len h.s hi) (fun q hq => (h.r q hq).2)
section
variable {w0 w : World} {g sb o fr size gen : Nat} {dead : Bool} {d : Dk}
set_option maxRecDepth 100000 in
theorem sread_ok (h : DX w0 w g sb d) (k : Blk w o (sc g fr size gen dead) 143) (at' : Nat) (hp : powP d = 0) (ha : at' < d.n) :
    Calls Try.prog 99 #[.pointer (some ⟨o, 0, none⟩), ci at'] w fun e w' => e = .returned (.agg (V cb (d.read at'))) ∧ Ext w w' := by
  have H := Lib.hid (fun w1 (e : Ext w w1) => (h.ext e).read at' hp ha)
  have K := Lib.hid k
  have HL := Lib.hid (Dk.read_len h.ok ha)
  have harr := array_run146
  clear h k hp ha
  go_enter Try.func99, Try.ntmps99
  go_wp2_with (first
    | (guard_target =~ wpList _ _ _ (Oper.mk _ (.alloc 146) _ _ _ _ :: _) _ _; refine wpList_alloc_row A146 rfl rfl ?_
       have E1 : Ext w (w.alloc (.cells (List.replicate 64 (.int .u8 0)).toArray 146)) := Ext.of_alloc _
       have B1 := Blk.new w (List.replicate 64 (.int .u8 0)).toArray 146
       obtain ⟨w1, hw1⟩ : ∃ w1, w.alloc (.cells (List.replicate 64 (.int .u8 0)).toArray 146) = w1 := ⟨_, rfl⟩
       rw [hw1] at E1 B1 ⊢
       have EE1 := Lib.hid E1
       have BB1 := Lib.hid B1
       have c0 := (Sc.cells (K.out.ext E1)).1
       clear hw1 E1 B1)
    | (go_at_call 33; refine (H.out _ EE1.out).mono ?_
       rintro e w2 ⟨rfl, h2, e2, b2⟩
       have B2 := Lib.hid b2
       have B1' := Lib.hid (BB1.out.ext e2)
       have E2 := Lib.hid (EE1.out.trans e2)
       clear h2 e2 b2 c0)
    | (guard_target =~ wpList _ _ _ (Oper.mk _ (.load 146 _) _ _ _ _ :: _) _ _; refine wpList_load_row A146 rfl _ rfl _ 0 rfl ((d.read at').map cb) (by rw [List.length_map]; exact HL.out) (V_rangeV B2.out) ?_)
    | (guard_target =~ wpList _ _ _ (Oper.mk _ (.store 146 _ _) _ _ _ _ :: _) _ _; refine wpList_store_blk A146 rfl _ _ rfl w.heap.size rfl _ _ B1'.out (by simp) ((d.read at').map cb) (by rw [List.length_map]; exact HL.out) (cb_ones _) rfl ?_
       intro w3 B3 G3
       have E3 := Lib.hid (E2.out.grown1 G3 (Nat.le_refl _))
       have B3' := Lib.hid B3
       clear B3 G3)
    | fail)
  have B3 := B3'.out
  rw [← V_eq] at B3
  refine bodyPost_ret (results_cell_row rfl _ _ w.heap.size 146 (V cb (d.read at')) (0, 0) _ rfl B3 Try.u146 rfl (size_map146 _ HL.out)) rfl ?_
  exact ⟨rfl, E3.out⟩
set_option maxRecDepth 100000 in
theorem sread_off (h : DX w0 w g sb d) (k : Blk w o (sc g fr size gen dead) 143) (at' : Nat) (hp : powP d = 80) :
    Calls Try.prog 99 #[.pointer (some ⟨o, 0, none⟩), ci at'] w fun e w' => e = .panicked [flt 80] ∧ Ext w w' := by
  have H := Lib.hid (fun w1 (e : Ext w w1) => (h.ext e).read_power at' hp)
  have K := Lib.hid k
  clear h k hp
  go_enter Try.func99, Try.ntmps99
  go_wp2_with (first
    | (guard_target =~ wpList _ _ _ (Oper.mk _ (.alloc 146) _ _ _ _ :: _) _ _; refine wpList_alloc_row A146 rfl rfl ?_
       have E1 : Ext w (w.alloc (.cells (List.replicate 64 (.int .u8 0)).toArray 146)) := Ext.of_alloc _
       obtain ⟨w1, hw1⟩ : ∃ w1, w.alloc (.cells (List.replicate 64 (.int .u8 0)).toArray 146) = w1 := ⟨_, rfl⟩
       rw [hw1] at E1 ⊢
       have EE1 := Lib.hid E1
       have c0 := (Sc.cells (K.out.ext E1)).1
       clear hw1 E1)
    | (go_at_call 33; refine (H.out _ EE1.out).mono ?_
       rintro e w2 ⟨rfl, rfl⟩)
    | fail)
  exact ⟨rfl, rfl, EE1.out⟩
set_option maxRecDepth 100000 in
theorem swrite_ok (h : DX w0 w g sb d) (k : Blk w o (sc g fr size gen dead) 143) (at' : Nat) (l : By) (hp : powP d = 0) (ha : at' < d.n) (hl : l.length = 64) (hm : (d.R.length + 1) * 72 ≤ 140737488355328) :
    Calls Try.prog 100 #[.pointer (some ⟨o, 0, none⟩), ci at', .agg (V cb l)] w fun e w' => e = .returned (.tuple #[]) ∧ DX w0 w' g sb (writeD d at' l) ∧ Kp g sb w w' := by
  have H := Lib.hid (fun w1 dv (e : Ext w w1) hd => (h.ext e).write at' dv l hp ha hl hd hm)
  have K := Lib.hid k
  have HL := Lib.hid hl
  clear h k hp ha hm hl
  go_enter Try.func100, Try.ntmps100
  go_wp2_with (fail)
  have E1 : Ext w (w.alloc (.cells (V cb l) 146)) := Ext.of_alloc _
  have B1 := Blk.new w (V cb l) 146
  have hsz : (w.alloc (.cells (V cb l) 146)).heap.size = w.heap.size + 1 := by show (w.heap.push _).size = _; exact Array.size_push _
  obtain ⟨w1, hw1⟩ : ∃ w1, w.alloc (.cells (V cb l) 146) = w1 := ⟨_, rfl⟩
  rw [hw1] at E1 B1 hsz ⊢
  have EE1 := Lib.hid E1
  have BB1 := Lib.hid B1
  have c0 := (Sc.cells (K.out.ext E1)).1
  clear hw1 E1 B1
  refine wp_region_still_tail 6 follows_mixed (by kernel_rfl) ?_
  simp only [List.take_succ_cons, List.take_zero, List.drop_succ_cons, List.drop_zero]
  repeat still_step
  refine wpStill_nil ?_
  change wpList _ _ _ _ _ (World.drew w1)
  have BR : Rd w1.drew cb (.slice (some ⟨w.heap.size, 0, none⟩) 64 64) l := Blk.rdv (t := 146) BB1.out HL.out.symm
  have HR := Lib.hid BR
  clear BR
  go_wp2_with (first
    | (go_at_call 27; refine (H.out _ _ (EE1.out.drew) HR.out).mono ?_
       rintro e w2 ⟨rfl, h2, h3⟩)
    | fail)
  go_end0
  exact ⟨rfl, h2, (Kp.ext EE1.out.drew).trans h3⟩
set_option maxRecDepth 100000 in
theorem swrite_off (h : DX w0 w g sb d) (k : Blk w o (sc g fr size gen dead) 143) (at' : Nat) (l : By) (hp : powP d = 80) :
    Calls Try.prog 100 #[.pointer (some ⟨o, 0, none⟩), ci at', .agg (V cb l)] w fun e w' => e = .panicked [flt 80] ∧ Ext w w' := by
  have H := Lib.hid (fun w1 dv (e : Ext w w1) => (h.ext e).write_power at' dv hp)
  have K := Lib.hid k
  clear h k hp
  go_enter Try.func100, Try.ntmps100
  go_wp2_with (fail)
  have E1 : Ext w (w.alloc (.cells (V cb l) 146)) := Ext.of_alloc _
  obtain ⟨w1, hw1⟩ : ∃ w1, w.alloc (.cells (V cb l) 146) = w1 := ⟨_, rfl⟩
  rw [hw1] at E1 ⊢
  have EE1 := Lib.hid E1
  have c0 := (Sc.cells (K.out.ext E1)).1
  clear hw1 E1
  refine wp_region_still_tail 6 follows_mixed (by kernel_rfl) ?_
  simp only [List.take_succ_cons, List.take_zero, List.drop_succ_cons, List.drop_zero]
  repeat still_step
  refine wpStill_nil ?_
  change wpList _ _ _ _ _ (World.drew w1)
  go_wp2_with (first
    | (go_at_call 27; refine (H.out _ _ (EE1.out.drew)).mono ?_
       rintro e w2 ⟨rfl, rfl⟩)
    | fail)
  exact ⟨rfl, rfl, EE1.out.drew⟩
theorem ssync_ok (h : DX w0 w g sb d) (k : Blk w o (sc g fr size gen dead) 143) (hp : powP d = 0) :
    Calls Try.prog 101 #[.pointer (some ⟨o, 0, none⟩)] w fun e w' => e = .returned (.tuple #[]) ∧ DX w0 w' g sb (syncD d) ∧ Kp g sb w w' := by
  have H := Lib.hid (h.sync hp)
  have c0 := (Sc.cells k).1
  clear h k hp
  go_enter Try.func101, Try.ntmps101
  go_wp2_with (first
    | (go_at_call 29; refine H.out.mono ?_
       rintro e w2 ⟨rfl, h2, h3⟩)
    | fail)
  go_end0
  exact ⟨rfl, h2, h3⟩
theorem ssync_off (h : DX w0 w g sb d) (k : Blk w o (sc g fr size gen dead) 143) (hp : powP d = 80) :
    Calls Try.prog 101 #[.pointer (some ⟨o, 0, none⟩)] w fun e w' => e = .panicked [flt 80] ∧ w = w' := by
  have H := Lib.hid (h.sync_power hp)
  have c0 := (Sc.cells k).1
  clear h k hp
  go_enter Try.func101, Try.ntmps101
  go_wp2_with (first
    | (go_at_call 29; refine H.out.mono ?_
       rintro e w2 ⟨rfl, rfl⟩)
    | fail)
  exact ⟨rfl, rfl, rfl⟩
theorem slot_calls (k : Blk w o (sc g fr size gen dead) 143) (m : Nat) (hm : m ≤ 2199023255552) (hf : fr ≤ 65536) (hs : size ≤ 65536) :
    Calls Try.prog 98 #[.pointer (some ⟨o, 0, none⟩), ci m] w fun e w' => e = .returned (ci (slotN fr size m)) ∧ ∃ n, w.drewN n = w' := by
  obtain ⟨c0, c1, c2, c3, c4⟩ := Sc.cells k
  clear k
  have hb : (m : Int).tmod 2 = ((m % 2 : Nat) : Int) := by rw [Int.tmod_eq_emod_of_nonneg (by omega)]; omega
  go_enter Try.func98, Try.ntmps98
  by_cases h1 : m % 2 = 1
  · have e1 : ((m % 2 : Nat) : Int) = 1 := by omega
    go_wp2_with fail
    go_ret
    exact ⟨by unfold slotN; rw [if_pos h1]; rfl, 0, rfl⟩
  · have e1 : ¬ ((m % 2 : Nat) : Int) = 1 := by omega
    go_wp2_with fail
    go_region
    go_wp2_with fail
    go_ret
    refine ⟨?_, 1, rfl⟩
    unfold slotN
    rw [if_neg h1]
    simp
theorem sgen_calls (k : Blk w o (sc g fr size gen dead) 143) : Calls Try.prog 52 #[.pointer (some ⟨o, 0, none⟩)] w fun e w' => e = .returned (ci gen) ∧ w = w' := by
  obtain ⟨c0, c1, c2, c3, c4⟩ := Sc.cells k
  clear k
  go_enter Try.func52, Try.ntmps52
  go_wp2_with fail
  go_ret
  exact ⟨rfl, rfl⟩
theorem smost_calls (k : Blk w o (sc g fr size gen dead) 143) (h2 : 2 ≤ size) (hs : size ≤ 65536) : Calls Try.prog 56 #[.pointer (some ⟨o, 0, none⟩)] w fun e w' => e = .returned (ci (64 * (size - 1) : Nat)) ∧ w = w' := by
  obtain ⟨c0, c1, c2, c3, c4⟩ := Sc.cells k
  clear k
  go_enter Try.func56, Try.ntmps56
  go_wp2_with fail
  go_ret
  refine ⟨?_, rfl⟩
  have e : ((64 * (size - 1) : Nat) : Int) = 64 * ((size : Int) - 1) := by omega
  rw [e]
  rfl
theorem sgen_nil (w : World) : Calls Try.prog 52 #[.pointer none] w fun e w' => e = .returned (ci 0) ∧ w = w' := by
  go_enter Try.func52, Try.ntmps52
  go_wp2_with fail
  go_ret
  exact ⟨rfl, rfl⟩
theorem smost_nil (w : World) : Calls Try.prog 56 #[.pointer none] w fun e w' => e = .returned (ci 0) ∧ w = w' := by
  go_enter Try.func56, Try.ntmps56
  go_wp2_with fail
  go_ret
  exact ⟨rfl, rfl⟩
set_option maxRecDepth 100000 in
theorem caught_none (e : Int) (w : World) : Calls Try.prog 95 #[.nilIface, ci e] w fun r w' => r = .returned (ci e) ∧ w = w' := by
  go_enter Try.func95, Try.ntmps95
  go_wp2_with fail
  go_ret
  exact ⟨rfl, rfl⟩
theorem assert177 (f : Int) (w : World) : (Instr.typeAssert (.iface 177 (ci f)) 20 177 true).run Try.prog w = .ok (.tuple #[ci f, .bool true]) w := by kernel_rfl
set_option maxRecDepth 100000 in
theorem caught_some (f e : Int) (w : World) : Calls Try.prog 95 #[.iface 177 (ci f), ci e] w fun r w' => r = .returned (ci f) ∧ w = w' := by
  have hta := assert177 f
  go_enter Try.func95, Try.ntmps95
  go_wp2_with fail
  go_ret
  exact ⟨rfl, rfl⟩
end
end Go.Proofs.Ytjcbmlpfpcpakaa
