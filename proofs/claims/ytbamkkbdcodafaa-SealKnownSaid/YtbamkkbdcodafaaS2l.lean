/- The walks of layer 2 (seal): a matrix, and it again; the register behind many steps. -/
import Derived.Test.YtbamkkbdcodafaaS2k
namespace Go.Proofs.Ytbamkkbdcodafaa
open Go.RowKit
set_option linter.unusedVariables false

theorem heap_second (w : World) (A B : Obj) : ((w.alloc A).alloc B).heap[w.heap.size + 1]? = some B := by
  have h := heap_alloc_last (w.alloc A) B
  simpa using h
theorem setRow_second (w : World) (A : Obj) (c c' : Array Value) (t : TypeId) : ((w.alloc A).alloc (.cells c t)).setRow (w.heap.size + 1) c' = (w.alloc A).alloc (.cells c' t) := by
  have h := World.setRow_alloc_new (w.alloc A) c c' t
  simpa using h
theorem and1 (k : Nat) (hk : k ≤ 9223372036854775807) : bits .and .i64 (k : Int) 1 = ((k % 2 : Nat) : Int) := by
  unfold bits
  simp only [IntKind.bits]
  have h1 : (BitVec.ofInt 64 (k : Int)) = BitVec.ofNat 64 k := BitVec.ofInt_natCast ..
  have h2 : (BitVec.ofInt 64 (1 : Int)) = BitVec.ofNat 64 1 := rfl
  rw [h1, h2]
  have h3 : (BitVec.ofNat 64 k &&& BitVec.ofNat 64 1).toNat = k % 2 := by
    rw [BitVec.toNat_and, BitVec.toNat_ofNat, BitVec.toNat_ofNat, Nat.mod_eq_of_lt (by omega)]
    exact Nat.and_one_is_mod k
  show IntKind.i64.wrap (((BitVec.ofNat 64 k &&& BitVec.ofNat 64 1 : BitVec 64).toNat : Nat) : Int) = _
  rw [h3]
  rcases Nat.mod_two_eq_zero_or_one k with h | h <;> rw [h] <;> rfl
/-- a whole array, read by an operation whose guard is met -/
theorem wpList_load_met {P : Program} {ops : Array Oper} {rest : List Oper} {o : Oper} {a : Act} {w : World} {Q : Exit → Act → World → Prop} (hw : Region.wanted o (yielded ops a.tmps) = true) (ty : TypeId) (x : Operand) (ho : o.op = .load ty x)
    (g : Nat) (hx : a.eval x = .pointer (some ⟨g, 0, none⟩)) (t : TypeId) (cs : Array Value) (fr : Nat × Nat) (d : TypeDesc) (hg : w.heap[g]? = some (.cells cs t fr))
    (hu : P.underlying ty = some d) (hd : (match d with | .struct _ | .array _ _ => true | _ => false) = true) (hi : (P.info? ty).map (·.size) = some cs.size)
    (h : wpList P ops Q rest (a.put o.dst (.agg cs)) w) : wpList P ops Q (o :: rest) a w :=
  wpList_step fun K hK => by
    rw [hw]
    exact wp_load_row ty x ho g hx t cs fr d hg hu hd hi (hK _ _ h)
theorem size66 (l : List (BitVec 32)) (hl : l.length = 32) : (Try.prog.info? 66).map (·.size) = some (V c32 l).size := by rw [Try.size66, V_size, hl]
theorem same66 (l m : List (BitVec 32)) (hl : l.length = 32) (hm : m.length = 32) : (V c32 l).size = (V c32 m).size := by rw [V_size, V_size, hl, hm]
theorem twice_calls (g : Nat) (K : Nat) (w : World) (hb : Blk w g (V c32 (mat K)) 66) : Calls Try.prog 45 #[.pointer (some ⟨g, 0, none⟩)] w fun e w' => e = .returned (.agg (V c32 (mat (2 * K)))) ∧ Ext w w' := by
  have b1 : Blk ((w.alloc (.cells (V c32 (List.replicate 32 0#32)) 66)).alloc (.cells (V c32 (List.replicate 32 0#32)) 66)) (w.heap.size + 1) (V c32 (List.replicate 32 0#32)) 66 := by
    have h := Blk.new (w.alloc (.cells (V c32 (List.replicate 32 0#32)) 66)) (V c32 (List.replicate 32 0#32)) 66
    rwa [World.size_alloc] at h
  have b0 : Blk ((w.alloc (.cells (V c32 (List.replicate 32 0#32)) 66)).alloc (.cells (V c32 (List.replicate 32 0#32)) 66)) w.heap.size (V c32 (List.replicate 32 0#32)) 66 := (Blk.new w _ 66).alloc _
  have e2 := Ext.of_alloc2 (w := w) (.cells (V c32 (List.replicate 32 0#32)) 66) (.cells (V c32 (List.replicate 32 0#32)) 66)
  have bg := hb.ext e2
  have hlt := hb.lt
  have HLT := Lib.hid hlt
  have B1 := Lib.hid b1
  have B0 := Lib.hid b0
  have E2 := Lib.hid e2
  have BG := Lib.hid bg
  clear b1 b0 e2 bg hlt hb
  go_enter Try.func45, Try.ntmps45
  go_wp2_with fail
  rw [zero32]
  generalize (w.alloc (.cells (V c32 (List.replicate 32 0#32)) 66)).alloc (.cells (V c32 (List.replicate 32 0#32)) 66) = w2 at *
  obtain ⟨g0, hg0⟩ : ∃ g, w.heap.size = g := ⟨_, rfl⟩
  rw [hg0] at B1 B0 HLT ⊢
  have HG := Lib.hid hg0
  clear hg0
  rw [← matK_zero (2 * K)] at B1
  go_loopw [7] (fun i wr => ∃ (k : Nat), k ≤ 32 ∧ i = .int .i64 k ∧ Blk wr (g0 + 1) (V c32 (matK (2 * K) k)) 66 ∧ Blk wr g0 (V c32 (List.replicate 32 0#32)) 66 ∧ Blk wr g (V c32 (mat K)) 66 ∧ Ext w wr) (fun i _ => (32 - intOf i).toNat)
  case atStart => exact ⟨0, by omega, rfl, B1.out, B0.out, BG.out, E2.out⟩
  case round =>
    clear B0 B1 E2 BG
    obtain ⟨k, hk, rfl, b1, b0, bg, e2⟩ := hrel
    by_cases hlt : k < 32
    · have hs := matK_set (2 * K) k hlt
      have hl := matK_len (2 * K) k hk
      have hrow : stpN K (stpN K (1#32 <<< k)) = stpN (2 * K) (1#32 <<< k) := by rw [← stpN_add]; congr 1; omega
      have hc : wr.cell? ⟨g, k, none⟩ = some (c32 (stpN K (1#32 <<< k))) := by rw [bg.cell, V_at _ _ _ 0#32 (by rw [mat_len]; exact hlt), mat_at K k hlt]
      have hd : ∃ d, wr.cell? ⟨g0 + 1, k, none⟩ = some d := ⟨_, by rw [b1.cell, V_at _ _ _ 0#32 (by omega)]⟩
      obtain ⟨d, hd⟩ := hd
      have hf := b1.free k
      have HM := mof_steps K (stpN K (1#32 <<< k))
      rw [hrow] at HM
      generalize stpN K (1#32 <<< k) = x at *
      have HO := Lib.hid (fun n => of_calls g (mat K) (mat_len K) x (wr.drewN n) bg)
      rw [HM] at HO
      generalize stpN (2 * K) (1#32 <<< k) = y at *
      have B1 := Lib.hid b1
      have B0 := Lib.hid b0
      have BG := Lib.hid bg
      have HSS := Lib.hid hs
      have HLL := Lib.hid hl
      clear b1 b0 bg hs hl HM hrow
      go_wp2_with fail
      go_region
      go_wp2_with (first
        | (go_at_call 44; refine (HO.out 1).mono ?_; clear HO; rintro e w3 ⟨rfl, n, rfl⟩)
        | fail)
      go_roundw
      case measure => simp only [intOf]; omega
      case rel =>
        refine ⟨k + 1, by omega, by go_num, ?_, ?_, ?_, ?_⟩
        · rw [← HSS.out]; exact B1.out.w32 k (by rw [HLL.out]; exact hlt) _
        · exact B0.out.far ⟨g0 + 1, k, none⟩ (by show g0 ≠ g0 + 1; omega) _
        · exact BG.out.far ⟨g0 + 1, k, none⟩ (by have := HLT.out; show g ≠ g0 + 1; omega) _
        · exact (e2.set (p := ⟨g0 + 1, k, none⟩) (by have := HG.out; show _ ≤ g0 + 1; omega) _).drewN _
    · obtain rfl : k = 32 := by omega
      rw [matK_all] at b1
      go_upto_region 7 with (fail)
      refine wp_region_lit ?_
      refine wpList_load_row rfl 66 (.tmp 3) rfl (g0 + 1) rfl 66 (V c32 (mat (2 * K))) (0, 0) _ b1 Try.underlying66 rfl (size66 _ (mat_len _)) ?_
      refine wpList_store_row rfl 66 (.tmp 2) (.tmp 19) rfl g0 (V c32 (mat (2 * K))) (V c32 (List.replicate 32 0#32)) 66 rfl rfl b0 (size66 _ (mat_len _)) (same66 _ _ (by simp) (mat_len _)) (V_one _ (fun _ => rfl) _) ?_
      have b2 : Blk (wr.setRow g0 (V c32 (mat (2 * K)))) g0 (V c32 (mat (2 * K))) 66 := b0.setRow
      have e3 := e2.grown1 (grown_setRow wr g0 (V c32 (mat (2 * K)))) (by have := HG.out; omega)
      generalize wr.setRow g0 (V c32 (mat (2 * K))) = w5 at *
      go_wp2_with fail
      refine bodyPost_ret (results_cell_row rfl _ _ g0 66 (V c32 (mat (2 * K))) (0, 0) _ rfl b2 Try.underlying66 rfl (size66 _ (mat_len _))) rfl ?_
      exact ⟨rfl, e3⟩
/-- the register behind many steps -/
theorem led_calls (v : BitVec 32) (n : Int) (hn : -9223372036854775808 ≤ n ∧ n ≤ 9223372036854775807) (w : World) : Calls Try.prog 37 #[c32 v, .int .i64 n] w fun e w' => e = .returned (c32 (stn v n)) ∧ Ext w w' := by
  obtain ⟨r, hr⟩ : ∃ r, stn v n = r := ⟨_, rfl⟩
  have HR := Lib.hid hr
  rw [hr]
  clear hr
  go_enter Try.func37, Try.ntmps37
  go_wp2_with (first
    | (go_at_call 42; refine (eight_calls _).mono ?_; rintro e w1 ⟨rfl, e1⟩)
    | (go_at_call 43; refine (unit_calls _).mono ?_; rintro e w2 ⟨rfl, e2⟩)
    | (refine wpList_store_row rfl 66 (.tmp 5) (.tmp 7) rfl w2.heap.size (V c32 (mat 8)) (V c32 (List.replicate 32 0#32)) 66 rfl rfl (by rw [← zero32]; exact heap_alloc2_old _ _ _) (size66 _ (mat_len _)) (same66 _ _ (by simp) (mat_len _)) (V_one _ (fun _ => rfl) _) ?_
       rw [setRow_alloc_two])
    | (refine wpList_store_row rfl 66 (.tmp 6) (.tmp 8) rfl (w2.heap.size + 1) (V c32 (mat 0)) (V c32 (List.replicate 32 0#32)) 66 rfl rfl (by rw [← zero32]; exact heap_second _ _ _) (size66 _ (mat_len _)) (same66 _ _ (by simp) (mat_len _)) (V_one _ (fun _ => rfl) _) ?_
       rw [setRow_second])
    | fail)
  have b0 : Blk ((w2.alloc (.cells (V c32 (mat 8)) 66)).alloc (.cells (V c32 (mat 0)) 66)) w2.heap.size (V c32 (mat 8)) 66 := heap_alloc2_old _ _ _
  have b1 : Blk ((w2.alloc (.cells (V c32 (mat 8)) 66)).alloc (.cells (V c32 (mat 0)) 66)) (w2.heap.size + 1) (V c32 (mat 0)) 66 := heap_second _ _ _
  have e3 := (e1.trans e2).trans (Ext.of_alloc2 (w := w2) (.cells (V c32 (mat 8)) 66) (.cells (V c32 (mat 0)) 66))
  have hge := (e1.trans e2).size
  generalize (w2.alloc (.cells (V c32 (mat 8)) 66)).alloc (.cells (V c32 (mat 0)) 66) = w3 at *
  generalize w2.heap.size = g at *
  have HG := Lib.hid hge
  clear e1 e2 hge w1 w2
  simp only [Act.put]
  go_loopw [0, 1] (fun xv xn wr => ∃ (K : Nat) (m : Int) (u : BitVec 32), m ≤ 9223372036854775807 ∧ -9223372036854775808 ≤ m ∧ xn = .int .i64 m ∧ xv = c32 u ∧ Blk wr g (V c32 (mat K)) 66 ∧ Blk wr (g + 1) (V c32 (mat 0)) 66 ∧ Ext w wr ∧ Hid (stpN (K * m.toNat) u = r)) (fun _ xn _ => (intOf xn).toNat)
  case atStart => exact ⟨8, n, v, hn.2, hn.1, rfl, rfl, b0, b1, e3, by have := HR.out; rw [stn_eq] at this; exact this⟩
  case round =>
    clear HR hn b0 b1 e3
    obtain ⟨K, m, u, hm, hm0, rfl, rfl, b0, b1, e3, hz⟩ := hrel
    by_cases hpos : 0 < m
    · obtain ⟨k, rfl⟩ : ∃ k : Nat, m = (k : Int) := ⟨m.toNat, by omega⟩
      have hz' := hz.out
      rw [Int.toNat_natCast] at hz'
      have HZ := Lib.hid hz'
      have HB0 := Lib.hid b0
      have HB1 := Lib.hid b1
      have hEq : ∀ w : World, (Op.equalIn 10000 66 (.agg (V c32 (mat K))) (.agg (V c32 (mat 0)))).run Try.prog w = .ok (decide (mat K = mat 0)) w := fun w => by
        cases hi : Try.prog.info? 33 with
        | none => have : (Try.prog.info? 33).isSome = true := by kernel_rfl
                  rw [hi] at this; cases this
        | some i => exact run_equal_words w 9998 Try.underlying66 Try.underlying33 hi (by kernel_rfl) (mat K) (mat 0) (mat_len K) (mat_len 0)
      have t0 : decide ((0 : Int) < (k : Int)) = true := decide_eq_true hpos
      clear hz hz' b0 b1
      cases hr : decide (mat K = mat 0) with
      | true =>
        rw [hr] at hEq
        go_step
        go_step
        go_step
        iterate 10 go_step
        have hkk : decide (0 < k) = true := decide_eq_true (by omega)
        simp only [hkk]
        refine wpList_load_met (by rfl) 66 (.tmp 5) rfl g rfl 66 (V c32 (mat K)) (0, 0) _ HB0.out Try.underlying66 rfl (size66 _ (mat_len _)) ?_
        refine wpList_load_met (by rfl) 66 (.tmp 6) rfl (g + 1) rfl 66 (V c32 (mat 0)) (0, 0) _ HB1.out Try.underlying66 rfl (size66 _ (mat_len _)) ?_
        go_wp2_with fail
        go_ret
        refine ⟨?_, e3⟩
        have h1 := stpN_mul (mat_same (of_decide_eq_true hr)) u k
        rw [← HZ.out, h1]
        rfl
      | false =>
        rw [hr] at hEq
        have hk2 := Lib.hid (show (k : Int) / 2 = ((k / 2 : Nat) : Int) by omega)
        go_step
        go_step
        go_step
        iterate 10 go_step
        have hkk : decide (0 < k) = true := decide_eq_true (by omega)
        simp only [hkk]
        refine wpList_load_met (by rfl) 66 (.tmp 5) rfl g rfl 66 (V c32 (mat K)) (0, 0) _ HB0.out Try.underlying66 rfl (size66 _ (mat_len _)) ?_
        refine wpList_load_met (by rfl) 66 (.tmp 6) rfl (g + 1) rfl 66 (V c32 (mat 0)) (0, 0) _ HB1.out Try.underlying66 rfl (size66 _ (mat_len _)) ?_
        rcases Nat.mod_two_eq_zero_or_one k with h | h
        · have hz2 := Lib.hid (show stpN (2 * K * (k / 2)) u = r by rw [← HZ.out]; congr 1; rw [Nat.mul_comm 2 K, Nat.mul_assoc]; congr 1; omega)
          have hbit : (bits .and .i64 (k : Int) 1 == 1) = false := by rw [and1 k (by omega), h]; rfl
          go_wp2_with (first
            | (go_at_call 45; refine (twice_calls g K wr HB0.out).mono ?_; rintro e w5 ⟨rfl, e5⟩
               have b0 := HB0.out.ext e5
               have b1 := HB1.out.ext e5)
            | (refine wpList_store_row rfl 66 (.tmp 5) (.tmp 23) rfl g (V c32 (mat (2 * K))) (V c32 (mat K)) 66 rfl rfl b0 (size66 _ (mat_len _)) (same66 _ _ (mat_len _) (mat_len _)) (V_one _ (fun _ => rfl) _) ?_)
            | fail)
          go_roundw
          case measure => simp only [intOf]; omega
          case rel =>
            exact ⟨2 * K, ((k / 2 : Nat) : Int), u, by omega, by omega, by rw [← hk2.out], rfl, b0.setRow, Blk.grown b1 (grown_setRow w5 g _) (by simp), (e3.trans e5).grown1 (grown_setRow w5 g _) HG.out, by rw [Int.toNat_natCast]; exact hz2⟩
        · have hz2 := Lib.hid (show stpN (2 * K * (k / 2)) (stpN K u) = r by rw [← HZ.out, ← stpN_add]; congr 1; rw [Nat.mul_comm 2 K, Nat.mul_assoc, show K + K * (2 * (k / 2)) = K * (1 + 2 * (k / 2)) by rw [Nat.mul_add, Nat.mul_one]]; congr 1; omega)
          have hbit : (bits .and .i64 (k : Int) 1 == 1) = true := by rw [and1 k (by omega), h]; rfl
          have HO := Lib.hid (of_calls g (mat K) (mat_len K) u wr HB0.out)
          rw [mof_steps] at HO
          go_wp2_with (first
            | (go_at_call 44; refine HO.out.mono ?_; clear HO; rintro e w4 ⟨rfl, n4, rfl⟩)
            | (go_at_call 45; refine (twice_calls g K (wr.drewN n4) HB0.out).mono ?_; rintro e w5 ⟨rfl, e5⟩
               have b0 := Blk.ext (w := wr.drewN n4) HB0.out e5
               have b1 := Blk.ext (w := wr.drewN n4) HB1.out e5)
            | (refine wpList_store_row rfl 66 (.tmp 5) (.tmp 23) rfl g (V c32 (mat (2 * K))) (V c32 (mat K)) 66 rfl rfl b0 (size66 _ (mat_len _)) (same66 _ _ (mat_len _) (mat_len _)) (V_one _ (fun _ => rfl) _) ?_)
            | fail)
          go_roundw
          case measure => simp only [intOf]; omega
          case rel =>
            exact ⟨2 * K, ((k / 2 : Nat) : Int), stpN K u, by omega, by omega, by rw [← hk2.out], rfl, b0.setRow, Blk.grown b1 (grown_setRow w5 g _) (by simp), ((e3.drewN n4).trans e5).grown1 (grown_setRow w5 g _) HG.out, by rw [Int.toNat_natCast]; exact hz2⟩
    · have hz' := hz.out
      rw [show m.toNat = 0 by omega, Nat.mul_zero, stpN_zero] at hz'
      subst hz'
      have t1 : decide (0 < m) = false := decide_eq_false hpos
      clear hz b0 b1
      go_wp2_with fail
      go_ret
      exact ⟨rfl, e3⟩
end Go.Proofs.Ytbamkkbdcodafaa
