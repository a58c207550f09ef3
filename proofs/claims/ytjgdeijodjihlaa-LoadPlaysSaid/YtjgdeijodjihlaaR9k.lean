/- Layer 9 (load): the law's step of meters that are nil. -/
import Derived.Test.YtjgdeijodjihlaaR9j
namespace Go.Proofs.Ytjgdeijodjihlaa
open Go.RowKit
set_option linter.unusedVariables false

theorem step_nil1 (who s t : Int) (x : BitVec 64) (w : World) :
    Calls Try.prog 25 #[.pointer none, .pointer none, .agg #[ci 1, ci who, ci s, ci t, .int .u64 (Bv x)]] w fun e w' => e = .returned (.bool true) ∧ Ext w w' := by
  have e1 := Ext.of_alloc (w := w) (.cells #[ci 1, ci who, ci s, ci t, .int .u64 (Bv x)] 41)
  have hb := Blk.new w #[ci 1, ci who, ci s, ci t, .int .u64 (Bv x)] 41
  obtain ⟨w0, hw0⟩ : ∃ z, w.alloc (.cells #[ci 1, ci who, ci s, ci t, .int .u64 (Bv x)] 41) = z := ⟨_, rfl⟩
  have HW0 := Lib.hid hw0
  rw [hw0] at hb e1
  have X0 := Lib.hid e1
  obtain ⟨bx, hbx⟩ : ∃ b, w.heap.size = b := ⟨_, rfl⟩
  have HBX := Lib.hid hbx
  rw [hbx] at hb
  have hfb : ∀ (w : World), (callFunc 17 #[.int .u64 (Bv x)]).run Try.prog w = .ok (.value (cf x.toNat)) w := fun w => frombits (Bv x) w
  have K0 : Boxd w0 bx s t x := ⟨hb.cell 2, hb.cell 3, hb.cell 4⟩
  have z0 : w0.cell? ⟨bx, 0, none⟩ = some (ci 1) := hb.cell 0
  clear e1 hb hw0 hbx
  go_enter Try.func25, Try.ntmps25
  go_upto_region 1 with fail
  rw [HW0.out, HBX.out]
  go_upto_region 4 with fail
  go_region_held3 (fun w' => Boxd w' bx s t x) (exact K0)
    (first
      | (go_at_call 34; refine (nrhit _ _ _ _).mono ?_; rintro e w1 ⟨rfl, rfl⟩)
      | (go_at_call 14; refine (nhit _ _ _ _).mono ?_; rintro e w1 ⟨rfl, rfl⟩)
      | (go_at_call 13; refine (num_calls _ _).mono ?_; rintro e w1 ⟨rfl, rfl⟩))
  all_goals (try go_wp2_with fail)
  all_goals go_ret
  all_goals exact ⟨by first | rfl | simp, X0.out.drew⟩
theorem step_nil2 (who s t : Int) (x : BitVec 64) (w : World) :
    Calls Try.prog 25 #[.pointer none, .pointer none, .agg #[ci 2, ci who, ci s, ci t, .int .u64 (Bv x)]] w fun e w' => e = .returned (.bool true) ∧ Ext w w' := by
  have e1 := Ext.of_alloc (w := w) (.cells #[ci 2, ci who, ci s, ci t, .int .u64 (Bv x)] 41)
  have hb := Blk.new w #[ci 2, ci who, ci s, ci t, .int .u64 (Bv x)] 41
  obtain ⟨w0, hw0⟩ : ∃ z, w.alloc (.cells #[ci 2, ci who, ci s, ci t, .int .u64 (Bv x)] 41) = z := ⟨_, rfl⟩
  have HW0 := Lib.hid hw0
  rw [hw0] at hb e1
  have X0 := Lib.hid e1
  obtain ⟨bx, hbx⟩ : ∃ b, w.heap.size = b := ⟨_, rfl⟩
  have HBX := Lib.hid hbx
  rw [hbx] at hb
  have hfb : ∀ (w : World), (callFunc 17 #[.int .u64 (Bv x)]).run Try.prog w = .ok (.value (cf x.toNat)) w := fun w => frombits (Bv x) w
  have K0 : Boxd w0 bx s t x := ⟨hb.cell 2, hb.cell 3, hb.cell 4⟩
  have z0 : w0.cell? ⟨bx, 0, none⟩ = some (ci 2) := hb.cell 0
  clear e1 hb hw0 hbx
  go_enter Try.func25, Try.ntmps25
  go_upto_region 1 with fail
  rw [HW0.out, HBX.out]
  go_upto_region 6 with fail
  go_region_held3 (fun w' => Boxd w' bx s t x) (exact K0)
    (first
      | (go_at_call 35; refine (nrgo _ _).mono ?_; rintro e w1 ⟨rfl, rfl⟩)
      | (go_at_call 22; refine (ngo _ _).mono ?_; rintro e w1 ⟨rfl, rfl⟩)
      | (go_at_call 13; refine (num_calls _ _).mono ?_; rintro e w1 ⟨rfl, rfl⟩))
  all_goals (try go_wp2_with fail)
  all_goals go_ret
  all_goals exact ⟨by first | rfl | simp, X0.out.drew⟩
set_option maxHeartbeats 4000000 in
theorem step_nil3 (who s t : Int) (x : BitVec 64) (w : World) :
    Calls Try.prog 25 #[.pointer none, .pointer none, .agg #[ci 3, ci who, ci s, ci t, .int .u64 (Bv x)]] w fun e w' => e = .returned (.bool true) ∧ Ext w w' := by
  have e1 := Ext.of_alloc (w := w) (.cells #[ci 3, ci who, ci s, ci t, .int .u64 (Bv x)] 41)
  have hb := Blk.new w #[ci 3, ci who, ci s, ci t, .int .u64 (Bv x)] 41
  obtain ⟨w0, hw0⟩ : ∃ z, w.alloc (.cells #[ci 3, ci who, ci s, ci t, .int .u64 (Bv x)] 41) = z := ⟨_, rfl⟩
  have HW0 := Lib.hid hw0
  rw [hw0] at hb e1
  have X0 := Lib.hid e1
  obtain ⟨bx, hbx⟩ : ∃ b, w.heap.size = b := ⟨_, rfl⟩
  have HBX := Lib.hid hbx
  rw [hbx] at hb
  have hfb : ∀ (w : World), (callFunc 17 #[.int .u64 (Bv x)]).run Try.prog w = .ok (.value (cf x.toNat)) w := fun w => frombits (Bv x) w
  have K0 : Boxd w0 bx s t x := ⟨hb.cell 2, hb.cell 3, hb.cell 4⟩
  have z0 : w0.cell? ⟨bx, 0, none⟩ = some (ci 3) := hb.cell 0
  clear e1 hb hw0 hbx
  go_enter Try.func25, Try.ntmps25
  go_upto_region 1 with fail
  rw [HW0.out, HBX.out]
  go_upto_region 8 with fail
  go_region_held3 (fun w' => Boxd w' bx s t x) (exact K0)
    (first
      | (go_at_call 40; refine (nrtop _).mono ?_; rintro e w1 ⟨rfl, rfl⟩)
      | (go_at_call 29; refine (ntop _).mono ?_; rintro e w1 ⟨rfl, rfl⟩)
      | (go_at_call 39; refine (nrspread _).mono ?_; rintro e w1 ⟨rfl, rfl⟩)
      | (go_at_call 26; refine (nspread _).mono ?_; rintro e w1 ⟨rfl, rfl⟩)
      | (go_at_call 38; refine (nrmean _).mono ?_; rintro e w1 ⟨rfl, rfl⟩)
      | (go_at_call 28; refine (nmean _).mono ?_; rintro e w1 ⟨rfl, rfl⟩)
      | (go_at_call 37; refine (nrsum _).mono ?_; rintro e w1 ⟨rfl, rfl⟩)
      | (go_at_call 27; refine (nsum _).mono ?_; rintro e w1 ⟨rfl, rfl⟩)
      | (go_at_call 36; refine (nrof _ _).mono ?_; rintro e w1 ⟨rfl, rfl⟩)
      | (go_at_call 20; refine (nof _ _).mono ?_; rintro e w1 ⟨rfl, rfl⟩)
      | (go_at_call 19; refine (like_calls _ _).mono ?_; rintro e w1 ⟨rfl, rfl⟩))
  all_goals (try go_wp2_with fail)
  all_goals go_ret
  all_goals exact ⟨by first | rfl | simp, X0.out.drew⟩
theorem step_nil4 (who s t : Int) (x : BitVec 64) (w : World) :
    Calls Try.prog 25 #[.pointer none, .pointer none, .agg #[ci 4, ci who, ci s, ci t, .int .u64 (Bv x)]] w fun e w' => e = .returned (.bool true) ∧ Ext w w' := by
  have e1 := Ext.of_alloc (w := w) (.cells #[ci 4, ci who, ci s, ci t, .int .u64 (Bv x)] 41)
  have hb := Blk.new w #[ci 4, ci who, ci s, ci t, .int .u64 (Bv x)] 41
  obtain ⟨w0, hw0⟩ : ∃ z, w.alloc (.cells #[ci 4, ci who, ci s, ci t, .int .u64 (Bv x)] 41) = z := ⟨_, rfl⟩
  have HW0 := Lib.hid hw0
  rw [hw0] at hb e1
  have X0 := Lib.hid e1
  obtain ⟨bx, hbx⟩ : ∃ b, w.heap.size = b := ⟨_, rfl⟩
  have HBX := Lib.hid hbx
  rw [hbx] at hb
  have hfb : ∀ (w : World), (callFunc 17 #[.int .u64 (Bv x)]).run Try.prog w = .ok (.value (cf x.toNat)) w := fun w => frombits (Bv x) w
  have K0 : Boxd w0 bx s t x := ⟨hb.cell 2, hb.cell 3, hb.cell 4⟩
  have z0 : w0.cell? ⟨bx, 0, none⟩ = some (ci 4) := hb.cell 0
  clear e1 hb hw0 hbx
  go_enter Try.func25, Try.ntmps25
  go_upto_region 1 with fail
  rw [HW0.out, HBX.out]
  have NR : Hid (∀ w : World, Rd w cf (.slice none 0 0) []) := fun w => Or.inl ⟨none, 0, rfl, rfl, fun _ => rfl⟩
  go_wp2_with (first
    | (go_at_call 15; refine (rows_calls _ _ [] w0 (NR.out w0) (NR.out w0) (by decide)).mono ?_; rintro e w3 ⟨rfl, q, hq⟩
       have X3 : Hid (Ext w0 w3) := by rw [← hq]; exact (Ext.refl _).drewN q
       clear hq)
    | (go_at_call 41; refine (nrrow w0).mono ?_; rintro e w1 ⟨rfl, rfl⟩)
    | (go_at_call 12; refine (nrow w0).mono ?_; rintro e w1 ⟨rfl, rfl⟩)
    | fail)
  go_ret
  exact ⟨rfl, X0.out.trans X3.out⟩
set_option maxHeartbeats 4000000 in
theorem step_nil5 (who s t : Int) (x : BitVec 64) (w : World) :
    Calls Try.prog 25 #[.pointer none, .pointer none, .agg #[ci 5, ci who, ci s, ci t, .int .u64 (Bv x)]] w fun e w' => e = .returned (.bool true) ∧ Ext w w' := by
  have e1 := Ext.of_alloc (w := w) (.cells #[ci 5, ci who, ci s, ci t, .int .u64 (Bv x)] 41)
  have hb := Blk.new w #[ci 5, ci who, ci s, ci t, .int .u64 (Bv x)] 41
  obtain ⟨w0, hw0⟩ : ∃ z, w.alloc (.cells #[ci 5, ci who, ci s, ci t, .int .u64 (Bv x)] 41) = z := ⟨_, rfl⟩
  have HW0 := Lib.hid hw0
  rw [hw0] at hb e1
  have X0 := Lib.hid e1
  obtain ⟨bx, hbx⟩ : ∃ b, w.heap.size = b := ⟨_, rfl⟩
  have HBX := Lib.hid hbx
  rw [hbx] at hb
  have hfb : ∀ (w : World), (callFunc 17 #[.int .u64 (Bv x)]).run Try.prog w = .ok (.value (cf x.toNat)) w := fun w => frombits (Bv x) w
  have K0 : Boxd w0 bx s t x := ⟨hb.cell 2, hb.cell 3, hb.cell 4⟩
  have z0 : w0.cell? ⟨bx, 0, none⟩ = some (ci 5) := hb.cell 0
  clear e1 hb hw0 hbx
  go_enter Try.func25, Try.ntmps25
  go_upto_region 1 with fail
  rw [HW0.out, HBX.out]
  go_wp2_with (first
    | (go_at_call 21; refine (nwave w0).mono ?_; rintro e w1 ⟨rfl, x1⟩
       have X1 := Lib.hid x1
       clear x1)
    | fail)
  have hbl := Blk.new w1 #[cx (0, 0), cx (0, 0), cx (0, 0), cx (0, 0), cx (0, 0), cx (0, 0), cx (0, 0), cx (0, 0)] 48
  have e12 := Ext.of_alloc (w := w1) (.cells #[cx (0, 0), cx (0, 0), cx (0, 0), cx (0, 0), cx (0, 0), cx (0, 0), cx (0, 0), cx (0, 0)] 48)
  obtain ⟨w2, hw2⟩ : ∃ z, w1.alloc (.cells #[cx (0, 0), cx (0, 0), cx (0, 0), cx (0, 0), cx (0, 0), cx (0, 0), cx (0, 0), cx (0, 0)] 48) = z := ⟨_, rfl⟩
  have HW2 := Lib.hid hw2
  rw [hw2] at hbl e12
  obtain ⟨sw, hsw⟩ : ∃ b, w1.heap.size = b := ⟨_, rfl⟩
  rw [hsw] at hbl
  rw [HW2.out, hsw]
  have HCL := Lib.hid (fun k (hk : k < 8) => show w2.cell? ⟨sw, k, none⟩ = some (cx (0, 0)) by
    rw [hbl.cell, show (#[cx (0, 0), cx (0, 0), cx (0, 0), cx (0, 0), cx (0, 0), cx (0, 0), cx (0, 0), cx (0, 0)] : Array Value) = V cx (List.replicate 8 (0, 0)) from by unfold V; rfl, V_get, List.getElem?_replicate, if_pos hk]
    rfl)
  have X2 := Lib.hid (X1.out.trans e12)
  clear hw2 hsw hbl e12
  have n1 : (FloatKind.f64.format.order 0 0 != some .eq) = false := by kernel_rfl
  go_loopw [9] (fun iv wx => ∃ (k : Nat), k ≤ 8 ∧ iv = .int .i64 k ∧ wx = w2) (fun iv _ => (8 - (intOf iv).toNat))
  case atStart => exact ⟨0, by omega, rfl, by first | rfl | trivial⟩
  case round =>
    obtain ⟨k, hk, rfl, rfl⟩ := hrel
    by_cases hlt : k < 8
    · have hlt' : (k : Int) < 8 := by omega
      have hck := HCL.out k hlt
      go_wp2_with (first
        | (go_at_call 42; refine (nrwave _ _).mono ?_; rintro e w3 ⟨rfl, rfl⟩)
        | fail)
      go_roundw
      case measure => simp only [intOf]; omega
      case rel => exact ⟨k + 1, by omega, by go_num, by first | rfl | trivial⟩
    · obtain rfl : k = 8 := by omega
      go_wp2_with fail
      go_ret
      exact ⟨rfl, X0.out.trans X2.out⟩
end Go.Proofs.Ytjgdeijodjihlaa
