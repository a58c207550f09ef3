/- Layer 8 (disk): steps of a script with a nil disk, by both; every step. -/
import Derived.Test.YtjcbmlpfpcpakaaE8u
import Derived.Test.YtjcbmlpfpcpakaaD8r
namespace Go.Proofs.Ytjcbmlpfpcpakaa
open Go.RowKit
set_option linter.unusedVariables false
theorem rsectors_nil (w : World) : Calls Try.prog 92 #[.pointer none] w fun e w' => e = .returned (ci 0) ∧ w = w' := by
  go_enter Try.func92, Try.ntmps92
  go_wp2_with fail
  go_ret
  exact ⟨rfl, rfl⟩
theorem rpending_nil (w : World) : Calls Try.prog 88 #[.pointer none] w fun e w' => e = .returned (ci 0) ∧ w = w' := by
  go_enter Try.func88, Try.ntmps88
  go_wp2_with fail
  go_ret
  exact ⟨rfl, rfl⟩
theorem rcounts_nil (w : World) : Calls Try.prog 93 #[.pointer none] w fun e w' => e = .returned (.tuple #[ci 0, ci 0]) ∧ w = w' := by
  go_enter Try.func93, Try.ntmps93
  go_wp2_with fail
  go_ret2
  exact ⟨rfl, rfl⟩
theorem rfuse_nil (n : Int) (w : World) : Calls Try.prog 89 #[.pointer none, ci n] w fun e w' => e = .returned (.tuple #[]) ∧ w = w' := by
  go_enter Try.func89, Try.ntmps89
  go_wp2_with fail
  exact bodyPost_ret (v := .tuple #[]) (by simp [results, Try.results89, go_sem]) rfl ⟨rfl, rfl⟩
theorem rcrash_nil (kv : Value) (t c : Int) (w : World) : Calls Try.prog 106 #[.pointer none, kv, ci t, ci c] w fun e w' => e = .returned (.tuple #[]) ∧ w = w' := by
  go_enter Try.func106, Try.ntmps106
  go_wp2_with fail
  exact bodyPost_ret (v := .tuple #[]) (by simp [results, Try.results106, go_sem]) rfl ⟨rfl, rfl⟩
theorem rread_nil (n : Int) (w : World) : Calls Try.prog 86 #[.pointer none, ci n] w fun e w' => e = .returned (.tuple #[.slice none 0 0, ci 1]) ∧ w = w' := by
  go_enter Try.func86, Try.ntmps86
  go_wp2_with fail
  go_ret2
  exact ⟨rfl, rfl⟩
theorem rwrite_nil (n : Int) (dv : Value) (w : World) : Calls Try.prog 85 #[.pointer none, ci n, dv] w fun e w' => e = .returned (ci 1) ∧ w = w' := by
  go_enter Try.func85, Try.ntmps85
  go_wp2_with fail
  go_ret
  exact ⟨rfl, rfl⟩
set_option maxRecDepth 100000 in
set_option maxHeartbeats 4000000 in
theorem lcrash_nil {w0 w : World} (hw : Ext w0 w) (who kd n torn cut : Int) (da ka : Option Addr) (keep : List Bool) (dn dc kc : Nat) (hk : Rd w0 vb (.slice ka keep.length kc) keep) (hkl : keep.length ≤ 140737488351232) :
    Calls Try.prog 90 #[.pointer none, .pointer none, .agg #[ci who, ci kd, ci n, .slice da dn dc, .slice ka keep.length kc, ci torn, ci cut]] w fun e w' => e = .returned (.bool true) ∧ Ext w w' := by
  obtain ⟨L, hL⟩ : ∃ L, keep.length = L := ⟨_, rfl⟩
  have HLK := Lib.hid hL
  rw [hL] at hk hkl ⊢
  have hx := Ext.of_alloc (w := w) (.cells #[ci who, ci kd, ci n, .slice da dn dc, .slice ka L kc, ci torn, ci cut] 60)
  have hmk := make_bools L hkl
  have HX := Lib.hid hx
  have HK := Lib.hid (hw.rd hk)
  have HKL := Lib.hid hkl
  have hLm : (L : Int) ≤ 140737488351232 := by omega
  have HBX := Lib.hid (Blk.new w #[ci who, ci kd, ci n, .slice da dn dc, .slice ka L kc, ci torn, ci cut] 60)
  clear hx hk hkl hL hw
  go_enter Try.func90, Try.ntmps90
  go_upto_region 2 with (first
    | (go_at_call 106; refine (rcrash_nil _ _ _ _).mono ?_; rintro e w9 ⟨rfl, rfl⟩)
    | fail)
  obtain ⟨w1, hw1⟩ : ∃ x, w.alloc (.cells #[ci who, ci kd, ci n, .slice da dn dc, .slice ka L kc, ci torn, ci cut] 60) = x := ⟨_, rfl⟩
  rw [hw1] at HX HBX
  rw [hw1]
  clear hw1
  have c4 : w1.cell? ⟨w.heap.size, 4, none⟩ = some (.slice ka L kc) := HBX.out.cell 4
  have c4a : (w1.alloc (.cells (V vb (List.replicate (L + 1) false)) 4)).cell? ⟨w.heap.size, 4, none⟩ = some (.slice ka L kc) := (HBX.out.alloc _).cell 4
  go_upto_region 5 with (first
    | (guard_target =~ wpList _ _ _ (Oper.mk _ (.call { callee := .builtin .copy, args := _, argTypes := _ }) _ _ _ _ :: _) _ _
       refine wpList_copy_bools rfl _ _ rfl w1.heap.size L keep (.slice ka L kc) HLK.out rfl rfl ((HX.out.alloc _).rd HK.out) (Blk.new w1 _ 4) ?_
       intro w2 hb2 hg2
       have X2 : Hid (Ext w1 w2) := (Ext.of_alloc _).grown1 hg2 (Nat.le_refl _)
       have BX2 := Lib.hid (HBX.out.ext X2.out)
       have c4 : w2.cell? ⟨w.heap.size, 4, none⟩ = some (.slice ka L kc) := BX2.out.cell 4
       have c5 : w2.cell? ⟨w1.heap.size, L, none⟩ = some (vb false) := by
         rw [hb2.cell, V_get, List.getElem?_append_right (by rw [HLK.out]; exact Nat.le_refl _), HLK.out, Nat.sub_self]
         rfl
       have c6 := hb2.free L
       have B3 : Hid (Blk (w2.setCell ⟨w1.heap.size, L, none⟩ (vb true)) w1.heap.size (V vb (keep ++ [true])) 4) := by
         have h := hb2.set L (vb true)
         rw [V_set, List.set_append_right _ _ (by rw [HLK.out]; exact Nat.le_refl _), HLK.out, Nat.sub_self] at h
         exact h
       have X3 : Hid (Ext w1 (w2.setCell ⟨w1.heap.size, L, none⟩ (vb true))) := X2.out.set (Nat.le_refl _) _
       have BX3 := Lib.hid (HBX.out.ext X3.out)
       clear hb2 hg2)
    | fail)
  generalize w2.setCell ⟨w1.heap.size, L, none⟩ (vb true) = w3 at *
  have hs0 : (0 : Int) ≤ (L : Int) := by omega
  have hs1 : (L : Int) ≤ (L : Int) + 1 := by omega
  have hs2 : L ≤ L + 1 := by omega
  have K0 : w3.cell? ⟨w.heap.size, 4, none⟩ = some (.slice ka L kc) ∧ w3.cell? ⟨w.heap.size, 5, none⟩ = some (ci torn) ∧ w3.cell? ⟨w.heap.size, 6, none⟩ = some (ci cut) := ⟨BX3.out.cell 4, BX3.out.cell 5, BX3.out.cell 6⟩
  have HSZ : Hid (w.heap.size < w1.heap.size) := HBX.out.lt
  clear c4 c4a c5 c6 BX2 X2
  go_region_held3 (fun w' => w'.cell? ⟨w.heap.size, 4, none⟩ = some (.slice ka L kc) ∧ w'.cell? ⟨w.heap.size, 5, none⟩ = some (ci torn) ∧ w'.cell? ⟨w.heap.size, 6, none⟩ = some (ci cut)) (exact K0)
    (first
      | (go_at_call 32; refine (crash_nil _ _ _ _).mono ?_; rintro e w9 ⟨rfl, rfl⟩))
  generalize w1.heap.size = fb at *
  clear K0 hs0 hs1 hs2
  go_wp2_with fail
  go_loopw [8] (fun iv wx => ∃ k : Nat, k ≤ L ∧ iv = ci k ∧ Hid (w3.grownBy wx (some fb) ∧ Blk wx fb (V vb (notK k keep ++ [true])) 4)) (fun iv _ => ((L : Int) - intOf iv).toNat)
  case atStart => exact ⟨0, Nat.zero_le _, rfl, ⟨rfl, rfl, rfl, Nat.le_refl _, fun _ _ _ => rfl⟩, by unfold notK; rw [List.take_zero, List.drop_zero]; exact B3.out⟩
  case round =>
    obtain ⟨k, hk, rfl, hU⟩ := hrel
    have XR : Hid (Ext w wr) := (HX.out.trans X3.out).grown hU.out.1 (fun y hy => by have := HSZ.out; have := Option.some.inj hy; omega)
    have BXR : Hid (Blk wr w.heap.size #[ci who, ci kd, ci n, .slice da dn dc, .slice ka L kc, ci torn, ci cut] 60) := BX3.out.grown hU.out.1 (fun e => by have := HSZ.out; have := Option.some.inj e; omega)
    have x4 : wr.cell? ⟨w.heap.size, 4, none⟩ = some (.slice ka L kc) := BXR.out.cell 4
    have x4d : wr.drew.cell? ⟨w.heap.size, 4, none⟩ = some (.slice ka L kc) := BXR.out.cell 4
    by_cases hlt : k < L
    · have hlt' : (k : Int) < L := by omega
      have hkk : k < keep.length := by rw [HLK.out]; exact hlt
      obtain ⟨bv, ov, rfl, hcell⟩ := (XR.out.rd HK.out).cell_at hkk
      have hfull : wr.cell? ⟨fb, k, none⟩ = some (vb keep[k]) := by
        rw [hU.out.2.cell, V_get, List.getElem?_append_left (by rw [notK_len k keep (Nat.le_of_lt hkk)]; exact hkk), notK_get k keep hkk]
        rfl
      have hf := hU.out.2.free k
      have HS : Hid (Blk (wr.setCell ⟨fb, k, none⟩ (vb (!keep[k]))) fb (V vb (notK (k + 1) keep ++ [true])) 4) := by
        have h := hU.out.2.set k (vb (!keep[k]))
        rw [V_set, List.set_append_left _ _ (by rw [notK_len k keep (Nat.le_of_lt hkk)]; exact hkk), notK_step k keep hkk] at h
        exact h
      generalize keep[k] = b at *
      have hlt1 : (k : Int) < (L : Int) + 1 := by omega
      clear hkk
      cases b
      all_goals
        go_wp2_with fail
        go_quiet (fail)
        go_wp2_with fail
        go_roundw
        case measure => simp only [intOf]; omega
        case rel => exact ⟨k + 1, hlt, by go_num, grown_drewN' (grown_trans hU.out.1 (grown_set wr fb k _)) _, HS.out⟩
    · obtain rfl : k = L := by omega
      have x5 : wr.cell? ⟨fb, k, none⟩ = some (vb true) := by
        rw [hU.out.2.cell, V_get, List.getElem?_append_right (by rw [notK_len k keep (by rw [HLK.out]; exact Nat.le_refl _), HLK.out]; exact Nat.le_refl _), notK_len k keep (by rw [HLK.out]; exact Nat.le_refl _), HLK.out, Nat.sub_self]
        rfl
      have hlt1 : (k : Int) < (k : Int) + 1 := by omega
      go_wp2_with fail
      go_ret
      exact ⟨rfl, XR.out⟩
end Go.Proofs.Ytjcbmlpfpcpakaa
