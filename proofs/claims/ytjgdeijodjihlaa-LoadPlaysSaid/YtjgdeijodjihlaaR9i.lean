/- Layer 9 (load): the law's step: rows, the rhythm, and nothing. -/
import Derived.Test.YtjgdeijodjihlaaR9h
import Derived.Test.YtjgdeijodjihlaaD9y
namespace Go.Proofs.Ytjgdeijodjihlaa
open Go.RowKit
set_option linter.unusedVariables false

theorem step_rows (g lb r K : Nat) (m : Mt) (av : Value) (A : List Ht) (who s t : Int) (x : BitVec 64) (w : World) (h : St9 w g lb r m av A K) :
    Calls Try.prog 25 #[.pointer (some ⟨g, 0, none⟩), .pointer (some ⟨r, 0, none⟩), .agg #[ci 4, ci who, ci s, ci t, .int .u64 (Bv x)]] w fun e w' => e = .returned (.bool true) ∧ Ext w w' := by
  have e1 := Ext.of_alloc (w := w) (.cells #[ci 4, ci who, ci s, ci t, .int .u64 (Bv x)] 41)
  have hb := Blk.new w #[ci 4, ci who, ci s, ci t, .int .u64 (Bv x)] 41
  obtain ⟨w0, hw0⟩ : ∃ z, w.alloc (.cells #[ci 4, ci who, ci s, ci t, .int .u64 (Bv x)] 41) = z := ⟨_, rfl⟩
  have HW0 := Lib.hid hw0
  rw [hw0] at hb e1
  have X0 := Lib.hid e1
  obtain ⟨bx, hbx⟩ : ∃ b, w.heap.size = b := ⟨_, rfl⟩
  have HBX := Lib.hid hbx
  rw [hbx] at hb
  have HS := Lib.hid (fun w' (e : Ext w0 w') => h.ext (e1.trans e))
  have HL : Hid (m.L.length ≤ 64) := h.mb.ok.l2
  have z0 : w0.cell? ⟨bx, 0, none⟩ = some (ci 4) := hb.cell 0
  clear h e1 hb hw0 hbx
  go_enter Try.func25, Try.ntmps25
  go_upto_region 1 with fail
  rw [HW0.out, HBX.out]
  go_wp2_with (first
    | (go_at_call 15; refine H15.out.mono ?_; clear H15; rintro e w3 ⟨rfl, q, hq⟩
       have X3 : Hid (Ext w2 w3) := by rw [← hq]; exact (Ext.refl _).drewN q
       clear hq)
    | (go_at_call 41; refine (rrow_calls r m av A w1 (HS.out w1 X1.out).rm).mono ?_; rintro e w2 ⟨v2, rfl, o2, x2⟩
       have X2 := Lib.hid x2
       have H15 := Lib.hid (rows_calls v1 v2 m.L w2 (x2.own O1.out).rd o2.rd (by have := HL.out; omega))
       clear o2 x2)
    | (go_at_call 12; refine (row_calls g lb m w0 (HS.out w0 (Ext.refl _)).mb).mono ?_; rintro e w1 ⟨v1, rfl, o1, x1⟩
       have X1 := Lib.hid x1
       have O1 := Lib.hid o1
       clear o1 x1)
    | fail)
  go_ret
  exact ⟨rfl, X0.out.trans (X1.out.trans (X2.out.trans X3.out))⟩
theorem wave_k (win : List Nat) (k : Nat) (hk : k < 8) : (wave win)[k]? = some (wvF k 0 (0, 0) win) := by
  unfold wave; rw [List.getElem?_map, List.getElem?_range hk]; rfl
set_option maxHeartbeats 4000000 in
theorem step_wave (g lb r K : Nat) (m : Mt) (av : Value) (A : List Ht) (who s t : Int) (x : BitVec 64) (w : World) (h : St9 w g lb r m av A K) :
    Calls Try.prog 25 #[.pointer (some ⟨g, 0, none⟩), .pointer (some ⟨r, 0, none⟩), .agg #[ci 5, ci who, ci s, ci t, .int .u64 (Bv x)]] w fun e w' => e = .returned (.bool true) ∧ Ext w w' := by
  have e1 := Ext.of_alloc (w := w) (.cells #[ci 5, ci who, ci s, ci t, .int .u64 (Bv x)] 41)
  have hb := Blk.new w #[ci 5, ci who, ci s, ci t, .int .u64 (Bv x)] 41
  obtain ⟨w0, hw0⟩ : ∃ z, w.alloc (.cells #[ci 5, ci who, ci s, ci t, .int .u64 (Bv x)] 41) = z := ⟨_, rfl⟩
  have HW0 := Lib.hid hw0
  rw [hw0] at hb e1
  have X0 := Lib.hid e1
  obtain ⟨bx, hbx⟩ : ∃ b, w.heap.size = b := ⟨_, rfl⟩
  have HBX := Lib.hid hbx
  rw [hbx] at hb
  have HS := Lib.hid (fun w' (e : Ext w0 w') => h.ext (e1.trans e))
  have hbd := h.bn.win (by have := h.kk; omega)
  have HBD := Lib.hid hbd
  have HV := Lib.hid (wave_calls g lb m w0 (h.ext e1).mb hbd)
  have hlw : (wave m.win).length = 8 := by unfold wave; simp
  obtain ⟨o0, o1, o2, o3, o4, o5, o6, o7, hwv⟩ := eight (wave m.win) hlw
  have HAT := Lib.hid (fun k (hk : k < 8) => wave_k m.win k hk)
  rw [hwv] at HV HAT
  rw [show V cx [o0, o1, o2, o3, o4, o5, o6, o7] = (#[cx o0, cx o1, cx o2, cx o3, cx o4, cx o5, cx o6, cx o7] : Array Value) from by unfold V; rfl] at HV
  have HSELF := Lib.hid (fun k (hk : k < 8) => by
    have hm : wvF k 0 (0, 0) m.win ∈ wave m.win := by unfold wave; exact List.mem_map.2 ⟨k, List.mem_range.2 hk, rfl⟩
    have b := wave_bd m.win hbd h.mb.ok.w8 _ hm
    exact And.intro (bd_self b.1 (by omega)) (bd_self b.2 (by omega)))
  have z0 : w0.cell? ⟨bx, 0, none⟩ = some (ci 5) := hb.cell 0
  clear h e1 hb hw0 hbx hbd hlw hwv
  go_enter Try.func25, Try.ntmps25
  go_upto_region 1 with fail
  rw [HW0.out, HBX.out]
  go_wp2_with (first
    | (go_at_call 21; refine HV.out.mono ?_; clear HV; rintro e w1 ⟨rfl, x1⟩
       have X1 := Lib.hid x1
       clear x1)
    | fail)
  have hbl := Blk.new w1 #[cx o0, cx o1, cx o2, cx o3, cx o4, cx o5, cx o6, cx o7] 48
  have e12 := Ext.of_alloc (w := w1) (.cells #[cx o0, cx o1, cx o2, cx o3, cx o4, cx o5, cx o6, cx o7] 48)
  obtain ⟨w2, hw2⟩ : ∃ z, w1.alloc (.cells #[cx o0, cx o1, cx o2, cx o3, cx o4, cx o5, cx o6, cx o7] 48) = z := ⟨_, rfl⟩
  have HW2 := Lib.hid hw2
  rw [hw2] at hbl e12
  obtain ⟨sw, hsw⟩ : ∃ b, w1.heap.size = b := ⟨_, rfl⟩
  rw [hsw] at hbl
  rw [HW2.out, hsw]
  have HCL := Lib.hid (fun k (hk : k < 8) => show w2.cell? ⟨sw, k, none⟩ = some (cx (wvF k 0 (0, 0) m.win)) by
    rw [hbl.cell, show (#[cx o0, cx o1, cx o2, cx o3, cx o4, cx o5, cx o6, cx o7] : Array Value) = V cx [o0, o1, o2, o3, o4, o5, o6, o7] from by unfold V; rfl, V_get, HAT.out k hk]
    rfl)
  have X2 := Lib.hid (X1.out.trans e12)
  clear hw2 hsw hbl e12
  go_loopw [9] (fun iv wx => ∃ (k d : Nat), k ≤ 8 ∧ iv = .int .i64 k ∧ wx = w2.drewN d) (fun iv _ => (8 - (intOf iv).toNat))
  case atStart => exact ⟨0, 0, by omega, rfl, rfl⟩
  case round =>
    obtain ⟨k, d, hk, rfl, rfl⟩ := hrel
    by_cases hlt : k < 8
    · have hlt' : (k : Int) < 8 := by omega
      have HR := Lib.hid (rwave_calls r m av A k hlt (w2.drewN d) (HS.out _ (X2.out.drewN d)).rm HBD.out)
      have hck := HCL.out k hlt
      obtain ⟨s1, s2⟩ := HSELF.out k hlt
      generalize wvF k 0 (0, 0) m.win = P at *
      obtain ⟨A1, A2⟩ := P
      simp only at s1 s2 hck HR
      have n1 : (FloatKind.f64.format.order A1 A1 != some .eq) = false := by rw [s1]; rfl
      have n2 : (FloatKind.f64.format.order A2 A2 != some .eq) = false := by rw [s2]; rfl
      clear s1 s2
      go_wp2_with (first
        | (go_at_call 42; refine HR.out.mono ?_; clear HR; rintro e w3 ⟨rfl, q, hq⟩
           obtain ⟨y, hy⟩ : ∃ y, w3 = w2.drewN y := ⟨d + q, by rw [← hq, World.drewN_drewN]⟩
           clear hq
           subst hy)
        | fail)
      go_roundw
      case measure => simp only [intOf]; omega
      case rel => exact ⟨k + 1, _, by omega, by go_num, rfl⟩
    · obtain rfl : k = 8 := by omega
      go_wp2_with fail
      go_ret
      exact ⟨rfl, X0.out.trans (X2.out.drewN d)⟩
theorem step_other (pv rv : Value) (k who s t : Int) (x : BitVec 64) (w : World) (hk : k < 1 ∨ 5 < k) :
    Calls Try.prog 25 #[pv, rv, .agg #[ci k, ci who, ci s, ci t, .int .u64 (Bv x)]] w fun e w' => e = .returned (.bool true) ∧ Ext w w' := by
  have X0 := Lib.hid (Ext.of_alloc (w := w) (.cells #[ci k, ci who, ci s, ci t, .int .u64 (Bv x)] 41))
  have hb := Blk.new w #[ci k, ci who, ci s, ci t, .int .u64 (Bv x)] 41
  obtain ⟨w0, hw0⟩ : ∃ z, w.alloc (.cells #[ci k, ci who, ci s, ci t, .int .u64 (Bv x)] 41) = z := ⟨_, rfl⟩
  have HW0 := Lib.hid hw0
  rw [hw0] at hb X0
  obtain ⟨bx, hbx⟩ : ∃ b, w.heap.size = b := ⟨_, rfl⟩
  have HBX := Lib.hid hbx
  rw [hbx] at hb
  have z0 : w0.cell? ⟨bx, 0, none⟩ = some (ci k) := hb.cell 0
  have d1 : (k == 1) = false := by rw [beq_eq_false_iff_ne]; omega
  have d2 : (k == 2) = false := by rw [beq_eq_false_iff_ne]; omega
  have d3 : (k == 3) = false := by rw [beq_eq_false_iff_ne]; omega
  have d4 : (k == 4) = false := by rw [beq_eq_false_iff_ne]; omega
  have d5 : (k == 5) = false := by rw [beq_eq_false_iff_ne]; omega
  clear hw0 hbx hb hk
  go_enter Try.func25, Try.ntmps25
  go_upto_region 1 with fail
  rw [HW0.out, HBX.out]
  go_wp2_with fail
  go_ret
  exact ⟨rfl, X0.out⟩
end Go.Proofs.Ytjgdeijodjihlaa
