/- Layer 9 (load): the law's step: what is asked of a meter and of its reference. -/
import Derived.Test.YtjgdeijodjihlaaR9g
import Derived.Test.YtjgdeijodjihlaaD9t
import Derived.Test.YtjgdeijodjihlaaD9x
namespace Go.Proofs.Ytjgdeijodjihlaa
open Go.RowKit
set_option linter.unusedVariables false

set_option maxHeartbeats 4000000 in
theorem step_sums (g lb r K : Nat) (m : Mt) (av : Value) (A : List Ht) (who s t : Int) (x : BitVec 64) (w : World) (h : St9 w g lb r m av A K) :
    Calls Try.prog 25 #[.pointer (some ⟨g, 0, none⟩), .pointer (some ⟨r, 0, none⟩), .agg #[ci 3, ci who, ci s, ci t, .int .u64 (Bv x)]] w fun e w' => e = .returned (.bool true) ∧ Ext w w' := by
  have e1 := Ext.of_alloc (w := w) (.cells #[ci 3, ci who, ci s, ci t, .int .u64 (Bv x)] 41)
  have hb := Blk.new w #[ci 3, ci who, ci s, ci t, .int .u64 (Bv x)] 41
  obtain ⟨w0, hw0⟩ : ∃ z, w.alloc (.cells #[ci 3, ci who, ci s, ci t, .int .u64 (Bv x)] 41) = z := ⟨_, rfl⟩
  have HW0 := Lib.hid hw0
  rw [hw0] at hb e1
  have X0 := Lib.hid e1
  obtain ⟨bx, hbx⟩ : ∃ b, w.heap.size = b := ⟨_, rfl⟩
  have HBX := Lib.hid hbx
  rw [hbx] at hb
  have HS := Lib.hid (fun w' (e : Ext w0 w') => h.ext (e1.trans e))
  have KX : Hid (∀ w', Ext w0 w' → Boxd w' bx s t x) := fun w' e => ⟨(hb.ext e).cell 2, (hb.ext e).cell 3, (hb.ext e).cell 4⟩
  have HBL := Lib.hid h.rm.bl
  have z0 : w0.cell? ⟨bx, 0, none⟩ = some (ci 3) := hb.cell 0
  have K0 : Boxd w0 bx s t x := KX.out _ (Ext.refl _)
  clear h e1 hb hw0 hbx
  go_enter Try.func25, Try.ntmps25
  go_upto_region 1 with fail
  rw [HW0.out, HBX.out]
  go_upto_region 8 with fail
  go_region_held3 (fun w' => Boxd w' bx s t x) (first | exact K0 | exact KX.out _ (by repeat (first | exact Ext.refl _ | exact X2.out | exact X3.out | exact X4.out | exact X5.out | exact X6.out | exact X7.out | exact X8.out | exact X9.out | exact X10.out | refine Ext.alloc ?_ _ | refine Ext.drew ?_ | refine Ext.trans ?_ X2.out | refine Ext.trans ?_ X3.out | refine Ext.trans ?_ X4.out | refine Ext.trans ?_ X5.out | refine Ext.trans ?_ X6.out | refine Ext.trans ?_ X7.out | refine Ext.trans ?_ X8.out | refine Ext.trans ?_ X9.out | refine Ext.trans ?_ X10.out)))
    (first
      | (go_at_call 40; refine (rtop_calls r m av A _ (HS.out _ (by repeat (first | exact Ext.refl _ | exact X2.out | exact X3.out | exact X4.out | exact X5.out | exact X6.out | exact X7.out | exact X8.out | exact X9.out | refine Ext.alloc ?_ _ | refine Ext.drew ?_ | refine Ext.trans ?_ X2.out | refine Ext.trans ?_ X3.out | refine Ext.trans ?_ X4.out | refine Ext.trans ?_ X5.out | refine Ext.trans ?_ X6.out | refine Ext.trans ?_ X7.out | refine Ext.trans ?_ X8.out | refine Ext.trans ?_ X9.out))).rm).mono ?_; rintro e w10 ⟨rfl, x10⟩; have X10 := Lib.hid x10; clear x10)
      | (go_at_call 29; refine (top_calls g lb m _ (HS.out _ (by repeat (first | exact Ext.refl _ | exact X2.out | exact X3.out | exact X4.out | exact X5.out | exact X6.out | exact X7.out | exact X8.out | refine Ext.alloc ?_ _ | refine Ext.drew ?_ | refine Ext.trans ?_ X2.out | refine Ext.trans ?_ X3.out | refine Ext.trans ?_ X4.out | refine Ext.trans ?_ X5.out | refine Ext.trans ?_ X6.out | refine Ext.trans ?_ X7.out | refine Ext.trans ?_ X8.out))).mb).mono ?_; rintro e w9 ⟨rfl, x9⟩; have X9 := Lib.hid x9; clear x9)
      | (go_at_call 39; refine (rspread_calls r m av A _ (HS.out _ (by repeat (first | exact Ext.refl _ | exact X2.out | exact X3.out | exact X4.out | exact X5.out | exact X6.out | exact X7.out | refine Ext.alloc ?_ _ | refine Ext.drew ?_ | refine Ext.trans ?_ X2.out | refine Ext.trans ?_ X3.out | refine Ext.trans ?_ X4.out | refine Ext.trans ?_ X5.out | refine Ext.trans ?_ X6.out | refine Ext.trans ?_ X7.out))).rm).mono ?_; rintro e w8 ⟨rfl, x8⟩; have X8 := Lib.hid x8; clear x8)
      | (go_at_call 26; refine (spread_calls g lb m _ (HS.out _ (by repeat (first | exact Ext.refl _ | exact X2.out | exact X3.out | exact X4.out | exact X5.out | exact X6.out | refine Ext.alloc ?_ _ | refine Ext.drew ?_ | refine Ext.trans ?_ X2.out | refine Ext.trans ?_ X3.out | refine Ext.trans ?_ X4.out | refine Ext.trans ?_ X5.out | refine Ext.trans ?_ X6.out))).mb HBL.out).mono ?_; rintro e w7 ⟨rfl, x7⟩; have X7 := Lib.hid x7; clear x7)
      | (go_at_call 38; refine (rmean_calls r m av A _ (HS.out _ (by repeat (first | exact Ext.refl _ | exact X2.out | exact X3.out | exact X4.out | exact X5.out | refine Ext.alloc ?_ _ | refine Ext.drew ?_ | refine Ext.trans ?_ X2.out | refine Ext.trans ?_ X3.out | refine Ext.trans ?_ X4.out | refine Ext.trans ?_ X5.out))).rm).mono ?_; rintro e w6 ⟨rfl, x6⟩; have X6 := Lib.hid x6; clear x6)
      | (go_at_call 28; refine (mean_calls g lb m _ (HS.out _ (by repeat (first | exact Ext.refl _ | exact X2.out | exact X3.out | exact X4.out | refine Ext.alloc ?_ _ | refine Ext.drew ?_ | refine Ext.trans ?_ X2.out | refine Ext.trans ?_ X3.out | refine Ext.trans ?_ X4.out))).mb HBL.out).mono ?_; rintro e w5 ⟨rfl, x5⟩; have X5 := Lib.hid x5; clear x5)
      | (go_at_call 37; refine (rsum_calls r m av A _ (HS.out _ (by repeat (first | exact Ext.refl _ | exact X2.out | exact X3.out | refine Ext.alloc ?_ _ | refine Ext.drew ?_ | refine Ext.trans ?_ X2.out | refine Ext.trans ?_ X3.out))).rm).mono ?_; rintro e w4 ⟨rfl, x4⟩; have X4 := Lib.hid x4; clear x4)
      | (go_at_call 27; refine (sum_calls g lb m _ (HS.out _ (by repeat (first | exact Ext.refl _ | exact X2.out | refine Ext.alloc ?_ _ | refine Ext.drew ?_ | refine Ext.trans ?_ X2.out))).mb).mono ?_; rintro e w3 ⟨rfl, x3⟩; have X3 := Lib.hid x3; clear x3)
      | (go_at_call 36; refine (rofP_calls r m av A s _ (HS.out _ (by repeat (first | exact Ext.refl _ | refine Ext.alloc ?_ _ | refine Ext.drew ?_))).rm).mono ?_; rintro e w2 ⟨rfl, q2, hq2⟩
         have X2 : Hid (Ext w0 w2) := by
           have e : Ext w0 w2 := by rw [← hq2]; exact (Ext.refl w0).drew.drewN q2
           exact e
         clear hq2)
      | (go_at_call 20; refine (of_calls g lb m s _ (HS.out _ (by repeat (first | exact Ext.refl _ | refine Ext.alloc ?_ _ | refine Ext.drew ?_))).mb).mono ?_; rintro e w1 ⟨rfl, rfl⟩)
      | (go_at_call 19; refine (like_calls _ _).mono ?_; rintro e w11 ⟨rfl, rfl⟩))
  all_goals (try go_wp2_with fail)
  all_goals go_ret
  all_goals exact ⟨by simp, X0.out.trans (by repeat (first | exact Ext.refl _ | exact X2.out | exact X3.out | exact X4.out | exact X5.out | exact X6.out | exact X7.out | exact X8.out | exact X9.out | exact X10.out | refine Ext.alloc ?_ _ | refine Ext.drew ?_ | refine Ext.trans ?_ X2.out | refine Ext.trans ?_ X3.out | refine Ext.trans ?_ X4.out | refine Ext.trans ?_ X5.out | refine Ext.trans ?_ X6.out | refine Ext.trans ?_ X7.out | refine Ext.trans ?_ X8.out | refine Ext.trans ?_ X9.out | refine Ext.trans ?_ X10.out))⟩
end Go.Proofs.Ytjgdeijodjihlaa
