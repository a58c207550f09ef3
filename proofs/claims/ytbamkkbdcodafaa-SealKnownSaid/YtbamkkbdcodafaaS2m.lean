/- The walks of layer 2 (seal): Join and Turn, the program's and the document's. -/
import Derived.Test.YtbamkkbdcodafaaS2l
import Derived.Test.YtbamkkbdcodafaaS2j
namespace Go.Proofs.Ytbamkkbdcodafaa
open Go.RowKit
set_option linter.unusedVariables false

theorem join_calls (a b : BitVec 32) (n : Int) (hn : -9223372036854775808 ≤ n ∧ n ≤ 9223372036854775807) (w : World) : Calls Try.prog 31 #[c32 a, c32 b, .int .i64 n] w fun e w' => e = .returned (c32 (stn a n ^^^ b)) ∧ Ext w w' := by
  have H := Lib.hid (led_calls a n hn w)
  clear hn
  go_enter Try.func31, Try.ntmps31
  go_wp2_with (first | (go_at_call 37; refine H.out.mono ?_; rintro e w1 ⟨rfl, e1⟩) | fail)
  go_ret
  exact ⟨rfl, e1⟩
theorem rjoin_calls (a b : BitVec 32) (n : Int) (hn : -9223372036854775808 ≤ n ∧ n ≤ 9223372036854775807) (w : World) : Calls Try.prog 28 #[c32 a, c32 b, .int .i64 n] w fun e w' => e = .returned (c32 (stn a n ^^^ b)) ∧ w = w' := by
  have H := Lib.hid (steps_calls a n hn w)
  clear hn
  go_enter Try.func28, Try.ntmps28
  go_wp2_with (first | (go_at_call 38; refine H.out.mono ?_; rintro e w1 ⟨rfl, rfl⟩) | fail)
  go_ret
  exact ⟨rfl, rfl⟩
/-- what a byte that is turned makes of a sum -/
def trnw (a : BitVec 32) (n : Int) (by8 : BitVec 8) : BitVec 32 := stn (stpN 8 (by8.setWidth 32)) n ^^^ a
theorem turn_calls (a : BitVec 32) (n : Int) (hn : -9223372036854775808 ≤ n ∧ n ≤ 9223372036854775807) (b : BitVec 8) (w : World) : Calls Try.prog 27 #[c32 a, .int .i64 n, cb b] w fun e w' => e = .returned (c32 (trnw a n b)) ∧ Ext w w' := by
  have HT := Lib.hid (taken_calls (b.setWidth 32) _ [0#8] (w.alloc (.cells #[.int .u8 0] 5)) (by rw [V_zero1]; exact (Blk.new w (V cb [0#8]) 5).whole (n := 1) (c := 1) rfl) (by simp))
  rw [tkn_zero1] at HT
  have HN := Lib.hid hn
  clear hn
  go_enter Try.func27, Try.ntmps27
  go_wp2_with (first
    | (go_at_call 34; refine HT.out.mono ?_; clear HT; rintro e w1 ⟨rfl, A, B, C, h1⟩
       have e1 : Ext w w1 := by rw [← h1]; exact (Ext.of_alloc _).trans (Ext.of_alloc3 _ _ _)
       have H := Lib.hid (led_calls (stpN 8 (b.setWidth 32)) n HN.out w1)
       clear h1)
    | (go_at_call 37; refine H.out.mono ?_; rintro e w2 ⟨rfl, e2⟩) | fail)
  go_ret
  exact ⟨rfl, e1.trans e2⟩
theorem stn_one (v : BitVec 32) : stn v 1 = stpN 8 v := by rw [stn_eq]; rfl
theorem rturn_calls (a : BitVec 32) (n : Int) (hn : -9223372036854775808 ≤ n ∧ n ≤ 9223372036854775807) (b : BitVec 8) (w : World) : Calls Try.prog 29 #[c32 a, .int .i64 n, cb b] w fun e w' => e = .returned (c32 (trnw a n b)) ∧ w = w' := by
  have H1 := Lib.hid (steps_calls (b.setWidth 32) 1 (by omega) w)
  rw [stn_one] at H1
  have H2 := Lib.hid (steps_calls (stpN 8 (b.setWidth 32)) n hn w)
  clear hn
  go_enter Try.func29, Try.ntmps29
  go_wp2_with (first
    | (go_at_call 38; refine H1.out.mono ?_; clear H1; rintro e w1 ⟨rfl, rfl⟩)
    | (go_at_call 38; refine H2.out.mono ?_; clear H2; rintro e w1 ⟨rfl, rfl⟩) | fail)
  go_ret
  exact ⟨rfl, rfl⟩
end Go.Proofs.Ytbamkkbdcodafaa
