/- SealTurned: the walk of the law. -/
import Derived.Test.YtbamkkbdcodafaaL2e
namespace Go.Proofs.Ytbamkkbdcodafaa
open Go.RowKit
set_option linter.unusedVariables false

set_option maxHeartbeats 2000000 in
theorem turned_walk (sv : Value) (p : List (BitVec 8)) (a : Int) (b : BitVec 8) (c : Int) (d : BitVec 8) (W : World) (hp : Rd W cb sv p) (hm : p.length ≤ 140737488351232)
    (ha : -9223372036854775808 ≤ a ∧ a ≤ 9223372036854775807) (hc : -9223372036854775808 ≤ c ∧ c ≤ 9223372036854775807) :
    Calls Try.prog 8 #[sv, .int .i64 a, cb b, .int .i64 c, cb d] W fun e w' => e = .returned (.bool true) ∧ Ext W w' := by
  have hm' : (p.length : Int) ≤ 140737488351232 := by omega
  have hp1 := hp
  obtain ⟨ad, pc, rfl, hat⟩ := hp1.at
  clear hat hp1
  have HP := Lib.hid hp
  have HM := Lib.hid hm
  clear hp hm
  have H17 := Lib.hid (known_calls W)
  rcases in_or_out a p.length with ⟨A, rfl, hA⟩ | t1 | ⟨t1, t2⟩
  · rcases in_or_out c p.length with ⟨C, rfl, hC⟩ | u1 | ⟨u1, u2⟩
    · go_enter Try.func8, Try.ntmps8
      go_wp2_with (first
        | (go_at_call 17; refine H17.out.mono ?_; clear H17; rintro e w2 ⟨rfl, e2⟩
           have H18 := Lib.hid (joined_calls _ (.slice none 0 0) p [] w2 (e2.rd HP.out) Rd.nil (by have := HM.out; simp; omega)))
        | (go_at_call 18; refine H18.out.mono ?_; clear H18; rintro e w3 ⟨qv, rfl, ho3, e3⟩; rw [List.append_nil] at ho3
           have H19 := Lib.hid (crc_calls _ p w3 ho3.rd (by have := HM.out; omega)))
        | (go_at_call 19; refine H19.out.mono ?_; clear H19; rintro e w4 ⟨rfl, e4⟩
           have HAt0 : At W w4 w2.heap.size p.length qv (~~~ tkn 0xFFFFFFFF#32 p) p := ⟨e4.own ho3, rfl, rfl, (e2.trans e3).trans e4, e2.size⟩
           obtain ⟨qa, qc, rfl, hform⟩ := HAt0.own.form
           generalize ~~~ tkn 0xFFFFFFFF#32 p = S at *
           obtain ⟨g, qc', x, hq, hcell, hfree, hnext⟩ := HAt0.turned A hA b
           obtain ⟨rfl, rfl⟩ : qa = some ⟨g, 0, none⟩ ∧ qc = qc' := by simpa using hq
           have HNX := Lib.hid hnext
           have HAt := Lib.hid HAt0
           clear hnext hq ho3 e2 e3 e4 hform HAt0)
        | (go_at_call 27; have hx0 := HNX.out; clear hx0; refine (turn_calls S ((p.length : Int) - 1 - A) (by have := HM.out; omega) b _).mono ?_; rintro e w5 ⟨rfl, e5⟩
           have HAt1 := HNX.out w5 e5
           generalize trnw S ((p.length : Int) - 1 - A) b = S1 at *
           generalize p.set A (x ^^^ b) = Q1 at *
           clear e5 HNX
           obtain ⟨g2, qc2, x2, hq2, hcell2, hfree2, hnext2⟩ := HAt1.turned C hC d
           obtain ⟨rfl, rfl⟩ : g = g2 ∧ qc = qc2 := by simpa using hq2
           have HNX2 := Lib.hid hnext2
           clear hnext2 hq2 HAt1)
        | (go_at_call 27; refine (turn_calls S1 ((p.length : Int) - 1 - C) (by have := HM.out; omega) d _).mono ?_; rintro e w6 ⟨rfl, e6⟩
           have HAt2 := Lib.hid (HNX2.out w6 e6)
           clear e6 HNX2)
        | (go_at_call 19; refine (crc_calls _ _ _ HAt2.out.own.rd (by rw [HAt2.out.len]; have := HM.out; omega)).mono ?_; rintro e w9 ⟨rfl, e9⟩; rw [HAt2.out.sum])
        | fail)
      go_ret
      exact ⟨by simp, HAt2.out.ext.trans e9⟩
    · go_enter Try.func8, Try.ntmps8
      go_wp2_with (first
        | (go_at_call 17; refine H17.out.mono ?_; clear H17; rintro e w2 ⟨rfl, e2⟩
           have H18 := Lib.hid (joined_calls _ (.slice none 0 0) p [] w2 (e2.rd HP.out) Rd.nil (by have := HM.out; simp; omega)))
        | (go_at_call 18; refine H18.out.mono ?_; clear H18; rintro e w3 ⟨qv, rfl, ho3, e3⟩; rw [List.append_nil] at ho3
           have H19 := Lib.hid (crc_calls _ p w3 ho3.rd (by have := HM.out; omega)))
        | (go_at_call 19; refine H19.out.mono ?_; clear H19; rintro e w4 ⟨rfl, e4⟩
           have HAt0 : At W w4 w2.heap.size p.length qv (~~~ tkn 0xFFFFFFFF#32 p) p := ⟨e4.own ho3, rfl, rfl, (e2.trans e3).trans e4, e2.size⟩
           obtain ⟨qa, qc, rfl, hform⟩ := HAt0.own.form
           generalize ~~~ tkn 0xFFFFFFFF#32 p = S at *
           obtain ⟨g, qc', x, hq, hcell, hfree, hnext⟩ := HAt0.turned A hA b
           obtain ⟨rfl, rfl⟩ : qa = some ⟨g, 0, none⟩ ∧ qc = qc' := by simpa using hq
           have HNX := Lib.hid hnext
           have HAt := Lib.hid HAt0
           clear hnext hq ho3 e2 e3 e4 hform HAt0)
        | (go_at_call 27; have hx0 := HNX.out; clear hx0; refine (turn_calls S ((p.length : Int) - 1 - A) (by have := HM.out; omega) b _).mono ?_; rintro e w5 ⟨rfl, e5⟩
           have HAt1 := HNX.out w5 e5
           generalize trnw S ((p.length : Int) - 1 - A) b = S1 at *
           generalize p.set A (x ^^^ b) = Q1 at *
           clear e5 HNX
           have HAt2 := Lib.hid HAt1
           clear HAt1)
        | (go_at_call 19; refine (crc_calls _ _ _ HAt2.out.own.rd (by rw [HAt2.out.len]; have := HM.out; omega)).mono ?_; rintro e w9 ⟨rfl, e9⟩; rw [HAt2.out.sum])
        | fail)
      go_ret
      exact ⟨by simp, HAt2.out.ext.trans e9⟩
    · go_enter Try.func8, Try.ntmps8
      go_wp2_with (first
        | (go_at_call 17; refine H17.out.mono ?_; clear H17; rintro e w2 ⟨rfl, e2⟩
           have H18 := Lib.hid (joined_calls _ (.slice none 0 0) p [] w2 (e2.rd HP.out) Rd.nil (by have := HM.out; simp; omega)))
        | (go_at_call 18; refine H18.out.mono ?_; clear H18; rintro e w3 ⟨qv, rfl, ho3, e3⟩; rw [List.append_nil] at ho3
           have H19 := Lib.hid (crc_calls _ p w3 ho3.rd (by have := HM.out; omega)))
        | (go_at_call 19; refine H19.out.mono ?_; clear H19; rintro e w4 ⟨rfl, e4⟩
           have HAt0 : At W w4 w2.heap.size p.length qv (~~~ tkn 0xFFFFFFFF#32 p) p := ⟨e4.own ho3, rfl, rfl, (e2.trans e3).trans e4, e2.size⟩
           obtain ⟨qa, qc, rfl, hform⟩ := HAt0.own.form
           generalize ~~~ tkn 0xFFFFFFFF#32 p = S at *
           obtain ⟨g, qc', x, hq, hcell, hfree, hnext⟩ := HAt0.turned A hA b
           obtain ⟨rfl, rfl⟩ : qa = some ⟨g, 0, none⟩ ∧ qc = qc' := by simpa using hq
           have HNX := Lib.hid hnext
           have HAt := Lib.hid HAt0
           clear hnext hq ho3 e2 e3 e4 hform HAt0)
        | (go_at_call 27; have hx0 := HNX.out; clear hx0; refine (turn_calls S ((p.length : Int) - 1 - A) (by have := HM.out; omega) b _).mono ?_; rintro e w5 ⟨rfl, e5⟩
           have HAt1 := HNX.out w5 e5
           generalize trnw S ((p.length : Int) - 1 - A) b = S1 at *
           generalize p.set A (x ^^^ b) = Q1 at *
           clear e5 HNX
           have HAt2 := Lib.hid HAt1
           clear HAt1)
        | (go_at_call 19; refine (crc_calls _ _ _ HAt2.out.own.rd (by rw [HAt2.out.len]; have := HM.out; omega)).mono ?_; rintro e w9 ⟨rfl, e9⟩; rw [HAt2.out.sum])
        | fail)
      go_ret
      exact ⟨by simp, HAt2.out.ext.trans e9⟩
  · rcases in_or_out c p.length with ⟨C, rfl, hC⟩ | u1 | ⟨u1, u2⟩
    · go_enter Try.func8, Try.ntmps8
      go_wp2_with (first
        | (go_at_call 17; refine H17.out.mono ?_; clear H17; rintro e w2 ⟨rfl, e2⟩
           have H18 := Lib.hid (joined_calls _ (.slice none 0 0) p [] w2 (e2.rd HP.out) Rd.nil (by have := HM.out; simp; omega)))
        | (go_at_call 18; refine H18.out.mono ?_; clear H18; rintro e w3 ⟨qv, rfl, ho3, e3⟩; rw [List.append_nil] at ho3
           have H19 := Lib.hid (crc_calls _ p w3 ho3.rd (by have := HM.out; omega)))
        | (go_at_call 19; refine H19.out.mono ?_; clear H19; rintro e w4 ⟨rfl, e4⟩
           have HAt0 : At W w4 w2.heap.size p.length qv (~~~ tkn 0xFFFFFFFF#32 p) p := ⟨e4.own ho3, rfl, rfl, (e2.trans e3).trans e4, e2.size⟩
           obtain ⟨qa, qc, rfl, hform⟩ := HAt0.own.form
           generalize ~~~ tkn 0xFFFFFFFF#32 p = S at *
           have HAt1 := HAt0
           have HAt := Lib.hid HAt0
           clear ho3 e2 e3 e4 hform HAt0
           obtain ⟨g2, qc2, x2, hq2, hcell2, hfree2, hnext2⟩ := HAt1.turned C hC d
           obtain ⟨rfl, rfl⟩ : qa = some ⟨g2, 0, none⟩ ∧ qc = qc2 := by simpa using hq2
           have HNX2 := Lib.hid hnext2
           clear hnext2 hq2 HAt1)
        | (go_at_call 27; refine (turn_calls S ((p.length : Int) - 1 - C) (by have := HM.out; omega) d _).mono ?_; rintro e w6 ⟨rfl, e6⟩
           have HAt2 := Lib.hid (HNX2.out w6 e6)
           clear e6 HNX2)
        | (go_at_call 19; refine (crc_calls _ _ _ HAt2.out.own.rd (by rw [HAt2.out.len]; have := HM.out; omega)).mono ?_; rintro e w9 ⟨rfl, e9⟩; rw [HAt2.out.sum])
        | fail)
      go_ret
      exact ⟨by simp, HAt2.out.ext.trans e9⟩
    · go_enter Try.func8, Try.ntmps8
      go_wp2_with (first
        | (go_at_call 17; refine H17.out.mono ?_; clear H17; rintro e w2 ⟨rfl, e2⟩
           have H18 := Lib.hid (joined_calls _ (.slice none 0 0) p [] w2 (e2.rd HP.out) Rd.nil (by have := HM.out; simp; omega)))
        | (go_at_call 18; refine H18.out.mono ?_; clear H18; rintro e w3 ⟨qv, rfl, ho3, e3⟩; rw [List.append_nil] at ho3
           have H19 := Lib.hid (crc_calls _ p w3 ho3.rd (by have := HM.out; omega)))
        | (go_at_call 19; refine H19.out.mono ?_; clear H19; rintro e w4 ⟨rfl, e4⟩
           have HAt0 : At W w4 w2.heap.size p.length qv (~~~ tkn 0xFFFFFFFF#32 p) p := ⟨e4.own ho3, rfl, rfl, (e2.trans e3).trans e4, e2.size⟩
           obtain ⟨qa, qc, rfl, hform⟩ := HAt0.own.form
           generalize ~~~ tkn 0xFFFFFFFF#32 p = S at *
           have HAt1 := HAt0
           have HAt := Lib.hid HAt0
           clear ho3 e2 e3 e4 hform HAt0
           have HAt2 := Lib.hid HAt1
           clear HAt1)
        | (go_at_call 19; refine (crc_calls _ _ _ HAt2.out.own.rd (by rw [HAt2.out.len]; have := HM.out; omega)).mono ?_; rintro e w9 ⟨rfl, e9⟩; rw [HAt2.out.sum])
        | fail)
      go_ret
      exact ⟨by simp, HAt2.out.ext.trans e9⟩
    · go_enter Try.func8, Try.ntmps8
      go_wp2_with (first
        | (go_at_call 17; refine H17.out.mono ?_; clear H17; rintro e w2 ⟨rfl, e2⟩
           have H18 := Lib.hid (joined_calls _ (.slice none 0 0) p [] w2 (e2.rd HP.out) Rd.nil (by have := HM.out; simp; omega)))
        | (go_at_call 18; refine H18.out.mono ?_; clear H18; rintro e w3 ⟨qv, rfl, ho3, e3⟩; rw [List.append_nil] at ho3
           have H19 := Lib.hid (crc_calls _ p w3 ho3.rd (by have := HM.out; omega)))
        | (go_at_call 19; refine H19.out.mono ?_; clear H19; rintro e w4 ⟨rfl, e4⟩
           have HAt0 : At W w4 w2.heap.size p.length qv (~~~ tkn 0xFFFFFFFF#32 p) p := ⟨e4.own ho3, rfl, rfl, (e2.trans e3).trans e4, e2.size⟩
           obtain ⟨qa, qc, rfl, hform⟩ := HAt0.own.form
           generalize ~~~ tkn 0xFFFFFFFF#32 p = S at *
           have HAt1 := HAt0
           have HAt := Lib.hid HAt0
           clear ho3 e2 e3 e4 hform HAt0
           have HAt2 := Lib.hid HAt1
           clear HAt1)
        | (go_at_call 19; refine (crc_calls _ _ _ HAt2.out.own.rd (by rw [HAt2.out.len]; have := HM.out; omega)).mono ?_; rintro e w9 ⟨rfl, e9⟩; rw [HAt2.out.sum])
        | fail)
      go_ret
      exact ⟨by simp, HAt2.out.ext.trans e9⟩
  · rcases in_or_out c p.length with ⟨C, rfl, hC⟩ | u1 | ⟨u1, u2⟩
    · go_enter Try.func8, Try.ntmps8
      go_wp2_with (first
        | (go_at_call 17; refine H17.out.mono ?_; clear H17; rintro e w2 ⟨rfl, e2⟩
           have H18 := Lib.hid (joined_calls _ (.slice none 0 0) p [] w2 (e2.rd HP.out) Rd.nil (by have := HM.out; simp; omega)))
        | (go_at_call 18; refine H18.out.mono ?_; clear H18; rintro e w3 ⟨qv, rfl, ho3, e3⟩; rw [List.append_nil] at ho3
           have H19 := Lib.hid (crc_calls _ p w3 ho3.rd (by have := HM.out; omega)))
        | (go_at_call 19; refine H19.out.mono ?_; clear H19; rintro e w4 ⟨rfl, e4⟩
           have HAt0 : At W w4 w2.heap.size p.length qv (~~~ tkn 0xFFFFFFFF#32 p) p := ⟨e4.own ho3, rfl, rfl, (e2.trans e3).trans e4, e2.size⟩
           obtain ⟨qa, qc, rfl, hform⟩ := HAt0.own.form
           generalize ~~~ tkn 0xFFFFFFFF#32 p = S at *
           have HAt1 := HAt0
           have HAt := Lib.hid HAt0
           clear ho3 e2 e3 e4 hform HAt0
           obtain ⟨g2, qc2, x2, hq2, hcell2, hfree2, hnext2⟩ := HAt1.turned C hC d
           obtain ⟨rfl, rfl⟩ : qa = some ⟨g2, 0, none⟩ ∧ qc = qc2 := by simpa using hq2
           have HNX2 := Lib.hid hnext2
           clear hnext2 hq2 HAt1)
        | (go_at_call 27; refine (turn_calls S ((p.length : Int) - 1 - C) (by have := HM.out; omega) d _).mono ?_; rintro e w6 ⟨rfl, e6⟩
           have HAt2 := Lib.hid (HNX2.out w6 e6)
           clear e6 HNX2)
        | (go_at_call 19; refine (crc_calls _ _ _ HAt2.out.own.rd (by rw [HAt2.out.len]; have := HM.out; omega)).mono ?_; rintro e w9 ⟨rfl, e9⟩; rw [HAt2.out.sum])
        | fail)
      go_ret
      exact ⟨by simp, HAt2.out.ext.trans e9⟩
    · go_enter Try.func8, Try.ntmps8
      go_wp2_with (first
        | (go_at_call 17; refine H17.out.mono ?_; clear H17; rintro e w2 ⟨rfl, e2⟩
           have H18 := Lib.hid (joined_calls _ (.slice none 0 0) p [] w2 (e2.rd HP.out) Rd.nil (by have := HM.out; simp; omega)))
        | (go_at_call 18; refine H18.out.mono ?_; clear H18; rintro e w3 ⟨qv, rfl, ho3, e3⟩; rw [List.append_nil] at ho3
           have H19 := Lib.hid (crc_calls _ p w3 ho3.rd (by have := HM.out; omega)))
        | (go_at_call 19; refine H19.out.mono ?_; clear H19; rintro e w4 ⟨rfl, e4⟩
           have HAt0 : At W w4 w2.heap.size p.length qv (~~~ tkn 0xFFFFFFFF#32 p) p := ⟨e4.own ho3, rfl, rfl, (e2.trans e3).trans e4, e2.size⟩
           obtain ⟨qa, qc, rfl, hform⟩ := HAt0.own.form
           generalize ~~~ tkn 0xFFFFFFFF#32 p = S at *
           have HAt1 := HAt0
           have HAt := Lib.hid HAt0
           clear ho3 e2 e3 e4 hform HAt0
           have HAt2 := Lib.hid HAt1
           clear HAt1)
        | (go_at_call 19; refine (crc_calls _ _ _ HAt2.out.own.rd (by rw [HAt2.out.len]; have := HM.out; omega)).mono ?_; rintro e w9 ⟨rfl, e9⟩; rw [HAt2.out.sum])
        | fail)
      go_ret
      exact ⟨by simp, HAt2.out.ext.trans e9⟩
    · go_enter Try.func8, Try.ntmps8
      go_wp2_with (first
        | (go_at_call 17; refine H17.out.mono ?_; clear H17; rintro e w2 ⟨rfl, e2⟩
           have H18 := Lib.hid (joined_calls _ (.slice none 0 0) p [] w2 (e2.rd HP.out) Rd.nil (by have := HM.out; simp; omega)))
        | (go_at_call 18; refine H18.out.mono ?_; clear H18; rintro e w3 ⟨qv, rfl, ho3, e3⟩; rw [List.append_nil] at ho3
           have H19 := Lib.hid (crc_calls _ p w3 ho3.rd (by have := HM.out; omega)))
        | (go_at_call 19; refine H19.out.mono ?_; clear H19; rintro e w4 ⟨rfl, e4⟩
           have HAt0 : At W w4 w2.heap.size p.length qv (~~~ tkn 0xFFFFFFFF#32 p) p := ⟨e4.own ho3, rfl, rfl, (e2.trans e3).trans e4, e2.size⟩
           obtain ⟨qa, qc, rfl, hform⟩ := HAt0.own.form
           generalize ~~~ tkn 0xFFFFFFFF#32 p = S at *
           have HAt1 := HAt0
           have HAt := Lib.hid HAt0
           clear ho3 e2 e3 e4 hform HAt0
           have HAt2 := Lib.hid HAt1
           clear HAt1)
        | (go_at_call 19; refine (crc_calls _ _ _ HAt2.out.own.rd (by rw [HAt2.out.len]; have := HM.out; omega)).mono ?_; rintro e w9 ⟨rfl, e9⟩; rw [HAt2.out.sum])
        | fail)
      go_ret
      exact ⟨by simp, HAt2.out.ext.trans e9⟩
theorem turned_walk' (sv : Value) (p : List (BitVec 8)) (a : Int) (b : BitVec 8) (c : Int) (d : BitVec 8) (W : World) (hp : Rd W cb sv p) (hm : p.length * 1 ≤ 140737488351232)
    (ha : -9223372036854775808 ≤ a ∧ a ≤ 9223372036854775807) (hc : -9223372036854775808 ≤ c ∧ c ≤ 9223372036854775807) :
    Calls Try.prog 8 #[sv, .int .i64 a, cb b, .int .i64 c, cb d] W fun e w' => e = .returned (.bool true) ∧ Below W.heap.size W w' :=
  (turned_walk sv p a b c d W hp (by omega) ha hc).mono fun e w' h => ⟨h.1, h.2.to⟩
end Go.Proofs.Ytbamkkbdcodafaa
