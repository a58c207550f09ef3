/- SealKnown: the walk of the law. -/
import Derived.Test.YtbamkkbdcodafaaS2m
import Derived.Test.YtbamkkbdcodafaaS2h
import Derived.Test.YtbamkkbdcodafaaS2i
import Derived.Test.YtbamkkbdcodafaaEqa
namespace Go.Proofs.Ytbamkkbdcodafaa
open Go.RowKit
set_option linter.unusedVariables false

theorem join_at (a b r : BitVec 32) (n : Int) (A B R : Int) (hn : -9223372036854775808 ≤ n ∧ n ≤ 9223372036854775807) (hA : A = Bv a) (hB : B = Bv b) (hR : R = Bv r) (h : stn a n ^^^ b = r) (w : World) :
    Calls Try.prog 31 #[.int .u32 A, .int .u32 B, .int .i64 n] w fun e w' => e = .returned (.int .u32 R) ∧ Ext w w' := by
  subst hA hB hR h; exact join_calls a b n hn w
theorem turn_at (a : BitVec 32) (b : BitVec 8) (r : BitVec 32) (n : Int) (A B R : Int) (hn : -9223372036854775808 ≤ n ∧ n ≤ 9223372036854775807) (hA : A = Bv a) (hB : B = Bv b) (hR : R = Bv r) (h : trnw a n b = r) (w : World) :
    Calls Try.prog 27 #[.int .u32 A, .int .i64 n, .int .u8 B] w fun e w' => e = .returned (.int .u32 R) ∧ Ext w w' := by
  subst hA hB hR h; exact turn_calls a n hn b w
theorem tail_at (w : World) : Calls Try.prog 26 #[.int .u32 910901175, .int .u32 0] w fun e w' => e = .returned (.agg #[.int .u8 28, .int .u8 164, .int .u8 171, .int .u8 173]) ∧ Ext w w' := by
  have h := tail_calls 910901175#32 0#32 w
  rw [show V cb (four8 (tailw 910901175#32 0#32)) = #[.int .u8 28, .int .u8 164, .int .u8 171, .int .u8 173] by kernel_rfl] at h
  rw [show (Value.int .u32 910901175 : Value) = c32 910901175#32 by kernel_rfl, show (Value.int .u32 0 : Value) = c32 0#32 by kernel_rfl]
  exact h.mono fun e w' ⟨h1, A, h2⟩ => ⟨h1, h2 ▸ Ext.of_alloc A⟩
theorem sum_at (g : Nat) (v r : BitVec 32) (R : Int) (n : Int) (w : World) (hs : StrAt w g v n) (h : ~~~v = r) (hR : R = Bv r) : Calls Try.prog 24 #[.pointer (some ⟨g, 0, none⟩)] w fun e w' => e = .returned (.int .u32 R) ∧ w = w' := by
  subst hR h; exact sum_calls g v n w hs
theorem back_at (sv : Value) (w : World) (hp : Rd w cb sv [99#8]) : Calls Try.prog 32 #[.int .u64 16654208175385433931, sv] w fun e w' => e = .returned (.int .u64 620445648566982762) ∧ w = w' := by
  have h := back_calls 16654208175385433931#64 sv [99#8] w hp (by simp)
  rw [show bck 16654208175385433931#64 [99#8] = 620445648566982762#64 by kernel_rfl] at h
  rw [show (Value.int .u64 16654208175385433931 : Value) = cw 16654208175385433931#64 by kernel_rfl, show (Value.int .u64 620445648566982762 : Value) = cw 620445648566982762#64 by kernel_rfl]
  exact h
theorem eq30_at (w : World) : (Op.equalIn 10000 30 (.agg #[.int .u8 28, .int .u8 164, .int .u8 171, .int .u8 173]) (.agg #[.int .u8 28, .int .u8 164, .int .u8 171, .int .u8 173])).run Try.prog w = .ok true w := by
  obtain ⟨i5, j1, _⟩ := info_parts Try.info5
  have h := run_equal_words (P := Try.prog) w 9998 Try.underlying30 Try.underlying5 j1 (by kernel_rfl) [28#8, 164#8, 171#8, 173#8] [28#8, 164#8, 171#8, 173#8] rfl rfl
  rw [show V (fun x => Value.int IntKind.u8 (Bv x)) [28#8, 164#8, 171#8, 173#8] = #[.int .u8 28, .int .u8 164, .int .u8 171, .int .u8 173] by kernel_rfl] at h
  simpa using h
theorem V_ab : V cb [97#8, 98#8] = #[.int .u8 97, .int .u8 98] := by unfold V; rfl
theorem V_c : V cb [99#8] = #[.int .u8 99] := by unfold V; rfl
set_option maxHeartbeats 2000000 in
theorem known_walk (W : World) : Calls Try.prog 11 #[] W fun e w' => e = .returned (.bool true) ∧ Ext W w' := by
  have kc := fun (w : World) (C : Array Value) (n c : Nat) => Lib.run_convert_bytes_const (P := Try.prog) w 23 5 C n c Try.u23 Try.underlying5
  have keq := eq30_at
  have J1 := Lib.hid (join_at 3802278198#32 552285127#32 910901175#32 1 3802278198 552285127 910901175 (by omega) (by kernel_rfl) (by kernel_rfl) (by kernel_rfl) (by kernel_rfl))
  have J2 := Lib.hid (join_at 7#32 9#32 14#32 0 7 9 14 (by omega) (by kernel_rfl) (by kernel_rfl) (by kernel_rfl) (by kernel_rfl))
  have J3 := Lib.hid (join_at 7#32 9#32 14#32 (-4) 7 9 14 (by omega) (by kernel_rfl) (by kernel_rfl) (by kernel_rfl) (by kernel_rfl))
  have T1 := Lib.hid (turn_at 910901175#32 3#8 44865326#32 1 910901175 3 44865326 (by omega) (by kernel_rfl) (by kernel_rfl) (by kernel_rfl) (by kernel_rfl))
  have T2 := Lib.hid (turn_at 0#32 1#8 4067132163#32 0 0 1 4067132163 (by omega) (by kernel_rfl) (by kernel_rfl) (by kernel_rfl) (by kernel_rfl))
  have T3 := Lib.hid (turn_at 0#32 1#8 4067132163#32 (-1) 0 1 4067132163 (by omega) (by kernel_rfl) (by kernel_rfl) (by kernel_rfl) (by kernel_rfl))
  have T4 := Lib.hid (fun w => tail_at w)
  have E0 := Lib.hid (Ext.of_alloc (w := W) (.cells #[.int .u8 1] 5))
  have H22 := Lib.hid (write_nil (.slice (some ⟨W.heap.size, 0, none⟩) 1 1) (W.alloc (.cells #[.int .u8 1] 5)))
  have H21 := Lib.hid (new_calls (W.alloc (.cells #[.int .u8 1] 5)))
  go_enter Try.func11, Try.ntmps11
  go_wp2_with (first
    | (go_at_call 22; refine H22.out.mono ?_; clear H22; rintro e w1 ⟨rfl, rfl⟩)
    | (go_at_call 21; refine H21.out.mono ?_; clear H21; rintro e w2 ⟨rfl, s2, e2, -⟩
       obtain ⟨g, hg⟩ : ∃ g, (W.alloc (.cells #[.int .u8 1] 5)).heap.size = g := ⟨_, rfl⟩
       rw [hg] at s2
       rw [hg]
       have HG : Hid (W.heap.size ≤ g) := by show _ ≤ _; rw [← hg]; simp
       have E2 := Lib.hid (E0.out.trans e2)
       have S2 := Lib.hid s2
       clear e2 hg s2 E0
       have H17 := Lib.hid (known_calls w2))
    | (go_at_call 17; refine H17.out.mono ?_; clear H17; rintro e w3 ⟨rfl, e3⟩
       have E3 := Lib.hid (E2.out.trans e3)
       have S3 := Lib.hid (S2.out.ext e3)
       clear e3 E2 S2
       have H24a := Lib.hid (sum_nil w3)
       have H24b := Lib.hid (sum_at g _ 0#32 0 _ w3 S3.out (by kernel_rfl) (by kernel_rfl))
       have H25a := Lib.hid (len_nil w3)
       have H25b := Lib.hid (len_calls g _ _ w3 S3.out)
       have F1 := Lib.hid (Ext.of_alloc (w := w3) (.cells #[.int .u8 97, .int .u8 98] 5 (2, 3)))
       have R1 : Rd (w3.alloc (.cells #[.int .u8 97, .int .u8 98] 5 (2, 3))) cb (.slice (some ⟨w3.heap.size, 0, none⟩) 2 2) [97#8, 98#8] := by rw [← V_ab]; exact Rd.mark rfl rfl
       have H22b := Lib.hid (write_calls g _ 0 _ _ _ (S3.out.ext F1.out) R1 (by simp) (by omega) (by simp))
       clear R1)
    | (go_at_call 24; refine H24a.out.mono ?_; clear H24a; rintro e w4 ⟨rfl, rfl⟩)
    | (go_at_call 25; refine H25a.out.mono ?_; clear H25a; rintro e w4 ⟨rfl, rfl⟩)
    | (go_at_call 24; refine H24b.out.mono ?_; clear H24b; rintro e w4 ⟨rfl, rfl⟩)
    | (go_at_call 25; refine H25b.out.mono ?_; clear H25b; rintro e w4 ⟨rfl, rfl⟩)
    | (go_at_call 22; refine H22b.out.mono ?_; clear H22b; rintro e w5 ⟨rfl, s5, g5⟩
       have E5 := Lib.hid ((E3.out.trans F1.out).grown1 g5 HG.out)
       have S5 := Lib.hid (show StrAt w5 g (tkn 0xFFFFFFFF#32 [97#8, 98#8]) 2 from s5)
       clear F1 E3 g5 s5 S3
       have H24c := Lib.hid (sum_at g _ 3802278198#32 3802278198 _ w5 S5.out (by kernel_rfl) (by kernel_rfl))
       have F2 := Lib.hid (Ext.of_alloc (w := w5) (.cells #[.int .u8 99] 5 (1, 2)))
       have R2 : Rd (w5.alloc (.cells #[.int .u8 99] 5 (1, 2))) cb (.slice (some ⟨w5.heap.size, 0, none⟩) 1 1) [99#8] := by rw [← V_c]; exact Rd.mark rfl rfl
       have H22c := Lib.hid (write_calls g _ 2 _ _ _ (S5.out.ext F2.out) R2 (by simp) (by omega) (by simp))
       clear R2)
    | (go_at_call 24; refine H24c.out.mono ?_; clear H24c; rintro e w6 ⟨rfl, rfl⟩)
    | (go_at_call 22; refine H22c.out.mono ?_; clear H22c; rintro e w7 ⟨rfl, s7, g7⟩
       have E7 := Lib.hid ((E5.out.trans F2.out).grown1 g7 HG.out)
       have S7 := Lib.hid (show StrAt w7 g (tkn (tkn 0xFFFFFFFF#32 [97#8, 98#8]) [99#8]) 3 from s7)
       clear F2 E5 g7 s7 S5
       have H24d := Lib.hid (sum_at g _ 910901175#32 910901175 _ w7 S7.out (by kernel_rfl) (by kernel_rfl))
       have H25d := Lib.hid (len_calls g _ _ w7 S7.out))
    | (go_at_call 24; refine H24d.out.mono ?_; clear H24d; rintro e w8 ⟨rfl, rfl⟩)
    | (go_at_call 25; refine H25d.out.mono ?_; clear H25d; rintro e w8 ⟨rfl, rfl⟩)
    | (go_at_call 31; refine (J1.out _).mono ?_; clear J1; rintro e w9 ⟨rfl, e9⟩; have E9 := Lib.hid (E7.out.trans e9); clear e9)
    | (go_at_call 31; refine (J2.out _).mono ?_; clear J2; rintro e w10 ⟨rfl, e10⟩; have E10 := Lib.hid (E9.out.trans e10); clear e10)
    | (go_at_call 31; refine (J3.out _).mono ?_; clear J3; rintro e w11 ⟨rfl, e11⟩; have E11 := Lib.hid (E10.out.trans e11); clear e11)
    | (go_at_call 27; refine (T1.out _).mono ?_; clear T1; rintro e w12 ⟨rfl, e12⟩; have E12 := Lib.hid (E11.out.trans e12); clear e12)
    | (go_at_call 27; refine (T2.out _).mono ?_; clear T2; rintro e w13 ⟨rfl, e13⟩; have E13 := Lib.hid (E12.out.trans e13); clear e13)
    | (go_at_call 27; refine (T3.out _).mono ?_; clear T3; rintro e w14 ⟨rfl, e14⟩; have E14 := Lib.hid (E13.out.trans e14); clear e14)
    | (go_at_call 26; refine (T4.out _).mono ?_; clear T4; rintro e w15 ⟨rfl, e15⟩
       have E15 := Lib.hid ((E14.out.trans e15).trans (Ext.of_alloc (w := w15) (.cells #[.int .u8 99] 5 (1, 2))))
       have R3 : Rd (w15.alloc (.cells #[.int .u8 99] 5 (1, 2))) cb (.slice (some ⟨w15.heap.size, 0, none⟩) 1 1) [99#8] := by rw [← V_c]; exact Rd.mark rfl rfl
       have B1 := Lib.hid (back_at _ _ R3)
       clear e15 R3)
    | (go_at_call 32; refine B1.out.mono ?_; clear B1; rintro e w16 ⟨rfl, rfl⟩)
    | fail)
  go_ret
  exact ⟨rfl, E15.out⟩
theorem known_walk' (W : World) : Calls Try.prog 11 #[] W fun e w' => e = .returned (.bool true) ∧ Below W.heap.size W w' :=
  (known_walk W).mono fun e w' h => ⟨h.1, h.2.to⟩
end Go.Proofs.Ytbamkkbdcodafaa
