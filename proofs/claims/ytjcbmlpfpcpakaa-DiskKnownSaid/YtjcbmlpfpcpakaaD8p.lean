/- Layer 8 (disk): DiskKnown's walk. -/
import Derived.Test.YtjcbmlpfpcpakaaD8o
namespace Go.Proofs.Ytjcbmlpfpcpakaa
open Go.RowKit
set_option linter.unusedVariables false
set_option maxRecDepth 100000 in
set_option maxHeartbeats 4000000 in
theorem diskKnown_calls (w : World) : Calls Try.prog 7 #[] w fun e w' => e = .returned (.bool true) ∧ Ext w w' := by
  obtain ⟨e1, _⟩ := K_eq
  obtain ⟨q2, q3, q4, q5, q1⟩ := Q_eq
  obtain ⟨f1, f2, f3, f4, f5, f6, f7, f8, f9, f10, f11, f12⟩ := Q_facts
  have E1 := Lib.hid e1
  have E2 := Lib.hid q2
  have E3 := Lib.hid q3
  have E4 := Lib.hid q4
  have E5 := Lib.hid q5
  have S1 := Lib.hid q1
  have A2 := Lib.hid f1
  have A3 := Lib.hid f2
  have A4 := Lib.hid f3
  have A5 := Lib.hid f4
  have N2 := Lib.hid f5
  have N5 := Lib.hid f6
  have R2 := Lib.hid f7
  have R3 := Lib.hid f8
  have R5 := Lib.hid f9
  have C0 := Lib.hid f10
  have C1 := Lib.hid f11
  have L1 := Lib.hid f12
  clear e1 q1 q2 q3 q4 q5 f1 f2 f3 f4 f5 f6 f7 f8 f9 f10 f11 f12
  go_enter Try.func7, Try.ntmps7
  go_upto_region 5 with (first
    | (go_at_call 23; refine (known_calls w).mono ?_
       rintro e w1 ⟨rfl, x⟩
       have X1 := Lib.hid x
       clear x)
    | (go_at_call 24; refine (DX.make (n := 4) (by decide) (by decide) w X1.out).mono ?_
       rw [E1.out]
       rintro e w2 ⟨rfl, h, _⟩
       have P1 := Lib.hid h
       clear h)
    | (go_at_call 26; refine (P1.out.fuse 1).mono ?_
       rw [E2.out]
       rintro e w3 ⟨rfl, h, _⟩
       have P2 := Lib.hid h
       clear h P1)
    | fail)
  generalize w1.heap.size + 1 = g at *
  generalize w1.heap.size = sb at *
  go_upto_region 9 with (first
    | (go_at_call 43; have hq := P2.out; clear hq; refine (full_at 1#8 s1 S1.out _).mono ?_
       rintro e p3w ⟨rfl, f, x⟩
       have F3 := Lib.hid f
       have P3 := Lib.hid (P2.out.ext x)
       clear f x P2)
    | (go_at_call 27; refine (P3.out.write 0 _ s1 A2.out (by rw [N2.out]; decide) L1.out (F3.out.rdv L1.out.symm) (by rw [R2.out]; decide)).mono ?_
       rw [E3.out]
       rintro e w4 ⟨rfl, h, _⟩
       have P4 := Lib.hid h
       clear h P3 F3)
    | (go_at_call 43; have hq := P4.out; clear hq; refine (full_at 1#8 s1 S1.out _).mono ?_
       rintro e p5w ⟨rfl, f, x⟩
       have F5 := Lib.hid f
       have P5 := Lib.hid (P4.out.ext x)
       clear f x P4)
    | (go_at_call 27; refine (P5.out.write_power _ _ A3.out).mono ?_; rintro e w98 ⟨rfl, rfl⟩; clear F5)
    | (go_at_call 33; refine (P5.out.read_power _ A3.out).mono ?_; rintro e w98 ⟨rfl, rfl⟩)
    | (go_at_call 29; refine (P5.out.sync_power A3.out).mono ?_; rintro e w98 ⟨rfl, rfl⟩)
    | fail)
  go_upto_region 15 with (first
    | (go_at_call 30; refine (P5.out.pending).mono ?_; rw [R3.out]; rintro e w98 ⟨rfl, rfl⟩)
    | (go_at_call 26; refine (P5.out.fuse (-1)).mono ?_
       rw [E4.out]
       rintro e w6 ⟨rfl, h, _⟩
       have P6 := Lib.hid h
       clear h P5)
    | (go_at_call 29; refine (P6.out.sync A4.out).mono ?_
       rw [E5.out]
       rintro e w7 ⟨rfl, h, _⟩
       have P7 := Lib.hid h
       clear h P6)
    | (go_at_call 44; refine (P7.out.counts).mono ?_
       rw [C0.out, C1.out]
       rintro e w8 ⟨rfl, n8, rfl⟩
       have P8 := Lib.hid (P7.out.drewN n8)
       clear P7)
    | (go_at_call 25; refine (num_calls _ _).mono ?_; rintro e w99 ⟨rfl, rfl⟩)
    | (go_at_call 30; refine (P8.out.pending).mono ?_; rw [R5.out]; rintro e w98 ⟨rfl, rfl⟩)
    | fail)
  go_upto_region 23 with (first
    | (go_at_call 24; refine (new_refused _ _ (by omega)).mono ?_; rintro e w98 ⟨rfl, rfl⟩)
    | (go_at_call 43; have hq := P8.out; clear hq; refine (full_at 1#8 s1 S1.out _).mono ?_
       rintro e p9w ⟨rfl, f, x⟩
       have F9 := Lib.hid f
       have P9 := Lib.hid (P8.out.ext x)
       clear f x P8)
    | (go_at_call 36; have hq := F9.out; clear hq; refine (load_refused _ 63 _ _ (by unfold maxLen; omega) (by omega)).mono ?_; rintro e w98 ⟨rfl, rfl⟩; clear F9)
    | (go_at_call 36; refine (load_refused _ 0 _ _ (by unfold maxLen; omega) (by omega)).mono ?_; rintro e w98 ⟨rfl, rfl⟩)
    | (go_at_call 43; have hq := P9.out; clear hq; refine (full_at 1#8 s1 S1.out _).mono ?_
       rintro e p10w ⟨rfl, f, x⟩
       have F10 := Lib.hid f
       have P10 := Lib.hid (P9.out.ext x)
       clear f x P9)
    | (go_at_call 27; have hq := F10.out; clear hq; refine (P10.out.write_sector 4 _ A5.out (by rw [N5.out]; omega)).mono ?_; rintro e w98 ⟨rfl, rfl⟩; clear F10)
    | (go_at_call 43; have hq := P10.out; clear hq; refine (full_at 1#8 s1 S1.out _).mono ?_
       rintro e p11w ⟨rfl, f, x⟩
       have F11 := Lib.hid f
       have P11 := Lib.hid (P10.out.ext x)
       clear f x P10)
    | (go_at_call 27; have hq := F11.out; clear hq; refine (P11.out.write_sector (-1) _ A5.out (by omega)).mono ?_; rintro e w98 ⟨rfl, rfl⟩; clear F11)
    | (go_at_call 43; have hq := P11.out; clear hq; refine (full_at 1#8 s1 S1.out _).mono ?_
       rintro e p12w ⟨rfl, f, x⟩
       have F12 := Lib.hid f
       have P12 := Lib.hid (P11.out.ext x)
       clear f x P11)
    | (go_at_call 27; refine (P12.out.write_size 0 _ 63 _ A5.out (by rw [N5.out]; omega) (by omega) (by unfold maxLen; omega)).mono ?_; rintro e w98 ⟨rfl, rfl⟩; clear F12)
    | (go_at_call 33; refine (P12.out.read_sector 4 A5.out (by rw [N5.out]; omega)).mono ?_; rintro e w98 ⟨rfl, rfl⟩)
    | fail)
  have XE := Lib.hid P12.out.e
  go_wp2_with (first
    | (go_at_call 25; refine (num_calls _ _).mono ?_; rintro e w99 ⟨rfl, rfl⟩)
    | (go_at_call 26; refine (fuse_nil _ _).mono ?_; rintro e w98 ⟨rfl, rfl⟩)
    | (go_at_call 32; refine (crash_nil _ _ _ _).mono ?_; rintro e w98 ⟨rfl, rfl⟩)
    | (go_at_call 27; refine (write_nil _ _ _).mono ?_; rintro e w98 ⟨rfl, rfl⟩)
    | (go_at_call 33; refine (read_nil _ _).mono ?_; rintro e w98 ⟨rfl, rfl⟩)
    | (go_at_call 29; refine (sync_nil _).mono ?_; rintro e w98 ⟨rfl, rfl⟩)
    | (go_at_call 44; refine (counts_nil _).mono ?_; rintro e w98 ⟨rfl, rfl⟩)
    | (go_at_call 38; refine (sectors_nil _).mono ?_; rintro e w98 ⟨rfl, rfl⟩)
    | (go_at_call 30; refine (pending_nil _).mono ?_; rintro e w98 ⟨rfl, rfl⟩)
    | (go_at_call 31; refine (image_nil _).mono ?_; rintro e w98 ⟨rfl, rfl⟩)
    | fail)
  go_ret
  exact ⟨rfl, XE.out⟩
theorem diskKnown_walk' (w : World) : Calls Try.prog 7 #[] w fun e w' => e = .returned (.bool true) ∧ Below w.heap.size w w' := (diskKnown_calls w).mono fun e w' ⟨a, b⟩ => ⟨a, b.to⟩
end Go.Proofs.Ytjcbmlpfpcpakaa
