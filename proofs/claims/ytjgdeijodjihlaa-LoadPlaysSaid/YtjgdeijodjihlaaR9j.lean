/- Layer 9 (load): meters that are nil: what both answer. -/
import Derived.Test.YtjgdeijodjihlaaR9i
namespace Go.Proofs.Ytjgdeijodjihlaa
open Go.RowKit
set_option linter.unusedVariables false

theorem nhit (a b c : Value) (w : World) : Calls Try.prog 14 #[.pointer none, a, b, c] w fun e w' => e = .returned (ci 1) ∧ w = w' := by
  go_enter Try.func14, Try.ntmps14
  go_wp2_with fail
  go_ret
  exact ⟨rfl, rfl⟩
theorem nrhit (a b c : Value) (w : World) : Calls Try.prog 34 #[.pointer none, a, b, c] w fun e w' => e = .returned (ci 1) ∧ w = w' := by
  go_enter Try.func34, Try.ntmps34
  go_wp2_with fail
  go_ret
  exact ⟨rfl, rfl⟩
theorem ngo (a : Value) (w : World) : Calls Try.prog 22 #[.pointer none, a] w fun e w' => e = .returned (ci 1) ∧ w = w' := by
  go_enter Try.func22, Try.ntmps22
  go_wp2_with fail
  go_ret
  exact ⟨rfl, rfl⟩
theorem nrgo (a : Value) (w : World) : Calls Try.prog 35 #[.pointer none, a] w fun e w' => e = .returned (ci 1) ∧ w = w' := by
  go_enter Try.func35, Try.ntmps35
  go_wp2_with fail
  go_ret
  exact ⟨rfl, rfl⟩
theorem nof (a : Value) (w : World) : Calls Try.prog 20 #[.pointer none, a] w fun e w' => e = .returned (cf 0) ∧ w = w' := by
  go_enter Try.func20, Try.ntmps20
  go_wp2_with fail
  go_ret
  exact ⟨rfl, rfl⟩
theorem nrof (a : Value) (w : World) : Calls Try.prog 36 #[.pointer none, a] w fun e w' => e = .returned (cf 0) ∧ w = w' := by
  go_enter Try.func36, Try.ntmps36
  go_wp2_with fail
  go_ret
  exact ⟨rfl, rfl⟩
theorem nrow (w : World) : Calls Try.prog 12 #[.pointer none] w fun e w' => e = .returned (.slice none 0 0) ∧ w = w' := by
  go_enter Try.func12, Try.ntmps12
  go_wp2_with fail
  go_ret
  exact ⟨rfl, rfl⟩
theorem nrrow (w : World) : Calls Try.prog 41 #[.pointer none] w fun e w' => e = .returned (.slice none 0 0) ∧ w = w' := by
  go_enter Try.func41, Try.ntmps41
  go_wp2_with fail
  go_loop [3, 4] (fun ov iv => ov = .slice none 0 0 ∧ iv = .int .i64 0) (fun _ _ => 0)
  case atStart => exact ⟨rfl, rfl⟩
  case round =>
    obtain ⟨rfl, rfl⟩ := hrel
    go_wp2_with fail
    go_ret
    exact ⟨rfl, rfl⟩
theorem nmean (w : World) : Calls Try.prog 28 #[.pointer none] w fun e w' => e = .returned (cf 0) ∧ w = w' := by
  go_enter Try.func28, Try.ntmps28
  go_wp2_with fail
  go_ret
  exact ⟨rfl, rfl⟩
theorem nrmean (w : World) : Calls Try.prog 38 #[.pointer none] w fun e w' => e = .returned (cf 0) ∧ w = w' := by
  go_enter Try.func38, Try.ntmps38
  go_wp2_with fail
  go_ret
  exact ⟨rfl, rfl⟩
theorem nspread (w : World) : Calls Try.prog 26 #[.pointer none] w fun e w' => e = .returned (cf 0) ∧ w = w' := by
  go_enter Try.func26, Try.ntmps26
  go_wp2_with fail
  go_ret
  exact ⟨rfl, rfl⟩
theorem nrspread (w : World) : Calls Try.prog 39 #[.pointer none] w fun e w' => e = .returned (cf 0) ∧ w = w' := by
  go_enter Try.func39, Try.ntmps39
  go_wp2_with (first | (go_at_call 41; refine (nrrow _).mono ?_; rintro e w1 ⟨rfl, rfl⟩) | fail)
  go_ret
  exact ⟨rfl, rfl⟩
theorem nsum (w : World) : Calls Try.prog 27 #[.pointer none] w fun e w' => e = .returned (cf 0) ∧ w = w' := by
  go_enter Try.func27, Try.ntmps27
  go_wp2_with (first | (go_at_call 12; refine (nrow _).mono ?_; rintro e w1 ⟨rfl, rfl⟩) | fail)
  go_loop [3, 5, 9] (fun y _ i => y = cf 0 ∧ i = .int .i64 0) (fun _ _ _ => 0)
  case atStart => exact ⟨rfl, rfl⟩
  case round =>
    obtain ⟨rfl, rfl⟩ := hrel
    go_wp2_with fail
    go_ret
    exact ⟨rfl, rfl⟩
theorem nrsum (w : World) : Calls Try.prog 37 #[.pointer none] w fun e w' => e = .returned (cf 0) ∧ w = w' := by
  go_enter Try.func37, Try.ntmps37
  go_wp2_with (first | (go_at_call 41; refine (nrrow _).mono ?_; rintro e w1 ⟨rfl, rfl⟩) | fail)
  go_loop [4, 5] (fun y i => y = cf 0 ∧ i = .int .i64 0) (fun _ _ => 0)
  case atStart => exact ⟨rfl, rfl⟩
  case round =>
    obtain ⟨rfl, rfl⟩ := hrel
    go_wp2_with fail
    go_ret
    exact ⟨rfl, rfl⟩
theorem ntop (w : World) : Calls Try.prog 29 #[.pointer none] w fun e w' => e = .returned (ci (-1)) ∧ w = w' := by
  go_enter Try.func29, Try.ntmps29
  go_wp2_with (first | (go_at_call 12; refine (nrow _).mono ?_; rintro e w1 ⟨rfl, rfl⟩) | fail)
  go_loop [3, 4, 5, 9] (fun t _ _ i => t = ci (-1) ∧ i = .int .i64 0) (fun _ _ _ _ => 0)
  case atStart => exact ⟨rfl, rfl⟩
  case round =>
    obtain ⟨rfl, rfl⟩ := hrel
    go_wp2_with fail
    go_ret
    exact ⟨rfl, rfl⟩
theorem nrtop (w : World) : Calls Try.prog 40 #[.pointer none] w fun e w' => e = .returned (ci (-1)) ∧ w = w' := by
  go_enter Try.func40, Try.ntmps40
  go_wp2_with (first | (go_at_call 41; refine (nrrow _).mono ?_; rintro e w1 ⟨rfl, rfl⟩) | fail)
  go_loop [4, 5] (fun t i => t = ci (-1) ∧ i = .int .i64 0) (fun _ _ => 0)
  case atStart => exact ⟨rfl, rfl⟩
  case round =>
    obtain ⟨rfl, rfl⟩ := hrel
    go_wp2_with fail
    go_ret
    exact ⟨rfl, rfl⟩
theorem nrwave (a : Value) (w : World) : Calls Try.prog 42 #[.pointer none, a] w fun e w' => e = .returned (.tuple #[cf 0, cf 0]) ∧ w = w' := by
  go_enter Try.func42, Try.ntmps42
  go_wp2_with fail
  go_loop [6, 7, 8] (fun x y i => x = cf 0 ∧ y = cf 0 ∧ i = .int .i64 0) (fun _ _ _ => 0)
  case atStart => exact ⟨rfl, rfl, rfl⟩
  case round =>
    obtain ⟨rfl, rfl, rfl⟩ := hrel
    go_wp2_with fail
    go_ret2
    exact ⟨rfl, rfl⟩
theorem nwave (w : World) : Calls Try.prog 21 #[.pointer none] w fun e w' => e = .returned (.agg #[cx (0, 0), cx (0, 0), cx (0, 0), cx (0, 0), cx (0, 0), cx (0, 0), cx (0, 0), cx (0, 0)]) ∧ Ext w w' := by
  obtain ⟨Z, hZ⟩ : ∃ Z : Array Value, #[.complex .f64 0 0, .complex .f64 0 0, .complex .f64 0 0, .complex .f64 0 0, .complex .f64 0 0, .complex .f64 0 0, .complex .f64 0 0, .complex .f64 0 0] = Z := ⟨_, rfl⟩
  have hsz : Hid (Z.size = (#[cx (0, 0), cx (0, 0), cx (0, 0), cx (0, 0), cx (0, 0), cx (0, 0), cx (0, 0), cx (0, 0)] : Array Value).size) := by show _ = _; rw [← hZ]
  have hone : Hid ((#[cx (0, 0), cx (0, 0), cx (0, 0), cx (0, 0), cx (0, 0), cx (0, 0), cx (0, 0), cx (0, 0)] : Array Value).all (·.oneCell') = true) := by
    show _ = _
    rw [show (#[cx (0, 0), cx (0, 0), cx (0, 0), cx (0, 0), cx (0, 0), cx (0, 0), cx (0, 0), cx (0, 0)] : Array Value) = V cx (List.replicate 8 (0, 0)) from by unfold V; rfl]
    exact V_one cx cx_one _
  have B2 := Lib.hid ((Blk.new w #[.complex .f64 0 0, .complex .f64 0 0, .complex .f64 0 0, .complex .f64 0 0, .complex .f64 0 0, .complex .f64 0 0, .complex .f64 0 0, .complex .f64 0 0] 48).alloc (.cells #[.complex .f64 0 0, .complex .f64 0 0, .complex .f64 0 0, .complex .f64 0 0, .complex .f64 0 0, .complex .f64 0 0, .complex .f64 0 0, .complex .f64 0 0] 48))
  have X2 := Lib.hid (Ext.of_alloc2 (w := w) (.cells #[.complex .f64 0 0, .complex .f64 0 0, .complex .f64 0 0, .complex .f64 0 0, .complex .f64 0 0, .complex .f64 0 0, .complex .f64 0 0, .complex .f64 0 0] 48) (.cells #[.complex .f64 0 0, .complex .f64 0 0, .complex .f64 0 0, .complex .f64 0 0, .complex .f64 0 0, .complex .f64 0 0, .complex .f64 0 0, .complex .f64 0 0] 48))
  have HZ := Lib.hid hZ
  clear hZ
  go_enter Try.func21, Try.ntmps21
  go_upto_region 3 with fail
  obtain ⟨s2, hs2⟩ : ∃ x, w.heap.size = x := ⟨_, rfl⟩
  have HS2 := Lib.hid hs2
  have q := World.cell?_alloc_new (w.alloc (.cells #[.complex .f64 0 0, .complex .f64 0 0, .complex .f64 0 0, .complex .f64 0 0, .complex .f64 0 0, .complex .f64 0 0, .complex .f64 0 0, .complex .f64 0 0] 48)) #[.complex .f64 0 0, .complex .f64 0 0, .complex .f64 0 0, .complex .f64 0 0, .complex .f64 0 0, .complex .f64 0 0, .complex .f64 0 0, .complex .f64 0 0] 48
  rw [World.size_alloc] at q
  rw [hs2] at q B2 ⊢
  rw [HZ.out] at q B2 X2 ⊢
  obtain ⟨w2, hw2⟩ : ∃ x, (w.alloc (.cells Z 48)).alloc (.cells Z 48) = x := ⟨_, rfl⟩
  rw [hw2] at q B2 X2 ⊢
  have q0 : w2.cell? ⟨s2 + 1, 0, none⟩ = some (cx (0, 0)) := by rw [q, ← HZ.out]; rfl
  have q1 : w2.cell? ⟨s2 + 1, 1, none⟩ = some (cx (0, 0)) := by rw [q, ← HZ.out]; rfl
  have q2 : w2.cell? ⟨s2 + 1, 2, none⟩ = some (cx (0, 0)) := by rw [q, ← HZ.out]; rfl
  have q3 : w2.cell? ⟨s2 + 1, 3, none⟩ = some (cx (0, 0)) := by rw [q, ← HZ.out]; rfl
  have q4 : w2.cell? ⟨s2 + 1, 4, none⟩ = some (cx (0, 0)) := by rw [q, ← HZ.out]; rfl
  have q5 : w2.cell? ⟨s2 + 1, 5, none⟩ = some (cx (0, 0)) := by rw [q, ← HZ.out]; rfl
  have q6 : w2.cell? ⟨s2 + 1, 6, none⟩ = some (cx (0, 0)) := by rw [q, ← HZ.out]; rfl
  have q7 : w2.cell? ⟨s2 + 1, 7, none⟩ = some (cx (0, 0)) := by rw [q, ← HZ.out]; rfl
  clear q hs2 hw2
  go_wp2_with (first
    | (refine wpList_store_row rfl 48 (.tmp 2) (.tmp 10) rfl s2 #[cx (0, 0), cx (0, 0), cx (0, 0), cx (0, 0), cx (0, 0), cx (0, 0), cx (0, 0), cx (0, 0)] Z 48 rfl rfl B2.out Try.size48 hsz.out hone.out ?_)
    | fail)
  have hbz : Blk (w2.setRow s2 #[cx (0, 0), cx (0, 0), cx (0, 0), cx (0, 0), cx (0, 0), cx (0, 0), cx (0, 0), cx (0, 0)]) s2 #[cx (0, 0), cx (0, 0), cx (0, 0), cx (0, 0), cx (0, 0), cx (0, 0), cx (0, 0), cx (0, 0)] 48 := setRow_heap w2 s2 _ _ 48 (0, 0) B2.out
  have hez : Ext w (w2.setRow s2 #[cx (0, 0), cx (0, 0), cx (0, 0), cx (0, 0), cx (0, 0), cx (0, 0), cx (0, 0), cx (0, 0)]) := X2.out.grown ⟨rfl, rfl, rfl, by simp [World.setRow], fun k _ hk => setRow_other w2 s2 k _ (fun e => hk (by rw [e]))⟩ (fun k hk => by cases hk; exact Nat.le_of_eq HS2.out)
  generalize w2.setRow s2 #[cx (0, 0), cx (0, 0), cx (0, 0), cx (0, 0), cx (0, 0), cx (0, 0), cx (0, 0), cx (0, 0)] = wz at *
  have z0 : wz.cell? ⟨s2, 0, none⟩ = some (cx (0, 0)) := hbz.cell 0
  have z1 : wz.cell? ⟨s2, 1, none⟩ = some (cx (0, 0)) := hbz.cell 1
  have z2 : wz.cell? ⟨s2, 2, none⟩ = some (cx (0, 0)) := hbz.cell 2
  have z3 : wz.cell? ⟨s2, 3, none⟩ = some (cx (0, 0)) := hbz.cell 3
  have z4 : wz.cell? ⟨s2, 4, none⟩ = some (cx (0, 0)) := hbz.cell 4
  have z5 : wz.cell? ⟨s2, 5, none⟩ = some (cx (0, 0)) := hbz.cell 5
  have z6 : wz.cell? ⟨s2, 6, none⟩ = some (cx (0, 0)) := hbz.cell 6
  have z7 : wz.cell? ⟨s2, 7, none⟩ = some (cx (0, 0)) := hbz.cell 7
  exact bodyPost_ret (v := .agg #[cx (0, 0), cx (0, 0), cx (0, 0), cx (0, 0), cx (0, 0), cx (0, 0), cx (0, 0), cx (0, 0)]) (by simp [results, Try.results21, go_sem, z0, z1, z2, z3, z4, z5, z6, z7]) rfl ⟨rfl, hez⟩
end Go.Proofs.Ytjgdeijodjihlaa
