/- Layer 9 (load): the rhythm's walk; two of them held against one another. -/
import Derived.Test.YtjgdeijodjihlaaD9w
import Derived.Deep.CutRange
import Derived.IntWalk
import Derived.ChangeKeysEq
import Derived.Laws.StructEq
namespace Go.Proofs.Ytjgdeijodjihlaa
open Go.RowKit
set_option linter.unusedVariables false

theorem run_store_complex {P : Program} {w : World} {a : Addr} {m : Mode} (k : FloatKind) (x y : Nat) : (store a (.complex k x y) m).run P w = stored P w a (.complex k x y) m := run_store P w a _ m rfl
attribute [go_sem] run_store_complex
theorem Try.size48 : (Try.prog.info? 48).map (·.size) = some 8 := by kernel_rfl
/-- while the rhythm is made -/
structure WS (W w : World) (g lb s2 s3 : Nat) (m : Mt) (O : List (Nat × Nat)) : Prop where
  ext : Ext W w
  mb : MB w g lb m
  o : Blk w s3 (V cx O) 48
  r : Blk w s2 (V cx (List.replicate 8 (0, 0))) 48
  ne : s2 ≠ s3
  lo : W.heap.size ≤ s3 ∧ W.heap.size ≤ s2
  len : O.length = 8
theorem WS.set {W w : World} {g lb s2 s3 : Nat} {m : Mt} {O : List (Nat × Nat)} (h : WS W w g lb s2 s3 m O) (k : Nat) (p : Nat × Nat) : WS W (w.setCell ⟨s3, k, none⟩ (cx p)) g lb s2 s3 m (O.set k p) := by
  refine ⟨h.ext.set h.lo.1 _, h.mb.grown' (grown_set w s3 k (cx p)) ?_ ?_, ?_, h.r.far _ h.ne _, h.ne, h.lo, by rw [List.length_set]; exact h.len⟩
  · intro e
    have e := Option.some.inj e
    subst e
    exact absurd (Blk.type h.mb.b h.o) (by decide)
  · intro e
    have e := Option.some.inj e
    subst e
    exact absurd (Blk.type h.mb.l h.o) (by decide)
  · have := h.o.set k (cx p)
    rw [V_set] at this
    exact this
theorem eight {α : Type} (l : List α) (h : l.length = 8) : ∃ a b c d e f g i, l = [a, b, c, d, e, f, g, i] := by
  match l, h with
  | [a, b, c, d, e, f, g, i], _ => exact ⟨a, b, c, d, e, f, g, i, rfl⟩
theorem idx8_0 (a b c d e f g i : Nat) (w : World) : (Instr.index 64 (.agg #[cf a, cf b, cf c, cf d, cf e, cf f, cf g, cf i]) (.int .i64 0)).run Try.prog w = .ok (cf a) w := by kernel_rfl
theorem idx8_1 (a b c d e f g i : Nat) (w : World) : (Instr.index 64 (.agg #[cf a, cf b, cf c, cf d, cf e, cf f, cf g, cf i]) (.int .i64 1)).run Try.prog w = .ok (cf b) w := by kernel_rfl
theorem idx8_2 (a b c d e f g i : Nat) (w : World) : (Instr.index 64 (.agg #[cf a, cf b, cf c, cf d, cf e, cf f, cf g, cf i]) (.int .i64 2)).run Try.prog w = .ok (cf c) w := by kernel_rfl
theorem idx8_3 (a b c d e f g i : Nat) (w : World) : (Instr.index 64 (.agg #[cf a, cf b, cf c, cf d, cf e, cf f, cf g, cf i]) (.int .i64 3)).run Try.prog w = .ok (cf d) w := by kernel_rfl
theorem idx8_4 (a b c d e f g i : Nat) (w : World) : (Instr.index 64 (.agg #[cf a, cf b, cf c, cf d, cf e, cf f, cf g, cf i]) (.int .i64 4)).run Try.prog w = .ok (cf e) w := by kernel_rfl
theorem idx8_5 (a b c d e f g i : Nat) (w : World) : (Instr.index 64 (.agg #[cf a, cf b, cf c, cf d, cf e, cf f, cf g, cf i]) (.int .i64 5)).run Try.prog w = .ok (cf f) w := by kernel_rfl
theorem idx8_6 (a b c d e f g i : Nat) (w : World) : (Instr.index 64 (.agg #[cf a, cf b, cf c, cf d, cf e, cf f, cf g, cf i]) (.int .i64 6)).run Try.prog w = .ok (cf g) w := by kernel_rfl
theorem idx8_7 (a b c d e f g i : Nat) (w : World) : (Instr.index 64 (.agg #[cf a, cf b, cf c, cf d, cf e, cf f, cf g, cf i]) (.int .i64 7)).run Try.prog w = .ok (cf i) w := by kernel_rfl
theorem idx8 (win : List Nat) (h : win.length = 8) (t : Nat) (ht : t < win.length) (w : World) : (Instr.index 64 (.agg (V cf win)) (.int .i64 (t : Int))).run Try.prog w = .ok (cf win[t]) w := by
  obtain ⟨a, b, c, d, e, f, g, i, rfl⟩ := eight win h
  rw [show V cf [a, b, c, d, e, f, g, i] = #[cf a, cf b, cf c, cf d, cf e, cf f, cf g, cf i] from by unfold V; rfl]
  rw [h] at ht
  match t, ht with
  | 0, _ => exact idx8_0 a b c d e f g i w
  | 1, _ => exact idx8_1 a b c d e f g i w
  | 2, _ => exact idx8_2 a b c d e f g i w
  | 3, _ => exact idx8_3 a b c d e f g i w
  | 4, _ => exact idx8_4 a b c d e f g i w
  | 5, _ => exact idx8_5 a b c d e f g i w
  | 6, _ => exact idx8_6 a b c d e f g i w
  | 7, _ => exact idx8_7 a b c d e f g i w
set_option maxHeartbeats 2000000 in
theorem wave_calls (g lb : Nat) (m : Mt) (w : World) (h : MB w g lb m) (hb : ∀ v ∈ m.win, bd 83 v) :
    Calls Try.prog 21 #[.pointer (some ⟨g, 0, none⟩)] w fun e w' => e = .returned (.agg (V cx (wave m.win))) ∧ Ext w w' := by
  have h8 := h.ok.w8
  have HM := Lib.hid h
  have HB := Lib.hid hb
  have HT := Lib.hid turn_calls
  clear h hb
  go_enter Try.func21, Try.ntmps21
  go_wp2_with fail
  obtain ⟨s2, hs2⟩ : ∃ x, w.heap.size = x := ⟨_, rfl⟩
  have e8 : (#[.complex .f64 0 0, .complex .f64 0 0, .complex .f64 0 0, .complex .f64 0 0, .complex .f64 0 0, .complex .f64 0 0, .complex .f64 0 0, .complex .f64 0 0] : Array Value) = V cx (List.replicate 8 (0, 0)) := by unfold V; rfl
  rw [hs2, e8]
  have W0 : Hid (WS w ((w.alloc (.cells (V cx (List.replicate 8 (0, 0))) 48)).alloc (.cells (V cx (List.replicate 8 (0, 0))) 48)) g lb s2 (s2 + 1) m (List.replicate 8 (0, 0))) := by
    have b2 := Blk.new (w.alloc (.cells (V cx (List.replicate 8 (0, 0))) 48)) (V cx (List.replicate 8 (0, 0))) 48
    have b1 := (Blk.new w (V cx (List.replicate 8 (0, 0))) 48).alloc (.cells (V cx (List.replicate 8 (0, 0))) 48)
    rw [World.size_alloc, hs2] at b2
    rw [hs2] at b1
    exact ⟨Ext.of_alloc2 _ _, (HM.out.ext (Ext.of_alloc2 _ _)), b2, b1, by omega, by omega, rfl⟩
  clear HM
  go_loopw [11] (fun iv wx => ∃ (k : Nat) (O : List (Nat × Nat)), k ≤ 8 ∧ iv = .int .i64 k ∧ Hid (WS w wx g lb s2 (s2 + 1) m O ∧ (∀ j, j < k → O[j]? = some (wvF j 0 (0, 0) m.win)) ∧ ∀ j, k ≤ j → j < 8 → O[j]? = some (0, 0))) (fun iv _ => (8 - (intOf iv).toNat))
  case atStart => exact ⟨0, _, by omega, rfl, W0.out, fun j hj => by omega, fun j _ hj => by rw [List.getElem?_replicate, if_pos hj]⟩
  case round =>
    clear W0
    obtain ⟨k, O, hk, rfl, hT⟩ := hrel
    by_cases hlt : k < 8
    · have hlt' : (k : Int) < 8 := by omega
      obtain ⟨v0, v1, v2, v3, v4, v5, v6, v7, hwin⟩ := eight m.win h8
      have y0 := hT.out.1.mb.win 0 (by omega)
      have y1 := hT.out.1.mb.win 1 (by omega)
      have y2 := hT.out.1.mb.win 2 (by omega)
      have y3 := hT.out.1.mb.win 3 (by omega)
      have y4 := hT.out.1.mb.win 4 (by omega)
      have y5 := hT.out.1.mb.win 5 (by omega)
      have y6 := hT.out.1.mb.win 6 (by omega)
      have y7 := hT.out.1.mb.win 7 (by omega)
      simp only [hwin, List.getElem_cons_zero, List.getElem_cons_succ] at y0 y1 y2 y3 y4 y5 y6 y7
      have HWIN := Lib.hid hwin
      clear hwin
      go_wp2_with fail
      rw [show (#[cf v0, cf v1, cf v2, cf v3, cf v4, cf v5, cf v6, cf v7] : Array Value) = V cf m.win from by rw [HWIN.out]; unfold V; rfl]
      clear y0 y1 y2 y3 y4 y5 y6 y7 HWIN
      go_loopw [18] (fun iv wx => ∃ (t : Nat) (O' : List (Nat × Nat)) (p : Nat × Nat), t ≤ 8 ∧ iv = .int .i64 t ∧ Hid (WS w wx g lb s2 (s2 + 1) m O' ∧ O'[k]? = some p ∧ bd (83 + t) p.1 ∧ bd (83 + t) p.2 ∧ wvF k t p (m.win.drop t) = wvF k 0 (0, 0) m.win ∧ ∀ j, j ≠ k → O'[j]? = O[j]?)) (fun iv _ => (8 - (intOf iv).toNat))
      case atStart => exact ⟨0, O, (0, 0), by omega, rfl, hT.out.1, hT.out.2.2 k (Nat.le_refl _) hlt, bd_zero _, bd_zero _, by rw [List.drop_zero], fun j _ => rfl⟩
      case round =>
        obtain ⟨t, O', p, ht, rfl, hU⟩ := hrel
        by_cases htl : t < 8
        · have htl' : (t : Int) < 8 := by omega
          have htw : t < m.win.length := by omega
          have hidx := idx8 m.win h8 t htw
          have hv := HB.out m.win[t] (List.getElem_mem _)
          have hst := hU.out.2.2.2.2.1
          rw [dropcons htw, wvF_cons] at hst
          generalize m.win[t] = v at *
          have hnn : k * t ≤ 49 := by
            have : k * t ≤ 7 * 7 := Nat.mul_le_mul (by omega) (by omega)
            omega
          obtain ⟨n, hn⟩ : ∃ n, k * t = n := ⟨_, rfl⟩
          rw [hn] at hst hnn
          obtain ⟨c1, c2, c3, c4, c5⟩ := wst_bd (n := n) hv hU.out.2.2.1 hU.out.2.2.2.1 (by omega)
          obtain ⟨x1, hx1⟩ : ∃ x, tre (n % 8) = x := ⟨_, rfl⟩
          obtain ⟨x2, hx2⟩ : ∃ x, tre ((n + 6) % 8) = x := ⟨_, rfl⟩
          have HTn := Lib.hid (HT.out n · hnn)
          rw [hx1] at c1 c3 HTn
          rw [hx2] at c2 c3 HTn
          obtain ⟨z1, hz1⟩ : ∃ x, fml v x1 = x := ⟨_, rfl⟩
          obtain ⟨z2, hz2⟩ : ∃ x, fml v x2 = x := ⟨_, rfl⟩
          rw [hz1] at c1 c3
          rw [hz2] at c2 c3
          obtain ⟨p', hp'⟩ : ∃ x, wst v n p = x := ⟨_, rfl⟩
          rw [hp'] at c3 c4 c5 hst
          obtain ⟨pa, pb⟩ := p
          obtain ⟨qa, qb⟩ := p'
          have hm1 := fun w => run_float_arith (P := Try.prog) w .mul 33 .f64 _ _ _ c1
          have hm2 := fun w => run_float_arith (P := Try.prog) w .mul 33 .f64 _ _ _ c2
          have hsum := fun w => run_complex_sum (P := Try.prog) w .add (Or.inl rfl) 47 .f64 _ _ _ _ _ _ c3
          have hkl : k < O'.length := by rw [hU.out.1.len]; exact hlt
          have hck : wr.cell? ⟨s2 + 1, k, none⟩ = some (.complex .f64 pa pb) := by
            rw [hU.out.1.o.cell, V_get, hU.out.2.1]; rfl
          have hfk := hU.out.1.o.free k
          have HS : Hid (WS w (wr.setCell ⟨s2 + 1, k, none⟩ (cx (qa, qb))) g lb s2 (s2 + 1) m (O'.set k (qa, qb)) ∧ (O'.set k (qa, qb))[k]? = some (qa, qb) ∧ bd (83 + (t + 1)) qa ∧ bd (83 + (t + 1)) qb ∧ wvF k (t + 1) (qa, qb) (m.win.drop (t + 1)) = wvF k 0 (0, 0) m.win ∧ ∀ j, j ≠ k → (O'.set k (qa, qb))[j]? = O[j]?) :=
            ⟨hU.out.1.set k (qa, qb), by rw [List.getElem?_set_self hkl], c4, c5, hst, fun j hj => by rw [List.getElem?_set_ne (Ne.symm hj)]; exact hU.out.2.2.2.2.2 j hj⟩
          have hkt : (k : Int) * (t : Int) = (n : Int) := by rw [← hn]; exact (Int.natCast_mul k t).symm
          have hkw : IntKind.i64.wrap ((k : Int) * (t : Int)) = (n : Int) := by rw [hkt]; exact IntWalk.i64_in _ (by omega)
          have hkx : wrap64 ((k : Int) * (t : Int)) = (n : Int) := by rw [hkt]; unfold wrap64; omega
          clear hv hst c1 c2 c3 c4 c5 hU hx1 hx2 hz1 hz2 hp' hkl hn hkt htw hnn
          go_wp2_with (first
            | (go_at_call 33; refine (HTn.out _).mono ?_; clear HTn; rintro e w5 ⟨rfl, rfl⟩)
            | fail)
          go_roundw
          case measure => simp only [intOf]; omega
          case rel => exact ⟨t + 1, _, (qa, qb), by omega, by go_num, HS.out⟩
        · obtain rfl : t = 8 := by omega
          have HF : Hid (WS w wr g lb s2 (s2 + 1) m O' ∧ (∀ j, j < k + 1 → O'[j]? = some (wvF j 0 (0, 0) m.win)) ∧ ∀ j, k + 1 ≤ j → j < 8 → O'[j]? = some (0, 0)) := by
            have h5 := hU.out.2.2.2.2.1
            rw [List.drop_of_length_le (by omega), wvF_nil] at h5
            refine ⟨hU.out.1, fun j hj => ?_, fun j h1 h2 => ?_⟩
            · by_cases e : j = k
              · subst e; rw [hU.out.2.1, h5]
              · rw [hU.out.2.2.2.2.2 j e]; exact hT.out.2.1 j (by omega)
            · rw [hU.out.2.2.2.2.2 j (by omega)]; exact hT.out.2.2 j (by omega) h2
          clear hU hT
          go_wp2_with fail
          go_roundw
          case measure => simp only [intOf]; omega
          case rel => exact ⟨k + 1, O', by omega, by go_num, HF.out⟩
    · obtain rfl : k = 8 := by omega
      have hO : O = wave m.win := by
        apply List.ext_getElem?
        intro j
        by_cases hj : j < 8
        · rw [hT.out.2.1 j hj]
          unfold wave
          rw [List.getElem?_map, List.getElem?_range hj]
          rfl
        · rw [List.getElem?_eq_none (by rw [hT.out.1.len]; omega), List.getElem?_eq_none (by unfold wave; simp; omega)]
      subst hO
      obtain ⟨o0, o1, o2, o3, o4, o5, o6, o7, hwv⟩ := eight (wave m.win) hT.out.1.len
      have hat : ∀ j, j < 8 → wr.cell? ⟨s2 + 1, j, none⟩ = ((wave m.win)[j]?).map cx := fun j _ => by rw [hT.out.1.o.cell, V_get]
      have HR := Lib.hid hT.out
      rw [hwv] at hat
      have y0 : wr.cell? ⟨s2 + 1, 0, none⟩ = some (cx o0) := hat 0 (by omega)
      have y1 : wr.cell? ⟨s2 + 1, 1, none⟩ = some (cx o1) := hat 1 (by omega)
      have y2 : wr.cell? ⟨s2 + 1, 2, none⟩ = some (cx o2) := hat 2 (by omega)
      have y3 : wr.cell? ⟨s2 + 1, 3, none⟩ = some (cx o3) := hat 3 (by omega)
      have y4 : wr.cell? ⟨s2 + 1, 4, none⟩ = some (cx o4) := hat 4 (by omega)
      have y5 : wr.cell? ⟨s2 + 1, 5, none⟩ = some (cx o5) := hat 5 (by omega)
      have y6 : wr.cell? ⟨s2 + 1, 6, none⟩ = some (cx o6) := hat 6 (by omega)
      have y7 : wr.cell? ⟨s2 + 1, 7, none⟩ = some (cx o7) := hat 7 (by omega)
      clear hat hT hk hlt
      have HW := Lib.hid hwv
      clear hwv
      have hsz : Hid ((V cx (List.replicate 8 (0, 0))).size = (#[cx o0, cx o1, cx o2, cx o3, cx o4, cx o5, cx o6, cx o7] : Array Value).size) := by show _ = _; rw [V_size]; rfl
      have hone : Hid ((#[cx o0, cx o1, cx o2, cx o3, cx o4, cx o5, cx o6, cx o7] : Array Value).all (·.oneCell') = true) := by
        show _ = _
        rw [show (#[cx o0, cx o1, cx o2, cx o3, cx o4, cx o5, cx o6, cx o7] : Array Value) = V cx [o0, o1, o2, o3, o4, o5, o6, o7] from by unfold V; rfl]
        exact V_one cx cx_one _
      go_wp2_with (first
        | (refine wpList_store_row rfl 48 (.tmp 2) (.tmp 42) rfl s2 #[cx o0, cx o1, cx o2, cx o3, cx o4, cx o5, cx o6, cx o7] (V cx (List.replicate 8 (0, 0))) 48 rfl rfl HR.out.1.r Try.size48 hsz.out hone.out ?_)
        | fail)
      have hbz : Blk (wr.setRow s2 #[cx o0, cx o1, cx o2, cx o3, cx o4, cx o5, cx o6, cx o7]) s2 #[cx o0, cx o1, cx o2, cx o3, cx o4, cx o5, cx o6, cx o7] 48 := setRow_heap wr s2 _ _ 48 (0, 0) HR.out.1.r
      have hez : Ext w (wr.setRow s2 #[cx o0, cx o1, cx o2, cx o3, cx o4, cx o5, cx o6, cx o7]) := HR.out.1.ext.grown ⟨rfl, rfl, rfl, by simp [World.setRow], fun k _ hk => setRow_other wr s2 k _ (fun e => hk (by rw [e]))⟩ (fun k hk => by cases hk; exact HR.out.1.lo.2)
      generalize wr.setRow s2 #[cx o0, cx o1, cx o2, cx o3, cx o4, cx o5, cx o6, cx o7] = wz at *
      have z0 : wz.cell? ⟨s2, 0, none⟩ = some (cx o0) := hbz.cell 0
      have z1 : wz.cell? ⟨s2, 1, none⟩ = some (cx o1) := hbz.cell 1
      have z2 : wz.cell? ⟨s2, 2, none⟩ = some (cx o2) := hbz.cell 2
      have z3 : wz.cell? ⟨s2, 3, none⟩ = some (cx o3) := hbz.cell 3
      have z4 : wz.cell? ⟨s2, 4, none⟩ = some (cx o4) := hbz.cell 4
      have z5 : wz.cell? ⟨s2, 5, none⟩ = some (cx o5) := hbz.cell 5
      have z6 : wz.cell? ⟨s2, 6, none⟩ = some (cx o6) := hbz.cell 6
      have z7 : wz.cell? ⟨s2, 7, none⟩ = some (cx o7) := hbz.cell 7
      exact bodyPost_ret (v := .agg #[cx o0, cx o1, cx o2, cx o3, cx o4, cx o5, cx o6, cx o7]) (by simp [results, Try.results21, go_sem, z0, z1, z2, z3, z4, z5, z6, z7]) rfl ⟨by rw [HW.out]; unfold V; rfl, hez⟩
end Go.Proofs.Ytjgdeijodjihlaa
