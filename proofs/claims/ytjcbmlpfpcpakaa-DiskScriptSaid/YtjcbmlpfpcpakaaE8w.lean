/- Layer 8 (disk): every step of a script, by both. -/
import Derived.Test.YtjcbmlpfpcpakaaE8v
namespace Go.Proofs.Ytjcbmlpfpcpakaa
open Go.RowKit
set_option linter.unusedVariables false
theorem After.up {w0 w w' : World} {K : Nat → Prop} {g m j : Nat} (h : After w0 w w' K g m j) : After w0 w w' K g m (j + 1) := by
  obtain ⟨sb, rv, rsb, rsc, pv, E, left, d, h1, h2, h3, h4⟩ := h
  exact ⟨sb, rv, rsb, rsc, pv, E, left, d, h1, Nat.le_succ_of_le h2, h3, h4⟩
theorem After.from {w0 w w1 w' : World} {K : Nat → Prop} {g m j : Nat} (h : After w0 w1 w' K g m j) (e : Ext w w1) : After w0 w w' K g m j := by
  obtain ⟨sb, rv, rsb, rsc, pv, E, left, d, h1, h2, h3, h4⟩ := h
  refine ⟨sb, rv, rsb, rsc, pv, E, left, d, h1, h2, e.only.trans h3, fun k hk => ?_⟩
  rcases h4 k hk with h | h
  · exact Or.inl h
  · exact Or.inr (Nat.le_trans e.size h)
section
variable {w0 w : World} {g sb m rsb rsc j : Nat} {rv pv : Value} {E : List We} {left : Int} {d : Dk}
theorem step_crash (h : PQ w0 w g sb rv m rsb rsc pv E left d) (who n torn cut : Int) (da ka : Option Addr) (keep : List Bool) (dn dc kc : Nat) (hk : Rd w0 vb (.slice ka keep.length kc) keep) (hkl : keep.length ≤ 140737488351232) :
    Calls Try.prog 42 #[.pointer (some ⟨g, 0, none⟩), .pointer (some ⟨m, 0, none⟩), .agg #[ci who, ci 5, ci n, .slice da dn dc, .slice ka keep.length kc, ci torn, ci cut]] w fun e w' => e = .returned (.bool true) ∧ After w0 w w' (kk g sb rv m rsb pv E) g m j := by
  have hx := Ext.of_alloc (w := w) (.cells #[ci who, ci 5, ci n, .slice da dn dc, .slice ka keep.length kc, ci torn, ci cut] 60)
  have HP := Lib.hid (h.ext hx)
  have HX := Lib.hid hx
  have HK := Lib.hid hk
  have HKL := Lib.hid hkl
  have hkl' : (keep.length : Int) ≤ 140737488351232 := by omega
  clear h hx hk hkl
  go_enter Try.func42, Try.ntmps42
  go_wp2_with (first
    | (go_at_call 90; refine (lcrash_calls (j := j) HP.out who 5 n torn cut da ka keep dn dc kc HK.out HKL.out).mono ?_
       rintro e w1 ⟨rfl, a⟩
       have A1 := Lib.hid a
       clear a)
    | fail)
  go_ret
  exact ⟨rfl, A1.out.from HX.out⟩
/-- every step -/
theorem step_any (h : PQ w0 w g sb rv m rsb rsc pv E left d) (hj : d.R.length ≤ j) (hjb : (j + 1) * 72 ≤ 140737488355328) (p : Dop) (ok : p.ok w0) (hkl : p.keep.length ≤ 140737488351232) :
    Calls Try.prog 42 #[.pointer (some ⟨g, 0, none⟩), .pointer (some ⟨m, 0, none⟩), .agg (opC p)] w fun e w' => e = .returned (.bool true) ∧ After w0 w w' (kk g sb rv m rsb pv E) g m (j + 1) := by
  obtain ⟨who, kd, n, dv, dat, kv, keep, torn, cut⟩ := p
  obtain ⟨k1, k2, k3, k4, k5, hd, hdl, hk, hk2⟩ := ok
  simp only at k1 k2 k3 k4 k5 hd hdl hk hk2 hkl
  obtain ⟨da, dc, rfl⟩ := hd.form
  obtain ⟨ka, kc, rfl⟩ := hk.form
  unfold opC
  simp only
  by_cases c0 : kd = 0
  · subst c0; exact step_write h hj hjb who n torn cut da ka dat dc keep.length kc hd hdl
  by_cases c1 : kd = 1
  · subst c1; exact step_read h hj who n torn cut da ka dat.length dc keep.length kc
  by_cases c2 : kd = 2
  · subst c2; exact step_sync h hj who n torn cut da ka dat.length dc keep.length kc
  by_cases c3 : kd = 3
  · subst c3; exact step_pending h hj who n torn cut da ka dat.length dc keep.length kc
  by_cases c4 : kd = 4
  · subst c4; exact step_fuse h hj who n torn cut k2.2 da ka dat.length dc keep.length kc
  by_cases c5 : kd = 5
  · subst c5; exact (step_crash (j := j) h who n torn cut da ka keep dat.length dc kc hk hkl).mono fun e w' ⟨a, b⟩ => ⟨a, b.up⟩
  by_cases c6 : kd = 6
  · subst c6; exact step_image h hj who n torn cut da ka dat.length dc keep.length kc
  by_cases c7 : kd = 7
  · subst c7; exact step_counts h hj who n torn cut da ka dat.length dc keep.length kc
  · exact step_other h hj who kd n torn cut da ka dat.length dc keep.length kc ⟨c0, c1, c2, c3, c4, c5, c6, c7⟩
end
set_option maxRecDepth 100000 in
set_option maxHeartbeats 4000000 in
theorem step_nil {w0 w : World} (hw : Ext w0 w) (p : Dop) (ok : p.ok w0) (hkl : p.keep.length ≤ 140737488351232) :
    Calls Try.prog 42 #[.pointer none, .pointer none, .agg (opC p)] w fun e w' => e = .returned (.bool true) ∧ Ext w w' := by
  obtain ⟨who, kd, n, dv, dat, kv, keep, torn, cut⟩ := p
  obtain ⟨k1, k2, k3, k4, k5, hd, hdl, hk, hk2⟩ := ok
  simp only at k1 k2 k3 k4 k5 hd hdl hk hk2 hkl
  obtain ⟨da, dc, rfl⟩ := hd.form
  obtain ⟨ka, kc, rfl⟩ := hk.form
  unfold opC
  simp only
  have HX := Lib.hid (Ext.of_alloc (w := w) (.cells #[ci who, ci kd, ci n, .slice da dat.length dc, .slice ka keep.length kc, ci torn, ci cut] 60))
  have HBX := Lib.hid (Blk.new w #[ci who, ci kd, ci n, .slice da dat.length dc, .slice ka keep.length kc, ci torn, ci cut] 60)
  have HK := Lib.hid hk
  have HD := Lib.hid (hw.rd hd)
  have HDL := Lib.hid hdl
  have HKL := Lib.hid hkl
  have HW := Lib.hid hw
  have hdl' : (dat.length : Int) ≤ 140737488351232 := by omega
  have hkl' : (keep.length : Int) ≤ 140737488351232 := by omega
  clear k1 k2 k3 k4 k5 hd hdl hk hk2 hkl hw
  by_cases c0 : kd = 0
  · subst c0
    go_enter Try.func42, Try.ntmps42
    go_wp2_with (first
      | (go_at_call 85; refine (rwrite_nil _ _ _).mono ?_; rintro e w1 ⟨rfl, rfl⟩)
      | (go_at_call 28; refine (lent_at' _ dat _ (HX.out.rd HD.out) HDL.out).mono ?_
         rintro e w2 ⟨rfl, l, x, lt⟩
         rw [show (w.alloc (.cells #[ci who, ci 0, ci n, .slice da dat.length dc, .slice ka keep.length kc, ci torn, ci cut] 60)).heap.size = w.heap.size + 1 from Array.size_push _] at l
         have L2 := Lib.hid l
         have X2 := Lib.hid (HX.out.trans x)
         have c2 := x.cell (HBX.out.cell 2)
         have c3 := x.cell (HBX.out.cell 3)
         clear l x lt)
      | (go_at_call 27; refine (write_nil _ _ _).mono ?_; rintro e w1 ⟨rfl, rfl⟩)
      | (go_at_call 25; refine (num_calls _ _).mono ?_; rintro e w99 ⟨rfl, rfl⟩)
      | (go_at_call 41; refine (kept_at _ dat _ w2 L2.out (X2.out.rd HD.out) HDL.out).mono ?_
         rintro e w3 ⟨rfl, n3, h3⟩
         have X3 : Hid (Ext w2 w3) := by rw [← h3]; exact (Ext.refl w2).drewN n3
         clear h3)
      | (go_at_call 37; refine (over_spn _ _ _ dat 5 w3 ((show LentAt w3 _ dat from Blk.ext L2.out X3.out).spn HDL.out) rfl (by have := HDL.out; omega)).mono ?_
         rintro e w4 ⟨rfl, k⟩
         have K4 : Hid (Ext w w4) := (X2.out.trans X3.out).grown k (fun y hy => by have := Option.some.inj hy; omega)
         clear k)
      | fail)
    go_ret
    exact ⟨rfl, K4.out⟩
  by_cases c1 : kd = 1
  · subst c1
    go_enter Try.func42, Try.ntmps42
    go_wp2_with (first
      | (go_at_call 86; refine (rread_nil _ _).mono ?_; rintro e w1 ⟨rfl, rfl⟩)
      | (go_at_call 33; refine (read_nil _ _).mono ?_; rintro e w1 ⟨rfl, rfl⟩)
      | (go_at_call 25; refine (num_calls _ _).mono ?_; rintro e w99 ⟨rfl, rfl⟩)
      | (go_at_call 34; refine (same_calls _ _ [] [] _ (nil_rd _) (nil_rd _) (by decide) (by decide)).mono ?_
         rw [decide_eq_true rfl]
         rintro e w2 ⟨rfl, n2, h2⟩
         have X2 : Hid (Ext w w2) := by rw [← h2]; exact HX.out.drewN n2
         clear h2)
      | (go_at_call 37; refine (over_nil _).mono ?_; rintro e w3 ⟨rfl, rfl⟩)
      | fail)
    go_ret
    exact ⟨rfl, X2.out⟩
  by_cases c2 : kd = 2
  · subst c2
    go_enter Try.func42, Try.ntmps42
    go_wp2_with (first
      | (go_at_call 87; refine (rsync_nil _).mono ?_; rintro e w1 ⟨rfl, rfl⟩)
      | (go_at_call 29; refine (sync_nil _).mono ?_; rintro e w1 ⟨rfl, rfl⟩)
      | (go_at_call 25; refine (num_calls _ _).mono ?_; rintro e w99 ⟨rfl, rfl⟩)
      | fail)
    go_ret
    exact ⟨rfl, HX.out⟩
  by_cases c3 : kd = 3
  · subst c3
    go_enter Try.func42, Try.ntmps42
    go_wp2_with (first
      | (go_at_call 30; refine (pending_nil _).mono ?_; rintro e w1 ⟨rfl, rfl⟩)
      | (go_at_call 88; refine (rpending_nil _).mono ?_; rintro e w1 ⟨rfl, rfl⟩)
      | fail)
    go_ret
    exact ⟨rfl, HX.out⟩
  by_cases c4 : kd = 4
  · subst c4
    go_enter Try.func42, Try.ntmps42
    go_wp2_with (first
      | (go_at_call 89; refine (rfuse_nil _ _).mono ?_; rintro e w1 ⟨rfl, rfl⟩)
      | (go_at_call 26; refine (fuse_nil _ _).mono ?_; rintro e w1 ⟨rfl, rfl⟩)
      | fail)
    go_ret
    exact ⟨rfl, HX.out⟩
  by_cases c5 : kd = 5
  · subst c5
    go_enter Try.func42, Try.ntmps42
    go_wp2_with (first
      | (go_at_call 90; refine (lcrash_nil (HW.out.trans HX.out) who 5 n torn cut da ka keep dat.length dc kc HK.out HKL.out).mono ?_
         rintro e w1 ⟨rfl, a⟩
         have A1 := Lib.hid (HX.out.trans a)
         clear a)
      | fail)
    go_ret
    exact ⟨rfl, A1.out⟩
  by_cases c6 : kd = 6
  · subst c6
    go_enter Try.func42, Try.ntmps42
    go_wp2_with (first
      | (go_at_call 31; refine (image_nil _).mono ?_; rintro e w1 ⟨rfl, rfl⟩)
      | (go_at_call 91; refine (rimage_nil _).mono ?_; rintro e w1 ⟨rfl, rfl⟩)
      | (go_at_call 34; refine (same_calls _ _ [] [] _ (nil_rd _) (nil_rd _) (by decide) (by decide)).mono ?_
         rw [decide_eq_true rfl]
         rintro e w2 ⟨rfl, n2, h2⟩
         have X2 : Hid (Ext w w2) := by rw [← h2]; exact HX.out.drewN n2
         clear h2)
      | (go_at_call 38; refine (sectors_nil _).mono ?_; rintro e w1 ⟨rfl, rfl⟩)
      | (go_at_call 92; refine (rsectors_nil _).mono ?_; rintro e w1 ⟨rfl, rfl⟩)
      | (go_at_call 37; refine (over_nil _).mono ?_; rintro e w3 ⟨rfl, rfl⟩)
      | fail)
    go_ret
    exact ⟨rfl, X2.out⟩
  by_cases c7 : kd = 7
  · subst c7
    go_enter Try.func42, Try.ntmps42
    go_wp2_with (first
      | (go_at_call 44; refine (counts_nil _).mono ?_; rintro e w1 ⟨rfl, rfl⟩)
      | (go_at_call 93; refine (rcounts_nil _).mono ?_; rintro e w1 ⟨rfl, rfl⟩)
      | fail)
    go_ret
    exact ⟨rfl, HX.out⟩
  · have b0 : (kd == 0) = false := by simpa using c0
    have b1 : (kd == 1) = false := by simpa using c1
    have b2 : (kd == 2) = false := by simpa using c2
    have b3 : (kd == 3) = false := by simpa using c3
    have b4 : (kd == 4) = false := by simpa using c4
    have b5 : (kd == 5) = false := by simpa using c5
    have b6 : (kd == 6) = false := by simpa using c6
    have b7 : (kd == 7) = false := by simpa using c7
    go_enter Try.func42, Try.ntmps42
    go_wp2_with fail
    go_ret
    exact ⟨rfl, HX.out⟩
end Go.Proofs.Ytjcbmlpfpcpakaa
