/- Layer 25 (balance): the document's next move. -/
import Derived.Test.YtkpjnikmcojdlaaB25m
namespace Go.Proofs.Ytkpjnikmcojdlaa
open Go.RowKit
set_option linter.unusedVariables false

theorem sumsOf_getD {L : List Nat} {O : List Int} {n j : Nat} (h : j < n) : (sumsOf L O n).getD j 0 = ldS (j : Int) 0 L O := by
  unfold sumsOf
  rw [List.getD_eq_getElem?_getD, List.getElem?_map, List.getElem?_range h]
  rfl
/-- the document's best move so far, as it lies -/
structure Bx (w wr : World) (rb bb : Nat) (B : Array Value) : Prop where
  ext : Ext w wr
  r : Blk wr rb #[ci 0, ci 0, ci 0] 29
  b : Blk wr bb B 29
  ne : rb ≠ bb
  lo : w.heap.size ≤ rb ∧ w.heap.size ≤ bb
theorem Bx.ext' {w wr wx : World} {rb bb : Nat} {B : Array Value} (h : Bx w wr rb bb B) (e : Ext wr wx) : Bx w wx rb bb B := ⟨h.ext.trans e, h.r.ext e, h.b.ext e, h.ne, h.lo⟩
theorem Bx.put3 {w wr : World} {rb bb : Nat} {x y z : Value} (h : Bx w wr rb bb #[x, y, z]) (a b c : Value) : Bx w (((wr.setCell ⟨bb, 0, none⟩ a).setCell ⟨bb, 1, none⟩ b).setCell ⟨bb, 2, none⟩ c) rb bb #[a, b, c] := by
  have g : wr.grownBy (((wr.setCell ⟨bb, 0, none⟩ a).setCell ⟨bb, 1, none⟩ b).setCell ⟨bb, 2, none⟩ c) (some bb) := grown_trans (grown_set _ _ _ _) (grown_trans (grown_set _ _ _ _) (grown_set _ _ _ _))
  exact ⟨h.ext.grown1 g h.lo.2, h.r.grown g (fun e => h.ne (Option.some.inj e)), ((h.b.set 0 a).set 1 b).set 2 c, h.ne, h.lo⟩
set_option maxHeartbeats 4000000 in
set_option maxRecDepth 100000 in
theorem best_calls (lv ov : Value) (ld : List Nat) (O : List Int) (n : Nat) (w : World) (hl : Rd w cf lv ld) (ho : Rd w ci ov O) (rt : Rt ld O (n : Int)) :
    Calls Try.prog 41 #[lv, ov, ci n] w fun e w' => e = .returned (.tuple #[.agg (bvv (fullOf (sumsOf ld O n)) (nextM ld O n)), .bool (nextM ld O n).isSome]) ∧ Ext w w' := by
  have hn8 : (n : Int) ≤ 8 := rt.hi
  have hn1 : (0 : Int) < n := rt.lo
  have hO64 : (O.length : Int) ≤ 64 := by have := rt.many; omega
  have LV : Hid (∀ (v : Nat) (wx : World), Ext w wx → Calls Try.prog 36 #[lv, ov, ci v] wx fun e w' => (e = .returned (cf (ldS (v : Int) 0 ld O)) ∧ good (ldS (v : Int) 0 ld O)) ∧ wx = w') := fun v wx e =>
    load_calls lv ov ld O v wx (e.rd hl) (e.rd ho) rt.len rt.nn (by have := rt.len; have := rt.many; omega)
  obtain ⟨S, hS⟩ : ∃ S, sumsOf ld O n = S := ⟨_, rfl⟩
  have hSl : S.length = n := by rw [← hS, sumsOf_len]
  have hSg : ∀ x ∈ S, good x := by rw [← hS]; exact sums_good rt.nn
  have hSv : ∀ v, v < n → ldS (v : Int) 0 ld O = S.getD v 0 := fun v hv => by rw [← hS, sumsOf_getD hv]
  obtain ⟨f, hf⟩ : ∃ f, fullOf S = f := ⟨_, rfl⟩
  have hfn : f < n := by rw [← hf, ← hSl]; exact fullOf_lt (by rw [hSl]; omega)
  obtain ⟨R, hR⟩ : ∃ R, nextM ld O n = R := ⟨_, rfl⟩
  have HR : Hid ((seekTo ld O S f n O.length).2 = R) := by show _ = _; rw [← hR, ← hf, ← hS]; rfl
  rw [hR, hS, hf]
  obtain ⟨qa, oc, rfl, hat⟩ := ho.at
  have HAT := Lib.hid hat
  obtain ⟨top, htop⟩ : ∃ x, S.getD f 0 = x := ⟨_, rfl⟩
  have HTOP := Lib.hid htop
  have X0 := Lib.hid (Ext.of_alloc (w := w) (.cells #[ci 0, ci 0, ci 0] 29))
  have HL := Lib.hid hl
  have HO := Lib.hid ho
  have RT := Lib.hid rt
  have HSL := Lib.hid hSl
  have HSG := Lib.hid hSg
  have HSV := Lib.hid hSv
  have HF : Hid (fullTo S n = f) := by show _ = _; rw [← hf, ← hSl]; rfl
  have HFN := Lib.hid hfn
  have hfi : (f : Int) < n := by omega
  have RB := Lib.hid (Blk.new w #[ci 0, ci 0, ci 0] 29)
  clear hl ho rt hSl hSg hf hfn hR hS htop hat hSv
  go_enter Try.func41, Try.ntmps41
  go_wp2_with fail
  obtain ⟨w1, hw1⟩ : ∃ x, w.alloc (.cells #[ci 0, ci 0, ci 0] 29) = x := ⟨_, rfl⟩
  rw [hw1] at X0 RB ⊢
  clear hw1
  go_loop [8, 9] (fun fv iv => ∃ (k : Nat), k ≤ n ∧ iv = .int .i64 k ∧ fv = ci (fullTo S k)) (fun _ iv => (n - (intOf iv).toNat))
  case atStart => exact ⟨0, by omega, rfl, rfl⟩
  case round =>
    obtain ⟨k, hk, rfl, rfl⟩ := hrel
    by_cases hlt : k < n
    · have hki : (k : Int) < n := by omega
      have hfk : fullTo S k < n := by have := (fullTo_spec S k).1; omega
      have hs := fullTo_succ S k
      unfold fstep at hs
      obtain ⟨j, hj⟩ : ∃ j, fullTo S k = j := ⟨_, rfl⟩
      rw [hj] at hfk hs ⊢
      have La := Lib.hid (LV.out k w1 X0.out)
      have Lb := Lib.hid (LV.out j w1 X0.out)
      rw [HSV.out k hlt] at La
      rw [HSV.out j hfk] at Lb
      have ho := ord_gt (HSG.out _ (getD_mem S k (by rw [HSL.out]; exact hlt))) (HSG.out _ (getD_mem S j (by rw [HSL.out]; exact hfk)))
      generalize S.getD k 0 = x at *
      generalize S.getD j 0 = y at *
      have HS := Lib.hid hs
      clear hs hj hfk
      by_cases hxy : y < x
      · rw [decide_eq_true hxy] at ho
        have HS2 : Hid (fullTo S (k + 1) = k) := by show _ = _; rw [HS.out, if_pos hxy]
        clear hxy
        go_wp2_with (first
          | (go_at_call 36; refine La.out.mono ?_; clear La; rintro e w3 ⟨⟨rfl, -⟩, rfl⟩)
          | (go_at_call 36; refine Lb.out.mono ?_; clear Lb; rintro e w3 ⟨⟨rfl, -⟩, rfl⟩)
          | fail)
        go_round
        case measure => simp only [intOf]; omega
        case rel => exact ⟨k + 1, by omega, by go_num, by rw [HS2.out]⟩
      · rw [decide_eq_false hxy] at ho
        have HS2 : Hid (fullTo S (k + 1) = j) := by show _ = _; rw [HS.out, if_neg hxy]
        clear hxy
        go_wp2_with (first
          | (go_at_call 36; refine La.out.mono ?_; clear La; rintro e w3 ⟨⟨rfl, -⟩, rfl⟩)
          | (go_at_call 36; refine Lb.out.mono ?_; clear Lb; rintro e w3 ⟨⟨rfl, -⟩, rfl⟩)
          | fail)
        go_round
        case measure => simp only [intOf]; omega
        case rel => exact ⟨k + 1, by omega, by go_num, by rw [HS2.out]⟩
    · obtain rfl : n = k := by omega
      rw [HF.out]
      clear hk hlt
      have Lf := Lib.hid (LV.out f w1 X0.out)
      rw [HSV.out f HFN.out, HTOP.out] at Lf
      go_wp2_with (first
        | (go_at_call 36; refine Lf.out.mono ?_; clear Lf; rintro e w3 ⟨⟨rfl, -⟩, rfl⟩)
        | fail)
      have N0 : Hid (Bx w (w1.alloc (.cells #[ci 0, ci 0, ci 0] 29)) w.heap.size w1.heap.size #[ci 0, ci 0, ci 0]) := by
        have x := Ext.of_alloc (w := w1) (.cells #[ci 0, ci 0, ci 0] 29)
        refine ⟨X0.out.trans x, RB.out.ext x, Blk.new _ _ _, ?_, Nat.le_refl _, X0.out.size⟩
        have := RB.out.lt; omega
      obtain ⟨w2, hw2⟩ : ∃ x, w1.alloc (.cells #[ci 0, ci 0, ci 0] 29) = x := ⟨_, rfl⟩
      obtain ⟨rb, hrb⟩ : ∃ x, w.heap.size = x := ⟨_, rfl⟩
      obtain ⟨bb, hbb⟩ : ∃ x, w1.heap.size = x := ⟨_, rfl⟩
      rw [hw2] at N0 ⊢
      rw [hrb, hbb] at N0
      rw [hrb, hbb]
      clear hw2 hbb hrb X0 RB
      go_loopw [10, 12, 13, 14, 15, 16] (fun lv0 pv0 iv _ _ _ wr => ∃ (k : Nat), k ≤ O.length ∧ iv = .int .i64 k ∧ lv0 = cf (seekTo ld O S f n k).1 ∧ pv0 = .bool (seekTo ld O S f n k).2.isSome ∧ Hid (Bx w wr rb bb (bvv f (seekTo ld O S f n k).2) ∧ good (seekTo ld O S f n k).1)) (fun _ _ iv _ _ _ _ => (O.length - (intOf iv).toNat))
      case atStart => exact ⟨0, by omega, rfl, by rw [seekTo_zero, HTOP.out], by rw [seekTo_zero]; rfl, by rw [seekTo_zero]; exact N0.out, by rw [seekTo_zero]; exact HSG.out _ (getD_mem S f (by rw [HSL.out]; exact HFN.out))⟩
      case round =>
        clear N0
        obtain ⟨k, hk, rfl, rfl, rfl, hT⟩ := hrel
        by_cases hlt : k < O.length
        · obtain ⟨b1, o1, rfl, hco'⟩ := HAT.out k hlt
          have hco := hT.out.1.ext.cell hco'
          have hrow := seekTo_succ ld O S f n k
          have hO : O.getD k 0 = O[k] := getD_eq 0 hlt
          unfold rowAll at hrow
          rw [hO] at hrow
          have hok0 := seekTo_ok ld O S f n k hk
          obtain ⟨st, hst⟩ : ∃ x, seekTo ld O S f n k = x := ⟨_, rfl⟩
          rw [hst] at hT hrow hok0 ⊢
          have HROW := Lib.hid hrow
          have HOK0 := Lib.hid hok0
          clear hok0 hrow hst hco'
          by_cases he : O[k] = (f : Int)
          · have HOE : Hid (∃ h : k < O.length, O[k] = (f : Int)) := ⟨hlt, he⟩
            have t1 : (O[k] != (f : Int)) = false := by simp [he]
            have HR2 : Hid (seekTo ld O S f n (k + 1) = rowTo ld O S f k st n) := by show _ = _; rw [HROW.out, if_pos he]
            have HLT := Lib.hid hlt
            have N1 := Lib.hid hT.out
            rw [he] at hco t1
            clear hO he HROW hT
            go_wp2_with fail
            go_loopw [10, 12, 14, 15, 16] (fun lv0 pv0 iv _ _ wx => ∃ (t : Nat), t ≤ n ∧ iv = .int .i64 t ∧ lv0 = cf (rowTo ld O S f k st t).1 ∧ pv0 = .bool (rowTo ld O S f k st t).2.isSome ∧ Hid (Bx w wx rb bb (bvv f (rowTo ld O S f k st t).2) ∧ good (rowTo ld O S f k st t).1)) (fun _ _ iv _ _ _ => (n - (intOf iv).toNat))
            case atStart => exact ⟨0, by omega, rfl, rfl, rfl, N1.out⟩
            case round =>
              clear N1 hco
              obtain ⟨t, ht, rfl, rfl, rfl, hT⟩ := hrel
              by_cases htn : t < n
              · have hok1 := rowTo_ok HOK0.out HLT.out (by obtain ⟨h1, h2⟩ := HOE.out; rw [getD_eq 0 h1]; exact h2) t ht
                have hstep := rowTo_succ ld O S f k st t
                unfold stp at hstep
                obtain ⟨⟨l, mm⟩, hst⟩ : ∃ x, rowTo ld O S f k st t = x := ⟨_, rfl⟩
                rw [hst] at hT hstep hok1 ⊢
                simp only at hT ⊢
                have HOK1 := Lib.hid hok1
                have HSTEP := Lib.hid hstep
                clear hstep hst hok1
                by_cases htf : t = f
                · have t2 : ((t : Int) == (f : Int)) = true := by simp [htf]
                  have HS2 : Hid (rowTo ld O S f k st (t + 1) = (l, mm)) := by show _ = _; rw [HSTEP.out, if_pos htf]
                  clear htf HSTEP
                  go_wp2_with fail
                  go_roundw
                  case measure => simp only [intOf]; omega
                  case rel => exact ⟨t + 1, by omega, by go_num, by rw [HS2.out], by rw [HS2.out], by rw [HS2.out]; exact hT.out⟩
                · have t2 : ((t : Int) == (f : Int)) = false := by simp; omega
                  rw [if_neg htf] at HSTEP
                  obtain ⟨x, hx⟩ : ∃ x, leftOf ld O f k t = x := ⟨_, rfl⟩
                  have LE := Lib.hid (leaves_calls lv (.slice (some ⟨b1, o1, none⟩) O.length oc) ld O f k t wr (hT.out.1.ext.rd HL.out) (hT.out.1.ext.rd HO.out) RT.out.len RT.out.nn HLT.out (by obtain ⟨h1, h2⟩ := HOE.out; exact h2) RT.out.many)
                  rw [hx] at LE
                  have hgx : good x := by rw [← hx]; exact left_good RT.out.nn
                  have hgl := hT.out.2
                  have hog := ord_lt hgx hgl
                  have hoe := ord_eq hgx hgl
                  have HSTEP2 : Hid (rowTo ld O S f k st (t + 1) = if takes ld O S f k t (l, mm) = true then (x, some (k, t)) else (l, mm)) := by show _ = _; rw [HSTEP.out, hx]
                  have HXX := Lib.hid hx
                  have HGX := Lib.hid hgx
                  have HGL := Lib.hid hgl
                  have HTN := Lib.hid htn
                  have htn' : (t : Int) < n := by omega
                  clear HSTEP hx hgx hgl htf
                  cases mm with
                  | none =>
                    by_cases hlx : x < l
                    · rw [decide_eq_true hlx] at hog
                      have HS2 : Hid (rowTo ld O S f k st (t + 1) = (x, some (k, t))) := by
                        show _ = _
                        rw [HSTEP2.out, if_pos]
                        unfold takes
                        simp only
                        rw [HXX.out]
                        simp
                        exact hlx
                      clear hlx
                      go_wp2_with (first
                        | (go_at_call 47; refine LE.out.mono ?_; clear LE; rintro e w3 ⟨⟨rfl, -⟩, e3⟩
                           have P3 := Lib.hid (hT.out.1.ext' e3)
                           have LQ : Hid (∀ (v m : Nat), Calls Try.prog 36 #[lv, .slice (some ⟨b1, o1, none⟩) O.length oc, ci v] (w3.drewN m) fun e w' => e = .returned (cf (ldS (v : Int) 0 ld O)) ∧ w3.drewN m = w') := fun v m => (LV.out v (w3.drewN m) (P3.out.ext.drewN m)).mono fun e w' h => ⟨h.1.1, h.2⟩
                           clear e3)
                        | fail)
                      have k0 : w3.cell? ⟨bb, 0, none⟩ = some (ci 0) := P3.out.b.cell 0
                      have k1 : w3.cell? ⟨bb, 1, none⟩ = some (ci 0) := P3.out.b.cell 1
                      have k2 : w3.cell? ⟨bb, 2, none⟩ = some (ci 0) := P3.out.b.cell 2
                      have k3 := P3.out.b.free 0
                      have k4 := P3.out.b.free 1
                      have k5 := P3.out.b.free 2
                      go_quiet (first | (go_at_call 36; exact quiet_same (LQ.out _) _) | fail)
                      go_wp2_with fail
                      go_roundw
                      case measure => simp only [intOf]; omega
                      case rel => exact ⟨t + 1, by omega, by go_num, by rw [HS2.out], by rw [HS2.out]; rfl, by rw [HS2.out]; exact ⟨(P3.out.ext' ((Ext.refl _).drewN _)).put3 _ _ _, HGX.out⟩⟩
                    · rw [decide_eq_false hlx] at hog
                      have HS2 : Hid (rowTo ld O S f k st (t + 1) = (l, none)) := by
                        show _ = _
                        rw [HSTEP2.out, if_neg]
                        unfold takes
                        simp only
                        rw [HXX.out, decide_eq_false (p := x < l) (by omega)]
                        simp
                      clear hlx
                      go_wp2_with (first
                        | (go_at_call 47; refine LE.out.mono ?_; clear LE; rintro e w3 ⟨⟨rfl, -⟩, e3⟩
                           have P3 := Lib.hid (hT.out.1.ext' e3)
                           have LQ : Hid (∀ (v m : Nat), Calls Try.prog 36 #[lv, .slice (some ⟨b1, o1, none⟩) O.length oc, ci v] (w3.drewN m) fun e w' => e = .returned (cf (ldS (v : Int) 0 ld O)) ∧ w3.drewN m = w') := fun v m => (LV.out v (w3.drewN m) (P3.out.ext.drewN m)).mono fun e w' h => ⟨h.1.1, h.2⟩
                           clear e3)
                        | fail)
                      go_quiet (first | (go_at_call 36; exact quiet_same (LQ.out _) _) | fail)
                      go_wp2_with fail
                      go_roundw
                      case measure => simp only [intOf]; omega
                      case rel => exact ⟨t + 1, by omega, by go_num, by rw [HS2.out], by rw [HS2.out]; rfl, by rw [HS2.out]; exact ⟨P3.out.ext' ((Ext.refl _).drewN _), HGL.out⟩⟩
                  | some m =>
                    obtain ⟨am, bm⟩ := m
                    have hmn : bm < n := (HOK1.out.at' _ rfl).2.2.1
                    by_cases hxe : x = l
                    · rw [decide_eq_true hxe] at hoe
                      rw [decide_eq_false (p := x < l) (by omega)] at hog
                      have hoz := ord_lt (HSG.out _ (getD_mem S t (by rw [HSL.out]; exact HTN.out))) (HSG.out _ (getD_mem S bm (by rw [HSL.out]; exact hmn)))
                      have HZ : Hid (ldS (t : Int) 0 ld O = S.getD t 0 ∧ ldS (bm : Int) 0 ld O = S.getD bm 0) := ⟨HSV.out t HTN.out, HSV.out bm hmn⟩
                      rw [← HZ.out.1, ← HZ.out.2] at hoz
                      by_cases hzz : S.getD t 0 < S.getD bm 0
                      · rw [HZ.out.1, HZ.out.2, decide_eq_true hzz, ← HZ.out.1, ← HZ.out.2] at hoz
                        have HS2 : Hid (rowTo ld O S f k st (t + 1) = (x, some (k, t))) := by
                          show _ = _
                          rw [HSTEP2.out, if_pos]
                          unfold takes
                          simp only
                          rw [HXX.out]
                          simp
                          exact Or.inr ⟨hxe, hzz⟩
                        clear hxe hzz hmn
                        go_wp2_with (first
                          | (go_at_call 47; refine LE.out.mono ?_; clear LE; rintro e w3 ⟨⟨rfl, -⟩, e3⟩
                             have P3 := Lib.hid (hT.out.1.ext' e3)
                             have LQ : Hid (∀ (v m : Nat), Calls Try.prog 36 #[lv, .slice (some ⟨b1, o1, none⟩) O.length oc, ci v] (w3.drewN m) fun e w' => e = .returned (cf (ldS (v : Int) 0 ld O)) ∧ w3.drewN m = w') := fun v m => (LV.out v (w3.drewN m) (P3.out.ext.drewN m)).mono fun e w' h => ⟨h.1.1, h.2⟩
                             clear e3)
                          | fail)
                        have k0 : w3.cell? ⟨bb, 0, none⟩ = some (ci am) := P3.out.b.cell 0
                        have k1 : w3.cell? ⟨bb, 1, none⟩ = some (ci f) := P3.out.b.cell 1
                        have k2 : w3.cell? ⟨bb, 2, none⟩ = some (ci bm) := P3.out.b.cell 2
                        have k3 := P3.out.b.free 0
                        have k4 := P3.out.b.free 1
                        have k5 := P3.out.b.free 2
                        go_quiet (first | (go_at_call 36; exact quiet_same (LQ.out _) _) | fail)
                        go_wp2_with fail
                        go_roundw
                        case measure => simp only [intOf]; omega
                        case rel => exact ⟨t + 1, by omega, by go_num, by rw [HS2.out], by rw [HS2.out]; rfl, by rw [HS2.out]; exact ⟨(P3.out.ext' ((Ext.refl _).drewN _)).put3 _ _ _, HGX.out⟩⟩
                      · rw [HZ.out.1, HZ.out.2, decide_eq_false hzz, ← HZ.out.1, ← HZ.out.2] at hoz
                        have HS2 : Hid (rowTo ld O S f k st (t + 1) = (l, some (am, bm))) := by
                          show _ = _
                          rw [HSTEP2.out, if_neg]
                          unfold takes
                          simp only
                          rw [HXX.out, decide_eq_false (p := x < l) (by omega), decide_eq_false hzz]
                          simp
                        clear hxe hzz hmn
                        go_wp2_with (first
                          | (go_at_call 47; refine LE.out.mono ?_; clear LE; rintro e w3 ⟨⟨rfl, -⟩, e3⟩
                             have P3 := Lib.hid (hT.out.1.ext' e3)
                             have LQ : Hid (∀ (v m : Nat), Calls Try.prog 36 #[lv, .slice (some ⟨b1, o1, none⟩) O.length oc, ci v] (w3.drewN m) fun e w' => e = .returned (cf (ldS (v : Int) 0 ld O)) ∧ w3.drewN m = w') := fun v m => (LV.out v (w3.drewN m) (P3.out.ext.drewN m)).mono fun e w' h => ⟨h.1.1, h.2⟩
                             clear e3)
                          | fail)
                        have k2 : w3.cell? ⟨bb, 2, none⟩ = some (ci bm) := P3.out.b.cell 2
                        go_quiet (first | (go_at_call 36; exact quiet_same (LQ.out _) _) | fail)
                        go_wp2_with fail
                        go_roundw
                        case measure => simp only [intOf]; omega
                        case rel => exact ⟨t + 1, by omega, by go_num, by rw [HS2.out], by rw [HS2.out]; rfl, by rw [HS2.out]; exact ⟨P3.out.ext' ((Ext.refl _).drewN _), HGL.out⟩⟩
                    · rw [decide_eq_false hxe] at hoe
                      by_cases hlx : x < l
                      · rw [decide_eq_true hlx] at hog
                        have HS2 : Hid (rowTo ld O S f k st (t + 1) = (x, some (k, t))) := by
                          show _ = _
                          rw [HSTEP2.out, if_pos]
                          unfold takes
                          simp only
                          rw [HXX.out]
                          simp
                          exact Or.inl hlx
                        clear hlx hxe hmn
                        go_wp2_with (first
                          | (go_at_call 47; refine LE.out.mono ?_; clear LE; rintro e w3 ⟨⟨rfl, -⟩, e3⟩
                             have P3 := Lib.hid (hT.out.1.ext' e3)
                             have LQ : Hid (∀ (v m : Nat), Calls Try.prog 36 #[lv, .slice (some ⟨b1, o1, none⟩) O.length oc, ci v] (w3.drewN m) fun e w' => e = .returned (cf (ldS (v : Int) 0 ld O)) ∧ w3.drewN m = w') := fun v m => (LV.out v (w3.drewN m) (P3.out.ext.drewN m)).mono fun e w' h => ⟨h.1.1, h.2⟩
                             clear e3)
                          | fail)
                        have k0 : w3.cell? ⟨bb, 0, none⟩ = some (ci am) := P3.out.b.cell 0
                        have k1 : w3.cell? ⟨bb, 1, none⟩ = some (ci f) := P3.out.b.cell 1
                        have k2 : w3.cell? ⟨bb, 2, none⟩ = some (ci bm) := P3.out.b.cell 2
                        have k3 := P3.out.b.free 0
                        have k4 := P3.out.b.free 1
                        have k5 := P3.out.b.free 2
                        go_quiet (first | (go_at_call 36; exact quiet_same (LQ.out _) _) | fail)
                        go_wp2_with fail
                        go_roundw
                        case measure => simp only [intOf]; omega
                        case rel => exact ⟨t + 1, by omega, by go_num, by rw [HS2.out], by rw [HS2.out]; rfl, by rw [HS2.out]; exact ⟨(P3.out.ext' ((Ext.refl _).drewN _)).put3 _ _ _, HGX.out⟩⟩
                      · rw [decide_eq_false hlx] at hog
                        have HS2 : Hid (rowTo ld O S f k st (t + 1) = (l, some (am, bm))) := by
                          show _ = _
                          rw [HSTEP2.out, if_neg]
                          unfold takes
                          simp only
                          rw [HXX.out, decide_eq_false (p := x < l) hlx, decide_eq_false (p := x = l) hxe]
                          simp
                        clear hlx hxe hmn
                        go_wp2_with (first
                          | (go_at_call 47; refine LE.out.mono ?_; clear LE; rintro e w3 ⟨⟨rfl, -⟩, e3⟩
                             have P3 := Lib.hid (hT.out.1.ext' e3)
                             have LQ : Hid (∀ (v m : Nat), Calls Try.prog 36 #[lv, .slice (some ⟨b1, o1, none⟩) O.length oc, ci v] (w3.drewN m) fun e w' => e = .returned (cf (ldS (v : Int) 0 ld O)) ∧ w3.drewN m = w') := fun v m => (LV.out v (w3.drewN m) (P3.out.ext.drewN m)).mono fun e w' h => ⟨h.1.1, h.2⟩
                             clear e3)
                          | fail)
                        go_quiet (first | (go_at_call 36; exact quiet_same (LQ.out _) _) | fail)
                        go_wp2_with fail
                        go_roundw
                        case measure => simp only [intOf]; omega
                        case rel => exact ⟨t + 1, by omega, by go_num, by rw [HS2.out], by rw [HS2.out]; rfl, by rw [HS2.out]; exact ⟨P3.out.ext' ((Ext.refl _).drewN _), HGL.out⟩⟩
              · obtain rfl : t = n := by omega
                go_wp2_with fail
                go_roundw
                case measure => simp only [intOf]; omega
                case rel => exact ⟨k + 1, by omega, by go_num, by rw [HR2.out], by rw [HR2.out], by rw [HR2.out]; exact hT.out⟩
          · have t1 : (O[k] != (f : Int)) = true := by simp [he]
            have HR2 : Hid (seekTo ld O S f n (k + 1) = st) := by show _ = _; rw [HROW.out, if_neg he]
            generalize O[k] = y at *
            clear hO he HROW
            go_wp2_with fail
            go_roundw
            case measure => simp only [intOf]; omega
            case rel => exact ⟨k + 1, by omega, by go_num, by rw [HR2.out], by rw [HR2.out], by rw [HR2.out]; exact hT.out⟩
        · obtain rfl : k = O.length := by omega
          have HRR := HR.out
          generalize (seekTo ld O S f n O.length).1 = l at *
          rw [HRR] at hT ⊢
          obtain ⟨a, b, c, habc, -⟩ := bvv_three f R
          rw [habc] at hT
          have x0 : wr.cell? ⟨bb, 0, none⟩ = some (ci a) := hT.out.1.b.cell 0
          have x1 : wr.cell? ⟨bb, 1, none⟩ = some (ci b) := hT.out.1.b.cell 1
          have x2 : wr.cell? ⟨bb, 2, none⟩ = some (ci c) := hT.out.1.b.cell 2
          have y0 : wr.cell? ⟨rb, 0, none⟩ = some (ci 0) := hT.out.1.r.cell 0
          have y1 : wr.cell? ⟨rb, 1, none⟩ = some (ci 0) := hT.out.1.r.cell 1
          have y2 : wr.cell? ⟨rb, 2, none⟩ = some (ci 0) := hT.out.1.r.cell 2
          have z0 := hT.out.1.r.free 0
          have z1 := hT.out.1.r.free 1
          have z2 := hT.out.1.r.free 2
          have HT := Lib.hid hT.out.1
          clear hT hk hlt HRR
          have HABC := Lib.hid habc
          clear habc
          go_wp2_with fail
          have B3 : Blk (((wr.setCell ⟨rb, 0, none⟩ (ci a)).setCell ⟨rb, 1, none⟩ (ci b)).setCell ⟨rb, 2, none⟩ (ci c)) rb #[ci a, ci b, ci c] 29 := ((HT.out.r.set 0 (ci a)).set 1 (ci b)).set 2 (ci c)
          have F3 : Ext w (((wr.setCell ⟨rb, 0, none⟩ (ci a)).setCell ⟨rb, 1, none⟩ (ci b)).setCell ⟨rb, 2, none⟩ (ci c)) := ((HT.out.ext.set (p := ⟨rb, 0, none⟩) HT.out.lo.1 (ci a)).set (p := ⟨rb, 1, none⟩) HT.out.lo.1 (ci b)).set (p := ⟨rb, 2, none⟩) HT.out.lo.1 (ci c)
          have hE : (((wr.setCell ⟨rb, 0, none⟩ (.int .i64 a)).setCell ⟨rb, 1, none⟩ (.int .i64 b)).setCell ⟨rb, 2, none⟩ (.int .i64 c)) = (((wr.setCell ⟨rb, 0, none⟩ (ci a)).setCell ⟨rb, 1, none⟩ (ci b)).setCell ⟨rb, 2, none⟩ (ci c)) := rfl
          rw [hE]
          generalize (((wr.setCell ⟨rb, 0, none⟩ (ci a)).setCell ⟨rb, 1, none⟩ (ci b)).setCell ⟨rb, 2, none⟩ (ci c)) = w3 at *
          have e0 : w3.cell? ⟨rb, 0, none⟩ = some (ci a) := B3.cell 0
          have e1 : w3.cell? ⟨rb, 1, none⟩ = some (ci b) := B3.cell 1
          have e2 : w3.cell? ⟨rb, 2, none⟩ = some (ci c) := B3.cell 2
          refine bodyPost_ret (v := .tuple #[.agg #[ci a, ci b, ci c], .bool R.isSome]) (by simp [results, Try.results41, go_sem, e0, e1, e2]) rfl ⟨?_, F3⟩
          rw [HABC.out]
end Go.Proofs.Ytkpjnikmcojdlaa
