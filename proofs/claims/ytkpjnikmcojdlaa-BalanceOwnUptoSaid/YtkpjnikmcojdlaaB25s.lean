/- BalanceEnds: the walk of the law. -/
import Derived.Test.YtkpjnikmcojdlaaB25r
import Derived.Test.YtkpjnikmcojdlaaP25c
namespace Go.Proofs.Ytkpjnikmcojdlaa
open Go.RowKit
set_option linter.unusedVariables false

theorem sums_some {B : Nat} {P : List Nat} {e : Ending} {w' : World} (h : ResF B (some P) e w') : ∃ v, e = .returned (.tuple #[v, ci 0]) ∧ Own w' B 48 cf v P := by
  rcases h with ⟨h, _⟩ | ⟨P', v, h1, h2, h3⟩
  · cases h
  · cases h1; exact ⟨v, h2, h3⟩
theorem apply_some {B : Nat} {P : List Int} {e : Ending} {w' : World} (h : Res B (some P) e w') : ∃ v, e = .returned (.tuple #[v, ci 0]) ∧ Own w' B 3 ci v P := by
  rcases h with ⟨h, _⟩ | ⟨P', v, h1, h2, h3⟩
  · cases h
  · cases h1; exact ⟨v, h2, h3⟩
theorem rd_at {α : Type} {w : World} {f : α → Value} {a : Option Addr} {n c : Nat} {l : List α} (h : Rd w f (.slice a n c) l) {i : Nat} (hi : i < l.length) : ∃ b o, a = some ⟨b, o, none⟩ ∧ w.cell? ⟨b, o + i, none⟩ = some (f l[i]) := by
  obtain ⟨ad, c', hv, hat⟩ := h.at
  injection hv with h1 _ _
  subst h1
  exact hat i hi
set_option maxHeartbeats 4000000 in
set_option maxRecDepth 100000 in
theorem ends_walk (lv ov : Value) (l : List (BitVec 64)) (ow : List Int) (s k : Int) (W : World) (hl : Rd W cw lv l) (ho : Rd W ci ov ow) (hlm : l.length * 8 ≤ 140737488351232) (hom : ow.length * 8 ≤ 140737488351232) (hs : -9223372036854775808 ≤ s ∧ s ≤ 9223372036854775807) (hk : -9223372036854775808 ≤ k ∧ k ≤ 9223372036854775807) :
    Calls Try.prog 8 #[.agg #[lv, ov, ci s], ci k] W fun e w' => e = .returned (.bool true) ∧ Ext W w' := by
  obtain ⟨ad, c, rfl, -⟩ := hl.at
  obtain ⟨ad2, c2, rfl, -⟩ := ho.at
  have HL := Lib.hid hl
  have HO := Lib.hid ho
  have HLM := Lib.hid hlm
  have HOM := Lib.hid hom
  have hbx := Blk.new W #[.slice ad l.length c, .slice ad2 ow.length c2, ci s] 35
  have X0 := Lib.hid (Ext.of_alloc (w := W) (.cells #[.slice ad l.length c, .slice ad2 ow.length c2, ci s] 35))
  obtain ⟨w0, hw0⟩ : ∃ x, W.alloc (.cells #[.slice ad l.length c, .slice ad2 ow.length c2, ci s] 35) = x := ⟨_, rfl⟩
  rw [hw0] at X0 hbx
  obtain ⟨bx, hb⟩ : ∃ x, W.heap.size = x := ⟨_, rfl⟩
  rw [hb] at hbx
  have HW0 := Lib.hid hw0
  have HBX := Lib.hid hb
  have BX : Hid (∀ w', Ext w0 w' → w'.cell? ⟨bx, 0, none⟩ = some (.slice ad l.length c) ∧ w'.cell? ⟨bx, 1, none⟩ = some (.slice ad2 ow.length c2) ∧ w'.cell? ⟨bx, 2, none⟩ = some (ci s)) := fun w' e => ⟨(hbx.ext e).cell 0, (hbx.ext e).cell 1, (hbx.ext e).cell 2⟩
  have HA := Lib.hid (awake_calls w0)
  have HFL := Lib.hid (fun w (h : Rd w cw (.slice ad l.length c) l) => floats_calls (.slice ad l.length c) l w h hlm)
  obtain ⟨ld, hld⟩ : ∃ x, bitsOf l = x := ⟨_, rfl⟩
  have hlt : ∀ x ∈ ld, x < 18446744073709551616 := by rw [← hld]; exact bits_lt l
  have hll : ld.length = l.length := by rw [← hld, bitsOf_len]
  rw [hld] at HFL
  have HLT := Lib.hid hlt
  have HLL := Lib.hid hll
  have PL := Lib.hid (fun (q : Int) (O : List Int) (w : World) (fv qv : Value) (h1 : Rd w cf fv ld) (h2 : Rd w ci qv O) (h3 : O.length = ow.length) (h4 : -9223372036854775808 ≤ q ∧ q ≤ 9223372036854775807) (h5 : rightB ld O s = true → (planF ld s.toNat q.toNat O).length ≤ 400) => plan_calls fv qv ld O s q w h1 h2 hlt (by rw [hll]; omega) (by rw [h3]; omega) h4 h5)
  clear hl ho hlm hom hbx hw0 hb hld hlt hll
  cases hr : rightB ld ow s with
  | false =>
    have HPN : Hid (planR ld ow s 400 = none) := by show _ = _; unfold planR; rw [hr]; rfl
    have P0 := Lib.hid (fun w fv qv (h1 : Rd w cf fv ld) (h2 : Rd w ci qv ow) => PL.out 400 ow w fv qv h1 h2 rfl (by omega) (fun h => by rw [hr] at h; cases h))
    rw [HPN.out] at P0
    clear hr PL
    go_enter Try.func8, Try.ntmps8
    go_upto_region 1 with fail
    rw [HW0.out, HBX.out]
    go_wp2_with (first
      | (go_at_call 25; refine HA.out.mono ?_; clear HA; rintro e w1 ⟨rfl, e1⟩
         have E1 := Lib.hid e1
         obtain ⟨x0, x1, x2⟩ := BX.out w1 e1
         have F1 := Lib.hid (HFL.out w1 ((X0.out.trans e1).rd HL.out))
         clear e1)
      | (go_at_call 18; refine F1.out.mono ?_; clear F1; rintro e w2 ⟨g0, c0, rfl, hc1, hc2, hlo, hoo, hh, he⟩
         have E2 := Lib.hid (E1.out.trans he)
         have P2 := Lib.hid (P0.out w2 _ _ (hh.rd (n := l.length) (c := c0) HLL.out.symm) ((X0.out.trans E2.out).rd HO.out))
         have K0 := BX.out w2 E2.out
         obtain ⟨y0, y1, y2⟩ := K0
         clear hc1 hc2 hlo hoo hh he E1 x0 x1 x2)
      | (go_at_call 24; refine P2.out.mono ?_; rintro e w4 ⟨hres, e4⟩
         have he := plan_none hres
         subst he
         have E4 := Lib.hid (E2.out.trans e4)
         clear hres e4)
      | fail)
    go_ret
    exact ⟨rfl, X0.out.trans E4.out⟩
  | true =>
    have rt := right_rt HLT.out hr
    obtain ⟨m, rfl⟩ : ∃ m : Nat, s = (m : Int) := ⟨s.toNat, by have := rt.lo; omega⟩
    have HR := Lib.hid hr
    obtain ⟨P, hP⟩ : ∃ P, planF ld m 400 ow = P := ⟨_, rfl⟩
    have hPl : P.length ≤ 400 := by rw [← hP]; exact planF_len _ _ _ _
    have HP1 : Hid (planR ld ow (m : Int) 400 = some P) := by show _ = _; unfold planR; rw [hr, if_pos rfl, Int.toNat_natCast, ← hP]; rfl
    have HB1 : Hid (rightB ld ow (m : Int) = true → (planF ld (m : Int).toNat (400 : Int).toNat ow).length ≤ 400) := fun _ => by
      rw [Int.toNat_natCast, show planF ld m (400 : Int).toNat ow = P from hP]; exact hPl
    have P0 := Lib.hid (fun w fv qv (h1 : Rd w cf fv ld) (h2 : Rd w ci qv ow) => PL.out 400 ow w fv qv h1 h2 rfl (by omega) HB1.out)
    rw [HP1.out] at P0
    have hPl' : (P.length : Int) ≤ 400 := by omega
    have hm64 : (m : Int) ≤ 8 := rt.hi
    have hm0 : (0 : Int) < m := rt.lo
    have HPL := Lib.hid hPl
    by_cases hend : 400 ≤ P.length
    · have t1 : decide ((400 : Int) ≤ (P.length : Int)) = true := decide_eq_true (by omega)
      clear hr rt hPl hP PL hend HB1
      go_enter Try.func8, Try.ntmps8
      go_upto_region 1 with fail
      rw [HW0.out, HBX.out]
      go_wp2_with (first
        | (go_at_call 25; refine HA.out.mono ?_; clear HA; rintro e w1 ⟨rfl, e1⟩
           have E1 := Lib.hid e1
           obtain ⟨x0, x1, x2⟩ := BX.out w1 e1
           have F1 := Lib.hid (HFL.out w1 ((X0.out.trans e1).rd HL.out))
           clear e1)
        | (go_at_call 18; refine F1.out.mono ?_; clear F1; rintro e w2 ⟨g0, c0, rfl, hc1, hc2, hlo, hoo, hh, he⟩
           have E2 := Lib.hid (E1.out.trans he)
           have P2 := Lib.hid (P0.out w2 _ _ (hh.rd (n := l.length) (c := c0) HLL.out.symm) ((X0.out.trans E2.out).rd HO.out))
           have K0 := BX.out w2 E2.out
           obtain ⟨y0, y1, y2⟩ := K0
           clear hc1 hc2 hlo hoo hh he E1 x0 x1 x2)
        | (go_at_call 24; refine P2.out.mono ?_; rintro e w4 ⟨hres, e4⟩
           obtain ⟨pv, he, hp4⟩ := plan_some hres
           subst he
           obtain ⟨pa, pc, rfl⟩ := hp4.form
           have E4 := Lib.hid (E2.out.trans e4)
           clear hres e4 hp4)
        | fail)
      go_ret
      exact ⟨rfl, X0.out.trans E4.out⟩
    · have t1 : decide ((400 : Int) ≤ (P.length : Int)) = false := decide_eq_false (by omega)
      obtain ⟨hend1, hend2⟩ := planF_ended (L := ld) (n := m) 400 ow (by rw [hP]; omega)
      obtain ⟨O2, hO2⟩ : ∃ x, afterF ld m 400 ow = x := ⟨_, rfl⟩
      have h3 : applied ow (m : Int) P = some O2 := by rw [← hP, ← hO2]; exact applied_plan hr 400
      have h4 : rightB ld O2 (m : Int) = true := by rw [← hO2]; exact after_right 400 ow hr
      have h5 : O2.length = ow.length := by rw [← hO2]; exact after_len 400 ow
      rw [hO2] at hend1
      have rt2 := right_rt HLT.out h4
      have PM : Hid (400 < k → ∀ w fv qv, Rd w cf fv ld → Rd w ci qv ow → Calls Try.prog 24 #[fv, qv, ci m, ci k] w fun e w' => ResM w.heap.size (some P) e w' ∧ Ext w w') := fun hk4 w fv qv h1 h2 => by
        have e1 : planF ld m k.toNat ow = P := by rw [hend2 k.toNat (by omega), hP]
        have h := PL.out k ow w fv qv h1 h2 rfl hk (fun _ => by rw [Int.toNat_natCast, e1]; exact hPl)
        have e2 : planR ld ow (m : Int) k = some P := by unfold planR; rw [hr, if_pos rfl, Int.toNat_natCast, e1]
        rw [e2] at h
        exact h
      have H3 := Lib.hid h3
      have H5 := Lib.hid h5
      have H4 := Lib.hid h4
      obtain ⟨S, hS⟩ : ∃ S, sumsOf ld O2 m = S := ⟨_, rfl⟩
      have HSR : Hid (sumsR ld O2 (m : Int) = some S) := by show _ = _; unfold sumsR; rw [h4, if_pos rfl, Int.toNat_natCast, hS]
      have hSl : S.length = m := by rw [← hS, sumsOf_len]
      have hSg : ∀ x ∈ S, good x := by rw [← hS]; exact sums_good rt2.nn
      obtain ⟨f, hf⟩ : ∃ f, fullOf S = f := ⟨_, rfl⟩
      have hfm : f < m := by rw [← hf, ← hSl]; exact fullOf_lt (by rw [hSl]; omega)
      have HNO : Hid (∀ i, i < O2.length → O2.getD i 0 = (f : Int) → ∀ t, t < m → t ≠ f → ¬ leftOf ld O2 f i t < S.getD f 0) := fun i hi hO t ht hne => by
        have h := nextM_none hend1 i hi
        rw [hS, hf] at h
        exact h hO t ht hne
      have RT2 := Lib.hid rt2
      have HSL := Lib.hid hSl
      have HSG := Lib.hid hSg
      have HF := Lib.hid hf
      have HFM := Lib.hid hfm
      have hfi : (f : Int) < m := by omega
      have hO64 : (O2.length : Int) ≤ 64 := by have := rt2.many; omega
      clear hr rt hPl hP PL hend HB1 hend1 hend2 hO2 h3 h4 h5 rt2 hS hSl hSg hf hfm
      go_enter Try.func8, Try.ntmps8
      go_upto_region 1 with fail
      rw [HW0.out, HBX.out]
      go_upto_if 48 with (first
        | (go_at_call 25; refine HA.out.mono ?_; clear HA; rintro e w1 ⟨rfl, e1⟩
           have E1 := Lib.hid e1
           obtain ⟨x0, x1, x2⟩ := BX.out w1 e1
           have F1 := Lib.hid (HFL.out w1 ((X0.out.trans e1).rd HL.out))
           clear e1)
        | (go_at_call 18; refine F1.out.mono ?_; clear F1; rintro e w2 ⟨g0, c0, rfl, hc1, hc2, hlo, hoo, hh, he⟩
           have E2 := Lib.hid (E1.out.trans he)
           have RF : Hid (∀ w', Ext w2 w' → Rd w' cf (.slice (some ⟨g0, 0, none⟩) l.length c0) ld) := fun w' e => e.rd (hh.rd (n := l.length) (c := c0) HLL.out.symm)
           have P2 := Lib.hid (P0.out w2 _ _ (RF.out w2 (Ext.refl _)) ((X0.out.trans E2.out).rd HO.out))
           have K0 := BX.out w2 E2.out
           obtain ⟨y0, y1, y2⟩ := K0
           clear hc1 hc2 hlo hoo hh he E1 x0 x1 x2)
        | (go_at_call 24; refine P2.out.mono ?_; clear P2; rintro e w4 ⟨hres, e4⟩
           obtain ⟨pv, he, hp4⟩ := plan_some hres
           subst he
           obtain ⟨pa, pc, rfl⟩ := hp4.form
           have E4 := Lib.hid (E2.out.trans e4)
           have F4 := Lib.hid e4
           have P4 := Lib.hid hp4.rd
           clear hres e4 hp4 y0 y1 y2)
        | fail)
      go_cut [] (fun wx => Hid (Ext w4 wx))
      case first =>
        by_cases hk4 : 400 < k
        · have d0 : decide (400 < k) = true := decide_eq_true hk4
          obtain ⟨y0, y1, y2⟩ := BX.out w4 E4.out
          have P5 := Lib.hid (PM.out hk4 w4 _ _ (RF.out w4 F4.out) ((X0.out.trans E4.out).rd HO.out))
          go_wp2_with (first
            | (go_at_call 24; refine P5.out.mono ?_; clear P5; rintro e w5 ⟨hres, e5⟩
               obtain ⟨qv, he, hp5⟩ := plan_some hres
               subst he
               have F5 := Lib.hid e5
               have T5 := Lib.hid (sameMoves_calls qv (.slice pa P.length pc) P w5 hp5.rd (P4.out.ext e5) (by have := HPL.out; omega))
               clear hres e5 hp5)
            | (go_at_call 15; refine T5.out.mono ?_; clear T5; rintro e w6 ⟨rfl, k6, h6⟩
               have F6 := Lib.hid (F5.out.trans (ext_drewN' h6))
               clear h6)
            | fail)
          go_meet
          exact F6.out
        · have d0 : decide (400 < k) = false := decide_eq_false hk4
          go_wp2_with fail
          go_meet
          exact Ext.refl _
      case rest =>
      have F5 := Lib.hid hcut.out
      have E5 := Lib.hid (E4.out.trans F5.out)
      clear hcut
      obtain ⟨y0, y1, y2⟩ := BX.out wc E5.out
      have A5 := Lib.hid (apply_calls (.slice ad2 ow.length c2) ow (m : Int) (.slice pa P.length pc) P wc ((X0.out.trans E5.out).rd HO.out) HOM.out (by omega) (P4.out.ext F5.out) (by have := HPL.out; omega))
      rw [H3.out] at A5
      go_wp2_with (first
        | (go_at_call 13; refine A5.out.mono ?_; clear A5; rintro e w6 ⟨hres, e6⟩
           obtain ⟨ov2, he, ho6⟩ := apply_some hres
           subst he
           have E6 := Lib.hid (E5.out.trans e6)
           have F6 := Lib.hid ((F4.out.trans F5.out).trans e6)
           have O6 := Lib.hid ho6.rd
           obtain ⟨z0, z1, z2⟩ := BX.out w6 E6.out
           have S6 := Lib.hid (bsums_calls _ ov2 ld O2 (m : Int) w6 (RF.out w6 F6.out) ho6.rd HLT.out (by have := HLL.out; have := HLM.out; omega) (by omega))
           rw [HSR.out] at S6
           clear hres e6 ho6 y0 y1 y2)
        | (go_at_call 19; refine S6.out.mono ?_; clear S6; rintro e w7 ⟨hres, e7⟩
           obtain ⟨sv, he, hs7⟩ := sums_some hres
           subst he
           have E7 := Lib.hid (E6.out.trans e7)
           have F7 := Lib.hid (F6.out.trans e7)
           have O7 := Lib.hid (e7.rd O6.out)
           have S7 := Lib.hid hs7.rd
           have U7 := Lib.hid (fullest_calls sv S w7 hs7.rd HSG.out (by rw [HSL.out]; omega))
           rw [HF.out] at U7
           clear hres e7 hs7 z0 z1 z2)
        | (go_at_call 26; refine U7.out.mono ?_; clear U7; rintro e w8 ⟨rfl, k8, h8⟩
           have x8 := ext_drewN' h8
           have E8 := Lib.hid (E7.out.trans x8)
           have F8 := Lib.hid (F7.out.trans x8)
           have O8 := Lib.hid (x8.rd O7.out)
           have S8 := Lib.hid (x8.rd S7.out)
           clear h8 x8)
        | fail)
      obtain ⟨qa, oc, rfl, -⟩ := O8.out.at
      obtain ⟨qs, sc, rfl, -⟩ := S8.out.at
      rw [HSL.out] at S8 ⊢
      clear P4 P0 PM
      go_loopw [15, 16, 17, 18, 19, 20] (fun iv _ _ _ _ _ wr => ∃ (i : Nat), i ≤ O2.length ∧ iv = .int .i64 i ∧ Hid (Ext w8 wr)) (fun iv _ _ _ _ _ _ => (O2.length - (intOf iv).toNat))
      case atStart => exact ⟨0, by omega, rfl, Ext.refl _⟩
      case round =>
        obtain ⟨i, hi, rfl, hT⟩ := hrel
        by_cases hlt : i < O2.length
        · have hT1 := Lib.hid hT.out
          clear hT
          go_wp2_with fail
          go_loopw [16, 17, 18, 19, 20] (fun tv _ _ _ _ wr => ∃ (t : Nat), t ≤ m ∧ tv = .int .i64 t ∧ Hid (Ext w8 wr)) (fun tv _ _ _ _ _ => (m - (intOf tv).toNat))
          case atStart => exact ⟨0, by omega, rfl, hT1.out⟩
          case round =>
            clear hT1
            obtain ⟨t, ht, rfl, hT⟩ := hrel
            obtain ⟨z0, z1, z2⟩ := BX.out wr (E8.out.trans hT.out)
            by_cases htm : t < m
            · have htm' : (t : Int) < m := by omega
              obtain ⟨ob, oo, he, hco⟩ := rd_at (hT.out.rd O8.out) hlt
              subst he
              by_cases hO : O2[i] = (f : Int)
              · have t3 : (O2[i] != (f : Int)) = false := by simp [hO]
                by_cases htf : t = f
                · have t4 : ((t : Int) == (f : Int)) = true := by simp [htf]
                  generalize O2[i] = y at *
                  clear htf hO
                  go_wp2_with fail
                  go_roundw
                  case measure => simp only [intOf]; omega
                  case rel => exact ⟨t + 1, by omega, by go_num, hT.out⟩
                · have t4 : ((t : Int) == (f : Int)) = false := by simp; omega
                  have hOg : O2.getD i 0 = (f : Int) := by rw [getD_eq 0 hlt]; exact hO
                  have hno := HNO.out i hlt hOg t htm htf
                  have HTM := Lib.hid htm
                  have HS2 : Hid (sumsR ld (O2.set i (t : Int)) (m : Int) = some (sumsOf ld (O2.set i (t : Int)) m)) := by
                    show _ = _
                    unfold sumsR
                    rw [right_step H4.out htm, if_pos rfl, Int.toNat_natCast]
                  have HS2L : Hid ((sumsOf ld (O2.set i (t : Int)) m).length = m) := sumsOf_len _ _ _
                  obtain ⟨p, hp⟩ : ∃ p, ldS (f : Int) 0 ld (O2.set i (t : Int)) = p := ⟨_, rfl⟩
                  obtain ⟨q, hq⟩ : ∃ p, ldS (t : Int) 0 ld (O2.set i (t : Int)) = p := ⟨_, rfl⟩
                  have HP : Hid ((sumsOf ld (O2.set i (t : Int)) m).getD f 0 = p) := by show _ = _; rw [sumsOf_getD HFM.out, hp]
                  have HQ : Hid ((sumsOf ld (O2.set i (t : Int)) m).getD t 0 = q) := by show _ = _; rw [sumsOf_getD htm, hq]
                  have hgp : good p := by rw [← hp]; exact ldS_good _ _ _ _ zero_good RT2.out.nn
                  have hgq : good q := by rw [← hq]; exact ldS_good _ _ _ _ zero_good RT2.out.nn
                  obtain ⟨top, htop⟩ : ∃ x, S.getD f 0 = x := ⟨_, rfl⟩
                  have hgt : good top := by rw [← htop]; exact HSG.out _ (getD_mem S f (by rw [HSL.out]; exact HFM.out))
                  have hmx : ¬ max p q < top := by rw [← hp, ← hq, ← htop]; exact hno
                  have ho1 := ord_lt hgp hgt
                  have ho2 := ord_lt hgq hgt
                  obtain ⟨bt0, ot0, he0, hct⟩ := rd_at S8.out (i := f) (by rw [HSL.out]; exact HFM.out)
                  subst he0
                  rw [← getD_eq 0 (by rw [HSL.out]; exact HFM.out), htop] at hct
                  have e9 : Ext wr (wr.alloc (.cells #[ci i, ci f, ci t] 29)) := Ext.of_alloc _
                  have A9 := Lib.hid (apply_calls (.slice (some ⟨ob, oo, none⟩) O2.length oc) O2 (m : Int) (.slice (some ⟨wr.heap.size, 0, none⟩) 1 1) [((i : Int), (f : Int), (t : Int))] (wr.alloc (.cells #[ci i, ci f, ci t] 29)) ((hT.out.trans e9).rd O8.out) (by omega) (by omega) (lent_one wr ((i : Int), (f : Int), (t : Int))) (by simp))
                  rw [applied_one H4.out hlt f hOg htm htf] at A9
                  rw [hO] at hco
                  clear hno hp hq hgp hgq htop hgt htf hOg hO t3
                  have t3 : ((f : Int) != (f : Int)) = false := by simp
                  by_cases hpt : p < top
                  · rw [decide_eq_true hpt] at ho1
                    rw [decide_eq_false (p := q < top) (by omega)] at ho2
                    clear hpt hmx
                    go_wp2_with (first
                      | (go_at_call 13; refine A9.out.mono ?_; clear A9; rintro e w10 ⟨hres, e10⟩
                         obtain ⟨nv, he, hn10⟩ := apply_some hres
                         subst he
                         have G10 := Lib.hid (e9.trans e10)
                         have E10 := Lib.hid (hT.out.trans (e9.trans e10))
                         obtain ⟨y0, y1, y2⟩ := BX.out w10 (E8.out.trans E10.out)
                         have B10 := Lib.hid (bsums_calls _ nv ld (O2.set i (t : Int)) (m : Int) w10 (RF.out w10 (F8.out.trans E10.out)) hn10.rd HLT.out (by have := HLL.out; have := HLM.out; omega) (by rw [List.length_set]; omega))
                         rw [HS2.out] at B10
                         clear hres e10 hn10)
                      | (go_at_call 19; refine B10.out.mono ?_; clear B10; rintro e w11 ⟨hres, e11⟩
                         obtain ⟨tv, he, hs11⟩ := sums_some hres
                         subst he
                         have E11 := Lib.hid (E10.out.trans e11)
                         obtain ⟨qt, tc, rfl, hat⟩ := hs11.rd.at
                         rw [HS2L.out]
                         obtain ⟨bt, ot, he1, hc1⟩ := hat f (by rw [HS2L.out]; exact HFM.out)
                         obtain ⟨bt', ot', he2, hc2⟩ := hat t (by rw [HS2L.out]; exact HTM.out)
                         subst he1
                         injection he2 with he2
                         injection he2 with e1 e2 _
                         subst e1 e2
                         rw [← getD_eq 0 (by rw [HS2L.out]; exact HFM.out), HP.out] at hc1
                         rw [← getD_eq 0 (by rw [HS2L.out]; exact HTM.out), HQ.out] at hc2
                         have hc3' := E11.out.cell hct
                         obtain ⟨u0, u1, u2⟩ := BX.out w11 (E8.out.trans E11.out)
                         clear hres e11 hs11 hat y0 y1 y2)
                      | fail)
                    go_quiet (fail)
                    go_wp2_with fail
                    go_roundw
                    case measure => simp only [intOf]; omega
                    case rel => exact ⟨t + 1, by omega, by go_num, E11.out.drewN _⟩
                  · rw [decide_eq_false hpt] at ho1
                    clear hpt hmx ho2
                    go_wp2_with (first
                      | (go_at_call 13; refine A9.out.mono ?_; clear A9; rintro e w10 ⟨hres, e10⟩
                         obtain ⟨nv, he, hn10⟩ := apply_some hres
                         subst he
                         have G10 := Lib.hid (e9.trans e10)
                         have E10 := Lib.hid (hT.out.trans (e9.trans e10))
                         obtain ⟨y0, y1, y2⟩ := BX.out w10 (E8.out.trans E10.out)
                         have B10 := Lib.hid (bsums_calls _ nv ld (O2.set i (t : Int)) (m : Int) w10 (RF.out w10 (F8.out.trans E10.out)) hn10.rd HLT.out (by have := HLL.out; have := HLM.out; omega) (by rw [List.length_set]; omega))
                         rw [HS2.out] at B10
                         clear hres e10 hn10)
                      | (go_at_call 19; refine B10.out.mono ?_; clear B10; rintro e w11 ⟨hres, e11⟩
                         obtain ⟨tv, he, hs11⟩ := sums_some hres
                         subst he
                         have E11 := Lib.hid (E10.out.trans e11)
                         obtain ⟨qt, tc, rfl, hat⟩ := hs11.rd.at
                         rw [HS2L.out]
                         obtain ⟨bt, ot, he1, hc1⟩ := hat f (by rw [HS2L.out]; exact HFM.out)
                         obtain ⟨bt', ot', he2, hc2⟩ := hat t (by rw [HS2L.out]; exact HTM.out)
                         subst he1
                         injection he2 with he2
                         injection he2 with e1 e2 _
                         subst e1 e2
                         rw [← getD_eq 0 (by rw [HS2L.out]; exact HFM.out), HP.out] at hc1
                         rw [← getD_eq 0 (by rw [HS2L.out]; exact HTM.out), HQ.out] at hc2
                         have hc3' := E11.out.cell hct
                         obtain ⟨u0, u1, u2⟩ := BX.out w11 (E8.out.trans E11.out)
                         clear hres e11 hs11 hat y0 y1 y2)
                      | fail)
                    go_quiet (fail)
                    go_wp2_with fail
                    go_roundw
                    case measure => simp only [intOf]; omega
                    case rel => exact ⟨t + 1, by omega, by go_num, E11.out.drewN _⟩
              · have t3 : (O2[i] != (f : Int)) = true := by simp [hO]
                generalize O2[i] = y at *
                clear hO
                go_wp2_with fail
                go_roundw
                case measure => simp only [intOf]; omega
                case rel => exact ⟨t + 1, by omega, by go_num, hT.out⟩
            · obtain rfl : t = m := by omega
              go_wp2_with fail
              go_roundw
              case measure => simp only [intOf]; omega
              case rel => exact ⟨i + 1, by omega, by go_num, hT.out⟩
        · obtain rfl : i = O2.length := by omega
          go_wp2_with fail
          go_ret
          exact ⟨rfl, (X0.out.trans E8.out).trans hT.out⟩
theorem ends_walk' (lv ov : Value) (l : List (BitVec 64)) (ow : List Int) (s k : Int) (W : World) (hl : Rd W cw lv l) (ho : Rd W ci ov ow) (hlm : l.length * 8 ≤ 140737488351232) (hom : ow.length * 8 ≤ 140737488351232) (hs : -9223372036854775808 ≤ s ∧ s ≤ 9223372036854775807) (hk : -9223372036854775808 ≤ k ∧ k ≤ 9223372036854775807) :
    Calls Try.prog 8 #[.agg #[lv, ov, ci s], ci k] W fun e w' => e = .returned (.bool true) ∧ Below W.heap.size W w' :=
  (ends_walk lv ov l ow s k W hl ho hlm hom hs hk).mono fun e w' h => ⟨h.1, h.2.to⟩
end Go.Proofs.Ytkpjnikmcojdlaa
