/- BalanceBetter: the walk of the law. -/
import Derived.Test.YtkpjnikmcojdlaaB25t
namespace Go.Proofs.Ytkpjnikmcojdlaa
open Go.RowKit
set_option linter.unusedVariables false

theorem afterF_succ (L : List Nat) (n : Nat) : ∀ (k : Nat) (O : List Int), afterF L n (k + 1) O = match nextM L (afterF L n k O) n with
    | none => afterF L n k O
    | some m => (afterF L n k O).set m.1 (m.2 : Int)
  | 0, O => rfl
  | k + 1, O => by
    cases hm : nextM L O n with
    | none => rw [afterF_none _ hm, afterF_none _ hm, hm]
    | some m => rw [afterF_some _ hm, afterF_some _ hm]; exact afterF_succ L n k _
theorem plan_at {L : List Nat} {n N : Nat} {O : List Int} {P : List Mv} (hP : planF L n N O = P) {i : Nat} (hi : i < P.length) : ∃ m, nextM L (afterF L n i O) n = some m ∧ P[i] = mvOf (fullOf (sumsOf L (afterF L n i O) n)) m ∧ afterF L n (i + 1) O = (afterF L n i O).set m.1 (m.2 : Int) := by
  have hd := planF_drop L n N i O (by rw [hP]; omega)
  rw [hP, List.drop_eq_getElem_cons hi] at hd
  cases hm : nextM L (afterF L n i O) n with
  | none => rw [planF_none _ hm] at hd; cases hd
  | some m =>
    obtain ⟨q, hq⟩ : ∃ q, N - i = q + 1 := by
      cases hq : N - i with
      | zero => rw [hq, planF_zero] at hd; cases hd
      | succ q => exact ⟨q, rfl⟩
    rw [hq, planF_some _ hm] at hd
    injection hd with h1 h2
    refine ⟨m, rfl, h1.symm, ?_⟩
    rw [afterF_succ, hm]
theorem after_all (L : List Nat) (n : Nat) : ∀ (N : Nat) (O : List Int), afterF L n (planF L n N O).length O = afterF L n N O
  | 0, O => rfl
  | N + 1, O => by
    cases hm : nextM L O n with
    | none => rw [planF_none _ hm, afterF_none _ hm, afterF_none _ hm]
    | some m => rw [planF_some _ hm, List.length_cons, afterF_some _ hm, afterF_some _ hm, after_all L n N]
theorem sums_none {B : Nat} {e : Ending} {w' : World} (h : ResF B none e w') : e = .returned (.tuple #[.slice none 0 0, ci 250]) := by
  rcases h with ⟨_, h⟩ | ⟨P', v, h1, _⟩
  · exact h
  · cases h1
theorem rdM_pair {w : World} {b off n c : Nat} {P : List Mv} (h : RdM w (.slice (some ⟨b, off, none⟩) n c) P) {i : Nat} (hi : i < P.length) (hn : n = P.length) (c' : Nat) : RdM w (.slice (some ⟨b, off + i * 3, none⟩) 1 c') [P[i]] := by
  have h1 := (h.drop (K := i) (c' := c') (by omega)).take (K := 1) (by omega)
  rw [List.drop_eq_getElem_cons hi] at h1
  exact h1
set_option maxHeartbeats 4000000 in
set_option maxRecDepth 100000 in
theorem better_walk (lv ov : Value) (l : List (BitVec 64)) (ow : List Int) (s n : Int) (W : World) (hl : Rd W cw lv l) (ho : Rd W ci ov ow) (hlm : l.length * 8 ≤ 140737488351232) (hom : ow.length * 8 ≤ 140737488351232) (hs : -9223372036854775808 ≤ s ∧ s ≤ 9223372036854775807) (hn : -9223372036854775808 ≤ n ∧ n ≤ 9223372036854775807) :
    Calls Try.prog 7 #[.agg #[lv, ov, ci s], ci n] W fun e w' => e = .returned (.bool true) ∧ Ext W w' := by
  obtain ⟨ad, c, rfl, -⟩ := hl.at
  obtain ⟨ad2, c2, rfl, -⟩ := ho.at
  have HL := Lib.hid hl
  have HO := Lib.hid ho
  have HLM := Lib.hid hlm
  have HOM := Lib.hid hom
  have hbx := Blk.new W #[.slice ad l.length c, .slice ad2 ow.length c2, ci s] 35
  have X0 := Lib.hid (Ext.of_alloc (w := W) (.cells #[.slice ad l.length c, .slice ad2 ow.length c2, ci s] 35))
  obtain ⟨w0, hw0⟩ : ∃ x, W.alloc (.cells #[.slice ad l.length c, .slice ad2 ow.length c2, ci s] 35) = x := ⟨_, rfl⟩
  rw [hw0] at X0 hbx
  obtain ⟨bx, hb⟩ : ∃ x, W.heap.size = x := ⟨_, rfl⟩
  rw [hb] at hbx
  have HW0 := Lib.hid hw0
  have HBX := Lib.hid hb
  have BX : Hid (∀ w', Ext w0 w' → w'.cell? ⟨bx, 0, none⟩ = some (.slice ad l.length c) ∧ w'.cell? ⟨bx, 1, none⟩ = some (.slice ad2 ow.length c2) ∧ w'.cell? ⟨bx, 2, none⟩ = some (ci s)) := fun w' e => ⟨(hbx.ext e).cell 0, (hbx.ext e).cell 1, (hbx.ext e).cell 2⟩
  have HA := Lib.hid (awake_calls w0)
  have HFL := Lib.hid (fun w (h : Rd w cw (.slice ad l.length c) l) => floats_calls (.slice ad l.length c) l w h hlm)
  obtain ⟨ld, hld⟩ : ∃ x, bitsOf l = x := ⟨_, rfl⟩
  have hlt : ∀ x ∈ ld, x < 18446744073709551616 := by rw [← hld]; exact bits_lt l
  have hll : ld.length = l.length := by rw [← hld, bitsOf_len]
  rw [hld] at HFL
  have HLT := Lib.hid hlt
  have HLL := Lib.hid hll
  obtain ⟨N, hN⟩ : ∃ x, fewOf n = x := ⟨_, rfl⟩
  have hNb := few_bd n hn
  have hN4 := few_le n
  have H22 := Lib.hid (fun w => few_calls n w)
  rw [hN] at hNb hN4 H22
  have HNB := Lib.hid hNb
  have HN4 := Lib.hid hN4
  have BS := Lib.hid (fun (O : List Int) (w : World) (fv qv : Value) (h1 : Rd w cf fv ld) (h2 : Rd w ci qv O) (h3 : O.length = ow.length) => bsums_calls fv qv ld O s w h1 h2 hlt (by rw [hll]; omega) (by rw [h3]; omega))
  have PL := Lib.hid (fun (q : Int) (O : List Int) (w : World) (fv qv : Value) (h1 : Rd w cf fv ld) (h2 : Rd w ci qv O) (h3 : O.length = ow.length) (h4 : -9223372036854775808 ≤ q ∧ q ≤ 9223372036854775807) (h5 : rightB ld O s = true → (planF ld s.toNat q.toNat O).length ≤ 400) => plan_calls fv qv ld O s q w h1 h2 hlt (by rw [hll]; omega) (by rw [h3]; omega) h4 h5)
  clear hl ho hlm hom hbx hw0 hb hld hlt hll hn hN hNb hN4
  cases hr : rightB ld ow s with
  | false =>
    have HPN : Hid (planR ld ow s N = none) := by show _ = _; unfold planR; rw [hr]; rfl
    have HSN : Hid (sumsR ld ow s = none) := by show _ = _; unfold sumsR; rw [hr]; rfl
    have P0 := Lib.hid (fun w fv qv (h1 : Rd w cf fv ld) (h2 : Rd w ci qv ow) => PL.out N ow w fv qv h1 h2 rfl HNB.out (fun h => by rw [hr] at h; cases h))
    rw [HPN.out] at P0
    have S0 := Lib.hid (fun w fv qv (h1 : Rd w cf fv ld) (h2 : Rd w ci qv ow) => BS.out ow w fv qv h1 h2 rfl)
    rw [HSN.out] at S0
    clear hr PL BS
    go_enter Try.func7, Try.ntmps7
    go_upto_region 1 with fail
    rw [HW0.out, HBX.out]
    go_upto_region 5 with (first
      | (go_at_call 25; refine HA.out.mono ?_; clear HA; rintro e w1 ⟨rfl, e1⟩
         have E1 := Lib.hid e1
         obtain ⟨x0, x1, x2⟩ := BX.out w1 e1
         have F1 := Lib.hid (HFL.out w1 ((X0.out.trans e1).rd HL.out))
         clear e1)
      | (go_at_call 18; refine F1.out.mono ?_; clear F1; rintro e w2 ⟨g0, c0, rfl, hc1, hc2, hlo, hoo, hh, he⟩
         have E2 := Lib.hid (E1.out.trans he)
         have RF : Hid (∀ w', Ext w2 w' → Rd w' cf (.slice (some ⟨g0, 0, none⟩) l.length c0) ld) := fun w' e => e.rd (hh.rd (n := l.length) (c := c0) HLL.out.symm)
         have S2 := Lib.hid (S0.out w2 _ _ (RF.out w2 (Ext.refl _)) ((X0.out.trans E2.out).rd HO.out))
         have KK := BX.out w2 E2.out
         obtain ⟨y0, y1, y2⟩ := KK
         clear hc1 hc2 hlo hoo hh he E1 x0 x1 x2)
      | (go_at_call 19; refine S2.out.mono ?_; clear S2; rintro e w3 ⟨hres, e3⟩
         have he := sums_none hres
         subst he
         have E3 := Lib.hid (E2.out.trans e3)
         have F3 := Lib.hid e3
         have K0 := BX.out w3 E3.out
         clear hres e3 y0 y1 y2)
      | fail)
    go_region_held3 (fun w' => w'.cell? ⟨bx, 0, none⟩ = some (.slice ad l.length c) ∧ w'.cell? ⟨bx, 1, none⟩ = some (.slice ad2 ow.length c2) ∧ w'.cell? ⟨bx, 2, none⟩ = some (ci s)) (first | exact K3 | exact K1 | exact K0)
      (first
        | (go_at_call 24; refine (P0.out w4 _ _ (RF.out w4 F4.out) RO4.out).mono ?_
           rintro e w5 ⟨hres, e5⟩
           have he := plan_none hres
           subst he
           have E5 := Lib.hid (E4.out.trans e5)
           have K3 := BX.out w5 E5.out
           clear hres e5)
        | (go_at_call 22; refine (H22.out w3.drew).mono ?_; rintro e w4 ⟨rfl, h4⟩
           have x4 : Ext w3 w4 := by rw [← h4]; exact (Ext.refl w3).drew
           have E4 := Lib.hid (E3.out.trans x4)
           have F4 := Lib.hid (F3.out.trans x4)
           have RO4 := Lib.hid ((X0.out.trans E4.out).rd HO.out)
           have K1 := BX.out w4 E4.out
           clear h4 x4))
    all_goals go_wp2_with fail
    all_goals go_ret
    all_goals exact ⟨rfl, X0.out.trans E5.out⟩
  | true =>
    have rt := right_rt HLT.out hr
    obtain ⟨m, rfl⟩ : ∃ m : Nat, s = (m : Int) := ⟨s.toNat, by have := rt.lo; omega⟩
    have HR := Lib.hid hr
    obtain ⟨P, hP⟩ : ∃ P, planF ld m N.toNat ow = P := ⟨_, rfl⟩
    have hPN : P.length ≤ N.toNat := by rw [← hP]; exact planF_len _ _ _ _
    have hPl : P.length ≤ 400 := Nat.le_trans hPN HN4.out
    have HP1 : Hid (planR ld ow (m : Int) N = some P) := by show _ = _; unfold planR; rw [hr, if_pos rfl, Int.toNat_natCast, ← hP]
    have HB1 : Hid (rightB ld ow (m : Int) = true → (planF ld (m : Int).toNat N.toNat ow).length ≤ 400) := fun _ => by
      rw [Int.toNat_natCast, hP]; exact hPl
    have P0 := Lib.hid (fun w fv qv (h1 : Rd w cf fv ld) (h2 : Rd w ci qv ow) => PL.out N ow w fv qv h1 h2 rfl HNB.out HB1.out)
    rw [HP1.out] at P0
    have SO : Hid (∀ i, sumsR ld (afterF ld m i ow) (m : Int) = some (sumsOf ld (afterF ld m i ow) m)) := fun i => by
      unfold sumsR; rw [after_right i ow hr, if_pos rfl, Int.toNat_natCast]
    have BS2 : Hid (∀ (i : Nat) (w : World) (fv qv : Value), Rd w cf fv ld → Rd w ci qv (afterF ld m i ow) → Calls Try.prog 19 #[fv, qv, ci m] w fun e w' => ResF w.heap.size (some (sumsOf ld (afterF ld m i ow) m)) e w' ∧ Ext w w') := fun i w fv qv h1 h2 => by
      have h := BS.out (afterF ld m i ow) w fv qv h1 h2 (after_len i ow)
      rw [SO.out i] at h
      exact h
    have SG : Hid (∀ i, ∀ x ∈ sumsOf ld (afterF ld m i ow) m, good x) := fun i => sums_good rt.nn
    have SL : Hid (∀ i, (sumsOf ld (afterF ld m i ow) m).length = m) := fun i => sumsOf_len _ _ _
    have hPl' : (P.length : Int) ≤ 400 := by omega
    have hm64 : (m : Int) ≤ 8 := rt.hi
    have hm0 : (0 : Int) < m := rt.lo
    have HPL := Lib.hid hPl
    have hO64 : (ow.length : Int) ≤ 64 := by have := rt.many; omega
    have hgr : (decide (N < (P.length : Int)) = true ∧ ¬ 0 < P.length) ∨ decide (N < (P.length : Int)) = false := by
      by_cases h : N < (P.length : Int)
      · exact Or.inl ⟨decide_eq_true h, by omega⟩
      · exact Or.inr (decide_eq_false h)
    have AT : Hid (∀ i, (hi : i < P.length) → ∃ mv, nextM ld (afterF ld m i ow) m = some mv ∧ P[i] = mvOf (fullOf (sumsOf ld (afterF ld m i ow) m)) mv ∧ afterF ld m (i + 1) ow = (afterF ld m i ow).set mv.1 (mv.2 : Int)) := fun i hi => plan_at hP hi
    have HALL : Hid (applied ow (m : Int) P = some (afterF ld m P.length ow)) := by
      show _ = _
      have := applied_plan hr N.toNat
      rw [hP] at this
      rw [this, ← after_all ld m N.toNat ow, hP]
    have AR : Hid (∀ i, rightB ld (afterF ld m i ow) (m : Int) = true) := fun i => after_right i ow hr
    have AL : Hid (∀ i, (afterF ld m i ow).length = ow.length) := fun i => after_len i ow
    obtain ⟨i3, j1, j2, j3, j4⟩ := info_parts Try.info3
    have hz : i3.zero = some (ci 0) := j2
    have BB : Hid ((([] : List Int).length + ow.length) * 8 ≤ 140737488355328) := by show _ ≤ _; simp; omega
    have MM : Hid ((([] : List Int).length + ow.length) ≤ 9223372036854775807) := by show _ ≤ _; simp; omega
    have Z0 : Hid (afterF ld m 0 ow = ow) := rfl
    clear hr rt hPl hP PL BS HB1 hPN
    go_enter Try.func7, Try.ntmps7
    go_upto_region 1 with fail
    rw [HW0.out, HBX.out]
    go_upto_region 5 with (first
      | (go_at_call 25; refine HA.out.mono ?_; clear HA; rintro e w1 ⟨rfl, e1⟩
         have E1 := Lib.hid e1
         obtain ⟨x0, x1, x2⟩ := BX.out w1 e1
         have F1 := Lib.hid (HFL.out w1 ((X0.out.trans e1).rd HL.out))
         clear e1)
      | (go_at_call 18; refine F1.out.mono ?_; clear F1; rintro e w2 ⟨g0, c0, rfl, hc1, hc2, hlo, hoo, hh, he⟩
         have E2 := Lib.hid (E1.out.trans he)
         have RF : Hid (∀ w', Ext w2 w' → Rd w' cf (.slice (some ⟨g0, 0, none⟩) l.length c0) ld) := fun w' e => e.rd (hh.rd (n := l.length) (c := c0) HLL.out.symm)
         have S2 := Lib.hid (BS2.out 0 w2 _ _ (RF.out w2 (Ext.refl _)) ((X0.out.trans E2.out).rd HO.out))
         have KK := BX.out w2 E2.out
         obtain ⟨y0, y1, y2⟩ := KK
         clear hc1 hc2 hlo hoo hh he E1 x0 x1 x2)
      | (go_at_call 19; refine S2.out.mono ?_; clear S2; rintro e w3 ⟨hres, e3⟩
         obtain ⟨sv, he, hs3⟩ := sums_some hres
         subst he
         have E3 := Lib.hid (E2.out.trans e3)
         have F3 := Lib.hid e3
         have RS3 := Lib.hid hs3.rd
         have K0 := BX.out w3 E3.out
         clear hres e3 hs3 y0 y1 y2)
      | fail)
    go_region_held3 (fun w' => w'.cell? ⟨bx, 0, none⟩ = some (.slice ad l.length c) ∧ w'.cell? ⟨bx, 1, none⟩ = some (.slice ad2 ow.length c2) ∧ w'.cell? ⟨bx, 2, none⟩ = some (ci m)) (first | exact K3 | exact K1 | exact K0)
      (first
        | (go_at_call 24; refine (P0.out w4 _ _ (RF.out w4 F4.out) RO4.out).mono ?_
           rintro e w5 ⟨hres, e5⟩
           obtain ⟨pv, he, hp5⟩ := plan_some hres
           subst he
           obtain ⟨pa, pc, rfl, hpc1, hpc2⟩ := hp5.form'
           have hpc3 : (P.length : Int) ≤ pc := by omega
           have hpc4 : (pc : Int) ≤ 9223372036854775807 := by unfold maxLen at hpc2; omega
           have E5 := Lib.hid (E4.out.trans e5)
           have F5 := Lib.hid (F4.out.trans e5)
           have P5 := Lib.hid hp5.rd
           have RS5 := Lib.hid ((x4.trans e5).rd RS3.out)
           have K3 := BX.out w5 E5.out
           clear hres e5 hp5 hpc1 hpc2)
        | (go_at_call 22; refine (H22.out w3.drew).mono ?_; rintro e w4 ⟨rfl, h4⟩
           have x4 : Ext w3 w4 := by rw [← h4]; exact (Ext.refl w3).drew
           have E4 := Lib.hid (E3.out.trans x4)
           have F4 := Lib.hid (F3.out.trans x4)
           have RO4 := Lib.hid ((X0.out.trans E4.out).rd HO.out)
           have K1 := BX.out w4 E4.out
           clear h4))
    clear K0 K1 x4 E4 F4 RO4
    obtain ⟨y0, y1, y2⟩ := K3
    have XO : Hid (Own (w5.alloc (.cells #[] 3)) w5.heap.size 3 ci (.slice (some ⟨w5.heap.size, 0, none⟩) 0 0) []) := Own.made (Nat.le_refl _)
    have X6 := Lib.hid (Ext.of_alloc (w := w5) (.cells #[] 3))
    have S6 := Lib.hid X6.out.size
    have RO6 := Lib.hid (((X0.out.trans E5.out).trans X6.out).rd HO.out)
    have y1' := X6.out.cell y1
    rcases hgr with ⟨t1, t2⟩ | t1
    · go_wp2_with (first
        | (go_at_call 22; refine (H22.out _).mono ?_; rintro e w4 ⟨rfl, rfl⟩)
        | (at_builtin; refine wpList_append_rd ci ci_one rfl (.tmp 73) (.tmp 75) 22 rfl w5.heap.size 3 i3 0 8 Try.u22 j1 hz j3 j4 rfl (.slice (some ⟨w5.heap.size, 0, none⟩) 0 0) [] rfl XO.out _ ow rfl RO6.out BB.out MM.out S6.out ?_
           intro ov7 w7 o7 g7
           rw [List.nil_append] at o7
           have x7 := X6.out.grown g7 (fun k hk => by cases hk; exact Nat.le_refl _)
           have E7 := Lib.hid (E5.out.trans x7)
           have F7 := Lib.hid (F5.out.trans x7)
           have T7 : Hid (Rd w7 ci ov7 (afterF ld m 0 ow) ∧ Rd w7 cf sv (sumsOf ld (afterF ld m 0 ow) m)) := ⟨o7.rd, x7.rd RS5.out⟩
           have P7 := Lib.hid (P5.out.ext x7)
           clear x7 o7 g7 XO X6 S6 RO6 y1')
        | fail)
      all_goals first | (exact absurd ‹0 < P.length› t2) | skip
      go_loopw [6, 10, 11, 12, 13, 14, 15, 16] (fun sv0 ov0 iv _ _ _ _ _ wr => ∃ (i : Nat) (ov1 sv1 : Value), i ≤ P.length ∧ ov1 = ov0 ∧ sv1 = sv0 ∧ iv = .int .i64 i ∧ Hid (Rd wr ci ov1 (afterF ld m i ow) ∧ Rd wr cf sv1 (sumsOf ld (afterF ld m i ow) m) ∧ Ext w7 wr)) (fun _ _ iv _ _ _ _ _ _ => (P.length - (intOf iv).toNat))
      case atStart => exact ⟨0, _, _, by omega, rfl, rfl, rfl, T7.out.1, T7.out.2, Ext.refl _⟩
      case round =>
        clear T7
        obtain ⟨i, ov1, sv1, hi, rfl, rfl, rfl, hT⟩ := hrel
        obtain ⟨z0, z1, z2⟩ := BX.out wr (E7.out.trans hT.out.2.2)
        by_cases hlt : i < P.length
        · exact absurd (show 0 < P.length by omega) t2
        · obtain rfl : P.length = i := by omega
          have A8 := Lib.hid (apply_calls (.slice ad2 ow.length c2) ow (m : Int) (.slice pa P.length pc) P wr ((X0.out.trans (E7.out.trans hT.out.2.2)).rd HO.out) HOM.out (by omega) (P7.out.ext hT.out.2.2) (by have := HPL.out; omega))
          rw [HALL.out] at A8
          have E8 := Lib.hid (E7.out.trans hT.out.2.2)
          have O8 := Lib.hid hT.out.1
          clear hT
          go_wp2_with (first
            | (go_at_call 13; refine A8.out.mono ?_; clear A8; rintro e w9 ⟨hres, e9⟩
               obtain ⟨nv, he, hn9⟩ := apply_some hres
               subst he
               have E9 := Lib.hid (E8.out.trans e9)
               have T9 := Lib.hid (same_calls nv ov1 _ _ w9 hn9.rd (e9.rd O8.out) (by rw [AL.out]; omega) (by rw [AL.out]; omega))
               rw [show decide (afterF ld m P.length ow = afterF ld m P.length ow) = true by simp] at T9
               clear hres e9 hn9)
            | (go_at_call 16; refine T9.out.mono ?_; clear T9; rintro e w10 ⟨rfl, k10, h10⟩
               have E10 := Lib.hid (E9.out.trans (ext_drewN' h10))
               clear h10)
            | fail)
          go_ret
          exact ⟨rfl, X0.out.trans E10.out⟩
    · go_wp2_with (first
        | (go_at_call 22; refine (H22.out _).mono ?_; rintro e w4 ⟨rfl, rfl⟩)
        | (at_builtin; refine wpList_append_rd ci ci_one rfl (.tmp 73) (.tmp 75) 22 rfl w5.heap.size 3 i3 0 8 Try.u22 j1 hz j3 j4 rfl (.slice (some ⟨w5.heap.size, 0, none⟩) 0 0) [] rfl XO.out _ ow rfl RO6.out BB.out MM.out S6.out ?_
           intro ov7 w7 o7 g7
           rw [List.nil_append] at o7
           have x7 := X6.out.grown g7 (fun k hk => by cases hk; exact Nat.le_refl _)
           have E7 := Lib.hid (E5.out.trans x7)
           have F7 := Lib.hid (F5.out.trans x7)
           have T7 : Hid (Rd w7 ci ov7 (afterF ld m 0 ow) ∧ Rd w7 cf sv (sumsOf ld (afterF ld m 0 ow) m)) := ⟨o7.rd, x7.rd RS5.out⟩
           have P7 := Lib.hid (P5.out.ext x7)
           clear x7 o7 g7 XO X6 S6 RO6 y1')
        | fail)
      go_loopw [6, 10, 11, 12, 13, 14, 15, 16] (fun sv0 ov0 iv _ _ _ _ _ wr => ∃ (i : Nat) (ov1 sv1 : Value), i ≤ P.length ∧ ov1 = ov0 ∧ sv1 = sv0 ∧ iv = .int .i64 i ∧ Hid (Rd wr ci ov1 (afterF ld m i ow) ∧ Rd wr cf sv1 (sumsOf ld (afterF ld m i ow) m) ∧ Ext w7 wr)) (fun _ _ iv _ _ _ _ _ _ => (P.length - (intOf iv).toNat))
      case atStart => exact ⟨0, _, _, by omega, rfl, rfl, rfl, T7.out.1, T7.out.2, Ext.refl _⟩
      case round =>
        clear T7
        obtain ⟨i, ov1, sv1, hi, rfl, rfl, rfl, hT⟩ := hrel
        obtain ⟨z0, z1, z2⟩ := BX.out wr (E7.out.trans hT.out.2.2)
        by_cases hlt : i < P.length
        · obtain ⟨mv, a1, a2, a3⟩ := AT.out i hlt
          obtain ⟨b1, b2, b3⟩ := move_better a1
          rw [← a3] at b1 b2 b3
          obtain ⟨m1, m2, m3, m4, -⟩ := nextM_ok a1
          obtain ⟨x, t⟩ := mv
          simp only at a3 m1 m2 m3 m4 b1 b2 b3
          have hlens := AL.out i
          have hsl := SL.out i
          have hsg := SG.out i
          have hsl' := SL.out (i + 1)
          have hsg' := SG.out (i + 1)
          obtain ⟨S, hS⟩ : ∃ S, sumsOf ld (afterF ld m i ow) m = S := ⟨_, rfl⟩
          obtain ⟨S', hS'⟩ : ∃ S, sumsOf ld (afterF ld m (i + 1) ow) m = S := ⟨_, rfl⟩
          rw [hS] at a2 b1 b2 b3 m2 m4 hsl hsg
          rw [hS'] at b1 b2 b3 hsl' hsg'
          obtain ⟨f, hf⟩ : ∃ f, fullOf S = f := ⟨_, rfl⟩
          rw [hf] at a2 b1 b2 m2 m4
          have hfm : f < m := by rw [← hf, ← hsl]; exact fullOf_lt (by omega)
          obtain ⟨p, hp⟩ : ∃ p, S'.getD f 0 = p := ⟨_, rfl⟩
          obtain ⟨q, hq⟩ : ∃ p, S'.getD t 0 = p := ⟨_, rfl⟩
          obtain ⟨top, htop⟩ : ∃ p, S.getD f 0 = p := ⟨_, rfl⟩
          rw [hp, htop] at b1
          rw [hq, htop] at b2
          have hgp : good p := by rw [← hp]; exact hsg' _ (getD_mem S' f (by omega))
          have hgq : good q := by rw [← hq]; exact hsg' _ (getD_mem S' t (by omega))
          have hgt : good top := by rw [← htop]; exact hsg _ (getD_mem S f (by omega))
          have ho1 := ord_ge hgp hgt
          have ho2 := ord_ge hgq hgt
          rw [decide_eq_false (p := top ≤ p) (by omega)] at ho1
          rw [decide_eq_false (p := top ≤ q) (by omega)] at ho2
          have AP := Lib.hid (applied_one (AR.out i) m1 f m2 m3 m4)
          rw [← a3] at AP
          have FS : Hid (∀ z ∈ fallTo [] S, good z) := fun z hz => by
            have h := (fallTo_facts inf64 S [] List.Pairwise.nil (fun z h => by cases h) (fun z h => hsg z h)).2.1 z hz
            exact h
          have FS' : Hid (∀ z ∈ fallTo [] S', good z) := fun z hz => by
            have h := (fallTo_facts inf64 S' [] List.Pairwise.nil (fun z h => by cases h) (fun z h => hsg' z h)).2.1 z hz
            exact h
          have FL : Hid ((fallTo [] S).length ≤ 8) := by
            show _ ≤ _
            rw [(fallTo_facts inf64 S [] List.Pairwise.nil (fun z h => by cases h) (fun z h => hsg z h)).2.2.2, hsl, List.length_nil]; omega
          have FL' : Hid ((fallTo [] S').length ≤ 8) := by
            show _ ≤ _
            rw [(fallTo_facts inf64 S' [] List.Pairwise.nil (fun z h => by cases h) (fun z h => hsg' z h)).2.2.2, hsl', List.length_nil]; omega
          have B3 := Lib.hid b3
          have HF := Lib.hid hf
          have HSL := Lib.hid hsl
          have HSL' := Lib.hid hsl'
          have HSG := Lib.hid hsg
          have HSG' := Lib.hid hsg'
          have HTM := Lib.hid m3
          have HFM := Lib.hid hfm
          have HP := Lib.hid hp
          have HQ := Lib.hid hq
          have HTOP := Lib.hid htop
          have HS := Lib.hid hS
          have HS' := Lib.hid hS'
          have HLEN := Lib.hid hlens
          -- the move's cells
          obtain ⟨pa0, pc0, hv, hcells⟩ := (P7.out.ext hT.out.2.2).at
          injection hv with hv1 hv2 hv3
          subst hv1 hv3
          obtain ⟨pb, po, rfl, p0, p1, p2⟩ := hcells i hlt
          rw [a2] at p0 p1 p2
          have PP := Lib.hid (rdM_pair P7.out hlt rfl (pc - i))
          rw [a2] at PP
          simp only [mvOf] at p0 p1 p2 PP
          -- the old loads
          have rs := hT.out.2.1
          rw [hS] at rs
          obtain ⟨sa, sc, rfl, hsat⟩ := rs.at
          rw [hsl] at rs ⊢
          obtain ⟨sb, so, rfl, q0⟩ := hsat f (by omega)
          rw [← getD_eq 0 (by omega), htop] at q0
          have RS := Lib.hid rs
          have hil : (i : Int) < P.length := by omega
          have hipc : ¬ (pc : Int) = (i : Int) := by omega
          have hipc0 : ¬ pc = i := by omega
          have hipc2 : (i : Int) + 1 ≤ pc := by omega
          have hii : (i : Int) ≤ (i : Int) + 1 := by omega
          have hw1 : IntKind.i64.wrap ((i : Int) + 1) = (i : Int) + 1 := by
            simp only [IntKind.wrap, IntKind.bits, IntKind.signed]
            simp
            omega
          have HLT := Lib.hid hlt
          have E8 := Lib.hid (E7.out.trans hT.out.2.2)
          have F8 := Lib.hid (F7.out.trans hT.out.2.2)
          have O8 := Lib.hid hT.out.1
          have G8 := Lib.hid hT.out.2.2
          clear hT a1 a2 a3 b1 b2 b3 m1 m2 m3 m4 hlens hsl hsg hsl' hsg' hS hS' hf hfm hp hq htop hgp hgq hgt hcells hv2 hsat rs
          go_upto_region 14 with fail
          go_region_held3 (fun w' => w'.cell? ⟨bx, 2, none⟩ = some (ci m)) (first | exact K9 | exact z2)
            (first | (go_at_call 13; refine (apply_calls ov1 (afterF ld m i ow) (m : Int) (.slice (some ⟨pb, po + i * 3, none⟩) 1 (pc - i)) [((x : Int), (f : Int), (t : Int))] wr.drew ((Ext.refl wr).drew.rd O8.out) (by rw [HLEN.out]; omega) (by omega) (PP.out.ext G8.out.drew) (by simp)).mono ?_
                      rintro e w9 ⟨hres, e9⟩
                      rw [AP.out] at hres
                      obtain ⟨nv, he, hn9⟩ := apply_some hres
                      subst he
                      have x9 := (Ext.refl wr).drew.trans e9
                      have E9 := Lib.hid (E8.out.trans x9)
                      have F9 := Lib.hid (F8.out.trans x9)
                      have G9 := Lib.hid x9
                      have O9 := Lib.hid hn9.rd
                      have K9 := (BX.out w9 E9.out).2.2
                      clear hres e9 hn9 x9))
          have K9' := BX.out w9 E9.out
          obtain ⟨v0, v1, v2⟩ := K9'
          have B9 := Lib.hid (BS2.out (i + 1) w9 _ nv (RF.out w9 F9.out) O9.out)
          rw [HS'.out] at B9
          go_upto_region 19 with (first
            | (go_at_call 19; refine B9.out.mono ?_; clear B9; rintro e w10 ⟨hres, e10⟩
               obtain ⟨tv, he, hs10⟩ := sums_some hres
               subst he
               have x10 := G9.out.trans e10
               have E10 := Lib.hid (E9.out.trans e10)
               have F10 := Lib.hid (F9.out.trans e10)
               have O10 := Lib.hid (e10.rd O9.out)
               have RN10 := Lib.hid hs10.rd
               have G10 := Lib.hid x10
               have U10 := Lib.hid (fullest_calls _ S w10 (x10.rd RS.out) HSG.out (by rw [HSL.out]; omega))
               rw [HF.out] at U10
               clear hres e10 hs10 x10)
            | (go_at_call 26; refine U10.out.mono ?_; clear U10; rintro e w11 ⟨rfl, k11, h11⟩
               have x11 := ext_drewN' h11
               have E11 := Lib.hid (E10.out.trans x11)
               have F11 := Lib.hid (F10.out.trans x11)
               have O11 := Lib.hid (x11.rd O10.out)
               have N11 := Lib.hid (x11.rd RN10.out)
               have G11 := Lib.hid (G10.out.trans x11)
               clear h11 x11)
            | fail)
          obtain ⟨na, nc, rfl, hnat⟩ := N11.out.at
          rw [HSL'.out] at N11 ⊢
          obtain ⟨nb, no, rfl, n0⟩ := hnat f (by rw [HSL'.out]; exact HFM.out)
          obtain ⟨nb', no', hnv, n1⟩ := hnat t (by rw [HSL'.out]; exact HTM.out)
          injection hnv with hnv
          injection hnv with e1 e2 _
          subst e1 e2
          rw [← getD_eq 0 (by rw [HSL'.out]; exact HFM.out), HP.out] at n0
          rw [← getD_eq 0 (by rw [HSL'.out]; exact HTM.out), HQ.out] at n1
          have htm64 : (t : Int) < m := by have := HTM.out; omega
          have hfm64 : (f : Int) < m := by have := HFM.out; omega
          have KS : Hid (∀ w', Ext w11 w' → w'.cell? ⟨bx, 2, none⟩ = some (ci m) ∧ w'.cell? ⟨pb, po + i * 3 + 1, none⟩ = some (ci f) ∧ w'.cell? ⟨pb, po + i * 3 + 2, none⟩ = some (ci t) ∧ w'.cell? ⟨nb, no + f, none⟩ = some (cf p) ∧ w'.cell? ⟨nb, no + t, none⟩ = some (cf q) ∧ w'.cell? ⟨sb, so + f, none⟩ = some (cf top)) := fun w' e =>
            ⟨(BX.out w' (E11.out.trans e)).2.2, e.cell (G11.out.cell p1), e.cell (G11.out.cell p2), e.cell n0, e.cell n1, e.cell (G11.out.cell q0)⟩
          have KA := KS.out w11 (Ext.refl _)
          have RO11 := Lib.hid (G11.out.rd RS.out)
          have RN11 := Lib.hid N11.out
          clear hnat n0 n1 p0 p1 p2 q0 v0 v1 v2 K9 z0 z1 z2
          clear HL HO HLM HOM X0 HBX HFL HLT HLL H22 HNB HN4 HW0 HR HP1 P0 SO BS2 SG SL AT HALL AR AL hz j1 j2 j3 j4 BB MM Z0 E2 RF E3 F3 RS3 E5 F5 P5 RS5 PP AP HS HLEN HF HP HQ HTOP E8 F8 O8 E9 F9 G9 O9 E10 F10 O10 G10 RS
          go_region_held3 (fun w' => w'.cell? ⟨bx, 2, none⟩ = some (ci m) ∧ w'.cell? ⟨pb, po + i * 3 + 1, none⟩ = some (ci f) ∧ w'.cell? ⟨pb, po + i * 3 + 2, none⟩ = some (ci t) ∧ w'.cell? ⟨nb, no + f, none⟩ = some (cf p) ∧ w'.cell? ⟨nb, no + t, none⟩ = some (cf q) ∧ w'.cell? ⟨sb, so + f, none⟩ = some (cf top)) (first | exact KD | exact KC | exact KB | exact KA)
            (first
              | (go_at_call 27; refine (ahead_calls fv gv (fallTo [] S') (fallTo [] S) w13 RFV13.out RGV13.out FS'.out FS.out FL'.out FL.out).mono ?_
                 rw [B3.out]
                 rintro e w14 ⟨rfl, k14, h14⟩
                 have H14 := Lib.hid (H13.out.trans (ext_drewN' h14))
                 have KD := KS.out w14 H14.out
                 clear h14)
              | (go_at_call 28; refine (falling_calls _ S w12 (H12.out.rd RO11.out) HSG.out (by rw [HSL.out]; omega)).mono ?_
                 rintro e w13 ⟨gv, rfl, hgv, e13⟩
                 have H13 := Lib.hid (H12.out.trans e13)
                 have RGV13 := Lib.hid hgv.rd
                 have RFV13 := Lib.hid (e13.rd RFV12.out)
                 have KC := KS.out w13 H13.out
                 clear hgv e13)
              | (go_at_call 28; refine (falling_calls _ S' w11.drew (((Ext.refl w11).drew).rd RN11.out) HSG'.out (by rw [HSL'.out]; omega)).mono ?_
                 rintro e w12 ⟨fv, rfl, hfv, e12⟩
                 have H12 := Lib.hid ((Ext.refl w11).drew.trans e12)
                 have RFV12 := Lib.hid hfv.rd
                 have KB := KS.out w12 H12.out
                 clear hfv e12))
          have RD14 := Lib.hid (And.intro (H14.out.rd O11.out) (And.intro (H14.out.rd N11.out) ((G8.out.trans G11.out).trans H14.out)))
          rw [← HS'.out] at RD14
          clear KB KC KD KA RFV12 RFV13 RGV13 H12 H13 O11 N11 RN11 RO11 KS
          go_wp2_with fail
          go_roundw
          case measure => simp only [intOf]; omega
          case rel => exact ⟨i + 1, _, _, by omega, rfl, rfl, by go_num, RD14.out⟩
        · obtain rfl : P.length = i := by omega
          have A8 := Lib.hid (apply_calls (.slice ad2 ow.length c2) ow (m : Int) (.slice pa P.length pc) P wr ((X0.out.trans (E7.out.trans hT.out.2.2)).rd HO.out) HOM.out (by omega) (P7.out.ext hT.out.2.2) (by have := HPL.out; omega))
          rw [HALL.out] at A8
          have E8 := Lib.hid (E7.out.trans hT.out.2.2)
          have O8 := Lib.hid hT.out.1
          clear hT
          go_wp2_with (first
            | (go_at_call 13; refine A8.out.mono ?_; clear A8; rintro e w9 ⟨hres, e9⟩
               obtain ⟨nv, he, hn9⟩ := apply_some hres
               subst he
               have E9 := Lib.hid (E8.out.trans e9)
               have T9 := Lib.hid (same_calls nv ov1 _ _ w9 hn9.rd (e9.rd O8.out) (by rw [AL.out]; omega) (by rw [AL.out]; omega))
               rw [show decide (afterF ld m P.length ow = afterF ld m P.length ow) = true by simp] at T9
               clear hres e9 hn9)
            | (go_at_call 16; refine T9.out.mono ?_; clear T9; rintro e w10 ⟨rfl, k10, h10⟩
               have E10 := Lib.hid (E9.out.trans (ext_drewN' h10))
               clear h10)
            | fail)
          go_ret
          exact ⟨rfl, X0.out.trans E10.out⟩
theorem better_walk' (lv ov : Value) (l : List (BitVec 64)) (ow : List Int) (s n : Int) (W : World) (hl : Rd W cw lv l) (ho : Rd W ci ov ow) (hlm : l.length * 8 ≤ 140737488351232) (hom : ow.length * 8 ≤ 140737488351232) (hs : -9223372036854775808 ≤ s ∧ s ≤ 9223372036854775807) (hn : -9223372036854775808 ≤ n ∧ n ≤ 9223372036854775807) :
    Calls Try.prog 7 #[.agg #[lv, ov, ci s], ci n] W fun e w' => e = .returned (.bool true) ∧ Below W.heap.size W w' :=
  (better_walk lv ov l ow s n W hl ho hlm hom hs hn).mono fun e w' h => ⟨h.1, h.2.to⟩
end Go.Proofs.Ytkpjnikmcojdlaa
