/- BalanceBegins: the walk of the law. -/
import Derived.Test.YtkpjnikmcojdlaaB25q
import Derived.Deep.RegionHeld3
namespace Go.Proofs.Ytkpjnikmcojdlaa
open Go.RowKit
set_option linter.unusedVariables false

theorem RdM.take {w : World} {a : Option Addr} {n c K : Nat} {l : List Mv} (h : RdM w (.slice a n c) l) (hK : K ≤ n) : RdM w (.slice a K c) (l.take K) := by
  rcases h with ⟨ao, c', e, rfl, h0⟩ | ⟨b, off, c', n', e, hn, hp, hc⟩
  · injection e with e1 e2 e3
    subst e1 e2 e3
    have : K = 0 := by omega
    subst this
    exact Or.inl ⟨_, _, rfl, by simp, h0⟩
  · injection e with e1 e2 e3
    subst e1 e2 e3
    rcases Nat.eq_zero_or_pos K with h0 | h0
    · subst h0
      exact Or.inl ⟨_, _, rfl, by simp, fun h => by cases h⟩
    · refine Or.inr ⟨b, off, c, K, rfl, by rw [List.length_take]; omega, h0, fun j u hj => hc j u ?_⟩
      have e : l.flatMap f3 = (l.take K).flatMap f3 ++ (l.drop K).flatMap f3 := by rw [← List.flatMap_append, List.take_append_drop]
      rw [e, List.getElem?_append_left (by rw [List.getElem?_eq_some_iff] at hj; exact hj.1)]
      exact hj
theorem RdM.drop {w : World} {b off n c c' K : Nat} {l : List Mv} (h : RdM w (.slice (some ⟨b, off, none⟩) n c) l) (hK : K ≤ n) : RdM w (.slice (some ⟨b, off + K * 3, none⟩) (n - K) c') (l.drop K) := by
  rcases h with ⟨ao, c'', e, rfl, h0⟩ | ⟨b', off', c'', n', e, hn, hp, hc⟩
  · injection e with e1 e2 e3
    subst e2
    have : K = 0 := by omega
    subst this
    exact Or.inl ⟨_, _, rfl, by simp, fun h => by cases h⟩
  · injection e with e1 e2 e3
    injection e1 with e1
    injection e1 with e1 e4 _
    subst e1 e2 e3 e4
    rcases Nat.lt_or_ge K n with h0 | h0
    · refine Or.inr ⟨b, off + K * 3, c', n - K, rfl, by rw [List.length_drop]; omega, by omega, fun j u hj => ?_⟩
      rw [Nat.add_assoc]
      refine hc (K * 3 + j) u ?_
      have e : l.flatMap f3 = (l.take K).flatMap f3 ++ (l.drop K).flatMap f3 := by rw [← List.flatMap_append, List.take_append_drop]
      have hl : ((l.take K).flatMap f3).length = K * 3 := by rw [f3_len, List.length_take]; omega
      rw [e, List.getElem?_append_right (by omega), hl, Nat.add_sub_cancel_left]
      exact hj
    · refine Or.inl ⟨_, _, by rw [show n - K = 0 by omega], ?_, fun h => by cases h⟩
      exact List.drop_eq_nil_of_le (by omega)
theorem OwnM.form' {w : World} {B : Nat} {v : Value} {l : List Mv} (h : OwnM w B v l) : ∃ a c, v = .slice a l.length c ∧ l.length ≤ c ∧ c ≤ maxLen := by
  obtain ⟨h1, ⟨rfl, h0⟩ | ⟨g, cap, cur, rfl, _, _, hle, hmx, _⟩⟩ := h
  · exact ⟨none, 0, by rw [h0], by omega, by unfold maxLen; omega⟩
  · exact ⟨_, _, rfl, hle, hmx⟩
theorem RdM.drop_any {w : World} {a : Option Addr} {n c K : Nat} {l : List Mv} (h : RdM w (.slice a n c) l) (hK : K ≤ n) : RdM w (.slice (a.map fun x => x.add (K * 3)) (n - K) (c - K)) (l.drop K) := by
  cases a with
  | none =>
    rcases h with ⟨ao, c'', e, rfl, h0⟩ | ⟨b', off', c'', n', e, _⟩
    · injection e with e1 e2 e3
      subst e2 e3
      have := h0 e1.symm
      exact Or.inl ⟨_, _, by rw [Nat.zero_sub], by simp, fun _ => by omega⟩
    · injection e with e1; cases e1
  | some x =>
    have hl : RdM w (.slice (some x) n c) l := h
    rcases h with ⟨ao, c'', e, rfl, h0⟩ | ⟨b', off', c'', n', e, hn, hp, hc⟩
    · injection e with e1 e2 e3
      subst e2
      exact Or.inl ⟨_, _, by rw [Nat.zero_sub], by simp, fun h => by cases h⟩
    · injection e with e1 e2 e3
      injection e1 with e1
      subst e1
      have e4 : (some (⟨b', off', none⟩ : Addr)).map (fun x => x.add (K * 3)) = some ⟨b', off' + K * 3, none⟩ := by simp [Addr.add]
      rw [e4]
      exact hl.drop hK
theorem RdM.drop_end {w : World} {a : Option Addr} {n K : Nat} {l : List Mv} (hn : l.length = n) (hK : n ≤ K) : RdM w (.slice a (n - K) 0) (l.drop K) :=
  Or.inl ⟨a, 0, by rw [show n - K = 0 by omega], List.drop_eq_nil_of_le (by omega), fun _ => rfl⟩
/-- a plan's answer where the case is right -/
theorem plan_some {B : Nat} {P : List Mv} {e : Ending} {w' : World} (h : ResM B (some P) e w') : ∃ v, e = .returned (.tuple #[v, ci 0]) ∧ OwnM w' B v P := by
  rcases h with ⟨h, _⟩ | ⟨P', v, h1, h2, h3⟩
  · cases h
  · cases h1; exact ⟨v, h2, h3⟩
theorem plan_none {B : Nat} {e : Ending} {w' : World} (h : ResM B none e w') : e = .returned (.tuple #[.slice none 0 0, ci 250]) := by
  rcases h with ⟨_, h⟩ | ⟨P', v, h1, _⟩
  · exact h
  · cases h1
set_option maxHeartbeats 4000000 in
set_option maxRecDepth 100000 in
theorem begins_walk (lv ov : Value) (l : List (BitVec 64)) (ow : List Int) (s n k : Int) (W : World) (hl : Rd W cw lv l) (ho : Rd W ci ov ow) (hlm : l.length * 8 ≤ 140737488351232) (hom : ow.length * 8 ≤ 140737488351232) (hs : -9223372036854775808 ≤ s ∧ s ≤ 9223372036854775807) (hn : -9223372036854775808 ≤ n ∧ n ≤ 9223372036854775807) (hk : -9223372036854775808 ≤ k ∧ k ≤ 9223372036854775807) :
    Calls Try.prog 9 #[.agg #[lv, ov, ci s], ci n, ci k] W fun e w' => e = .returned (.bool true) ∧ Ext W w' := by
  obtain ⟨ad, c, rfl, -⟩ := hl.at
  obtain ⟨ad2, c2, rfl, -⟩ := ho.at
  have HL := Lib.hid hl
  have HO := Lib.hid ho
  have HLM := Lib.hid hlm
  have HOM := Lib.hid hom
  have HN := Lib.hid hn
  have hbx := Blk.new W #[.slice ad l.length c, .slice ad2 ow.length c2, ci s] 35
  have X0 := Lib.hid (Ext.of_alloc (w := W) (.cells #[.slice ad l.length c, .slice ad2 ow.length c2, ci s] 35))
  obtain ⟨w0, hw0⟩ : ∃ x, W.alloc (.cells #[.slice ad l.length c, .slice ad2 ow.length c2, ci s] 35) = x := ⟨_, rfl⟩
  rw [hw0] at X0 hbx
  obtain ⟨bx, hb⟩ : ∃ x, W.heap.size = x := ⟨_, rfl⟩
  rw [hb] at hbx
  have HW0 := Lib.hid hw0
  have HBX := Lib.hid hb
  have BX : Hid (∀ w', Ext w0 w' → w'.cell? ⟨bx, 0, none⟩ = some (.slice ad l.length c) ∧ w'.cell? ⟨bx, 1, none⟩ = some (.slice ad2 ow.length c2) ∧ w'.cell? ⟨bx, 2, none⟩ = some (ci s)) := fun w' e => ⟨(hbx.ext e).cell 0, (hbx.ext e).cell 1, (hbx.ext e).cell 2⟩
  have HA := Lib.hid (awake_calls w0)
  have HFL := Lib.hid (fun w (h : Rd w cw (.slice ad l.length c) l) => floats_calls (.slice ad l.length c) l w h hlm)
  obtain ⟨ld, hld⟩ : ∃ x, bitsOf l = x := ⟨_, rfl⟩
  have hlt : ∀ x ∈ ld, x < 18446744073709551616 := by rw [← hld]; exact bits_lt l
  have hll : ld.length = l.length := by rw [← hld, bitsOf_len]
  rw [hld] at HFL
  have HLT := Lib.hid hlt
  have HLL := Lib.hid hll
  obtain ⟨N, hN⟩ : ∃ x, fewOf n = x := ⟨_, rfl⟩
  have hNb := few_bd n hn
  have hN4 := few_le n
  have H22 := Lib.hid (fun w => few_calls n w)
  rw [hN] at hNb hN4 H22
  have HNB := Lib.hid hNb
  have HN4 := Lib.hid hN4
  have PL := Lib.hid (fun (q : Int) (O : List Int) (w : World) (fv qv : Value) (h1 : Rd w cf fv ld) (h2 : Rd w ci qv O) (h3 : O.length = ow.length) (h4 : -9223372036854775808 ≤ q ∧ q ≤ 9223372036854775807) (h5 : rightB ld O s = true → (planF ld s.toNat q.toNat O).length ≤ 400) => plan_calls fv qv ld O s q w h1 h2 hlt (by rw [hll]; omega) (by rw [h3]; omega) h4 h5)
  clear hl ho hlm hom hn hbx hw0 hb hld hlt hll hN hNb hN4
  cases hr : rightB ld ow s with
  | false =>
    have HPN : Hid (planR ld ow s N = none) := by show _ = _; unfold planR; rw [hr]; rfl
    have HR := Lib.hid hr
    clear hr
    go_enter Try.func9, Try.ntmps9
    go_upto_region 1 with fail
    rw [HW0.out, HBX.out]
    go_upto_region 4 with (first
      | (go_at_call 25; refine HA.out.mono ?_; clear HA; rintro e w1 ⟨rfl, e1⟩
         have E1 := Lib.hid e1
         obtain ⟨x0, x1, x2⟩ := BX.out w1 e1
         have F1 := Lib.hid (HFL.out w1 ((X0.out.trans e1).rd HL.out))
         clear e1)
      | (go_at_call 18; refine F1.out.mono ?_; clear F1; rintro e w2 ⟨g0, c0, rfl, hc1, hc2, hlo, hoo, hh, he⟩
         have E2 := Lib.hid (E1.out.trans he)
         have RF := Lib.hid (hh.rd (n := l.length) (c := c0) HLL.out.symm)
         have K0 := BX.out w2 E2.out
         clear hc1 hc2 hlo hoo hh he E1 x0 x1 x2)
      | fail)
    go_region_held3 (fun w' => w'.cell? ⟨bx, 0, none⟩ = some (.slice ad l.length c) ∧ w'.cell? ⟨bx, 1, none⟩ = some (.slice ad2 ow.length c2) ∧ w'.cell? ⟨bx, 2, none⟩ = some (ci s)) (first | exact K3 | exact K1 | exact K0)
      (first
        | (go_at_call 24; refine (PL.out N ow w3 _ _ RF3.out RO3.out rfl HNB.out (fun h => by rw [HR.out] at h; cases h)).mono ?_
           rintro e w4 ⟨hres, e4⟩
           rw [HPN.out] at hres
           have he := plan_none hres
           subst he
           have E4 := Lib.hid (E3.out.trans e4)
           have K3 := BX.out w4 E4.out
           clear hres e4)
        | (go_at_call 22; refine (H22.out w2.drew).mono ?_; rintro e w3 ⟨rfl, h3⟩
           have x3 : Ext w2 w3 := by rw [← h3]; exact (Ext.refl w2).drew
           have E3 := Lib.hid (E2.out.trans x3)
           have RF3 := Lib.hid (x3.rd RF.out)
           have RO3 := Lib.hid ((X0.out.trans E3.out).rd HO.out)
           have K1 := BX.out w3 E3.out
           clear h3 x3))
    all_goals go_wp2_with fail
    all_goals go_ret
    all_goals exact ⟨rfl, X0.out.trans E4.out⟩
  | true =>
    have rt := right_rt HLT.out hr
    obtain ⟨m, rfl⟩ : ∃ m : Nat, s = (m : Int) := ⟨s.toNat, by have := rt.lo; omega⟩
    have HR := Lib.hid hr
    obtain ⟨P, hP⟩ : ∃ P, planF ld m N.toNat ow = P := ⟨_, rfl⟩
    have hPl : P.length ≤ 400 := by rw [← hP]; exact Nat.le_trans (planF_len _ _ _ _) HN4.out
    obtain ⟨K, hK⟩ : ∃ K : Nat, K = if k < 0 then 0 else min k.toNat P.length := ⟨_, rfl⟩
    have hKP : K ≤ P.length := by rw [hK]; split <;> omega
    have hPN : P.length ≤ N.toNat := by rw [← hP]; exact planF_len _ _ _ _
    have h1 : planF ld m K ow = P.take K := by rw [← hP]; exact planF_take ld m N.toNat K ow (by rw [hP]; exact hKP)
    have h2 : planF ld m (N.toNat - K) (afterF ld m K ow) = P.drop K := by rw [← hP]; exact planF_drop ld m N.toNat K ow (by rw [hP]; exact hKP)
    have h3 : applied ow (m : Int) (P.take K) = some (afterF ld m K ow) := by rw [← h1]; exact applied_plan hr K
    have h4 := after_right K ow hr
    have h5 : (afterF ld m K ow).length = ow.length := after_len K ow
    have HP1 : Hid (planR ld ow (m : Int) N = some P) := by show _ = _; unfold planR; rw [hr, if_pos rfl, Int.toNat_natCast, hP]
    have HP2 : Hid (planR ld ow (m : Int) (K : Int) = some (P.take K)) := by show _ = _; unfold planR; rw [hr, if_pos rfl, Int.toNat_natCast, Int.toNat_natCast, h1]
    have HP3 : Hid (planR ld (afterF ld m K ow) (m : Int) (N - K) = some (P.drop K)) := by
      show _ = _
      unfold planR
      rw [h4, if_pos rfl, Int.toNat_natCast, show (N - (K : Int)).toNat = N.toNat - K by omega, h2]
    have HB2 : Hid (rightB ld ow (m : Int) = true → (planF ld (m : Int).toNat (K : Int).toNat ow).length ≤ 400) := fun _ => by
      rw [Int.toNat_natCast, Int.toNat_natCast, h1, List.length_take]; omega
    have HB1 : Hid (rightB ld ow (m : Int) = true → (planF ld (m : Int).toNat N.toNat ow).length ≤ 400) := fun _ => by
      rw [Int.toNat_natCast, hP]; exact hPl
    have HB3 : Hid (rightB ld (afterF ld m K ow) (m : Int) = true → (planF ld (m : Int).toNat (N - K).toNat (afterF ld m K ow)).length ≤ 400) := fun _ => by
      rw [Int.toNat_natCast, show (N - (K : Int)).toNat = N.toNat - K by omega, h2, List.length_drop]; omega
    obtain ⟨O2, hO2⟩ : ∃ x, afterF ld m K ow = x := ⟨_, rfl⟩
    rw [hO2] at h3 h5 HP3 HB3
    have H3 := Lib.hid h3
    have H5 := Lib.hid h5
    have HPL := Lib.hid hPl
    have HKP := Lib.hid hKP
    have HK := Lib.hid hK
    have hPl' : (P.length : Int) ≤ 400 := by omega
    have hKP' : (K : Int) ≤ P.length := by omega
    have hsub : IntKind.i64.wrap (N - (K : Int)) = N - (K : Int) := by
      have h1 := HNB.out
      have h2 := HN4.out
      have h3 := hPN
      have h4 := HKP.out
      have h5 : -9223372036854775808 ≤ N - (K : Int) ∧ N - (K : Int) ≤ 9223372036854775807 := by omega
      simp only [IntKind.wrap, IntKind.bits, IntKind.signed]
      simp
      omega
    have hm64 : (m : Int) ≤ 8 := rt.hi
    clear hr rt hP hPl h1 h2 h3 h4 h5 hO2 hK hKP
    go_enter Try.func9, Try.ntmps9
    go_upto_region 1 with fail
    rw [HW0.out, HBX.out]
    go_upto_region 4 with (first
      | (go_at_call 25; refine HA.out.mono ?_; clear HA; rintro e w1 ⟨rfl, e1⟩
         have E1 := Lib.hid e1
         obtain ⟨x0, x1, x2⟩ := BX.out w1 e1
         have F1 := Lib.hid (HFL.out w1 ((X0.out.trans e1).rd HL.out))
         clear e1)
      | (go_at_call 18; refine F1.out.mono ?_; clear F1; rintro e w2 ⟨g0, c0, rfl, hc1, hc2, hlo, hoo, hh, he⟩
         have E2 := Lib.hid (E1.out.trans he)
         have RF : Hid (∀ w', Ext w2 w' → Rd w' cf (.slice (some ⟨g0, 0, none⟩) l.length c0) ld) := fun w' e => e.rd (hh.rd (n := l.length) (c := c0) HLL.out.symm)
         have K0 := BX.out w2 E2.out
         clear hc1 hc2 hlo hoo hh he E1 x0 x1 x2)
      | fail)
    go_region_held3 (fun w' => w'.cell? ⟨bx, 0, none⟩ = some (.slice ad l.length c) ∧ w'.cell? ⟨bx, 1, none⟩ = some (.slice ad2 ow.length c2) ∧ w'.cell? ⟨bx, 2, none⟩ = some (ci m)) (first | exact K3 | exact K1 | exact K0)
      (first
        | (go_at_call 24; refine (PL.out N ow w3 _ _ (RF.out w3 x3) RO3.out rfl HNB.out HB1.out).mono ?_
           rintro e w4 ⟨hres, e4⟩
           rw [HP1.out] at hres
           obtain ⟨pv, he, hp4⟩ := plan_some hres
           subst he
           have E4 := Lib.hid (E3.out.trans e4)
           have RF4 := Lib.hid (fun w' (e : Ext w4 w') => RF.out w' ((x3.trans e4).trans e))
           have P4 := Lib.hid hp4.rd
           have K3 := BX.out w4 E4.out
           obtain ⟨pa, pc, rfl, hpc1, hpc2⟩ := hp4.form'
           have hpc3 : (P.length : Int) ≤ pc := by omega
           have hpc4 : (pc : Int) ≤ 9223372036854775807 := by unfold maxLen at hpc2; omega
           have hpc5 : (K : Int) ≤ pc := by omega
           clear hres e4 hp4 hpc1 hpc2)
        | (go_at_call 22; refine (H22.out w2.drew).mono ?_; rintro e w3 ⟨rfl, h3⟩
           have x3 : Ext w2 w3 := by rw [← h3]; exact (Ext.refl w2).drew
           have E3 := Lib.hid (E2.out.trans x3)
           have RO3 := Lib.hid ((X0.out.trans E3.out).rd HO.out)
           have K1 := BX.out w3 E3.out
           clear h3))
    clear K0 K1 x3 RF E3 RO3 E2
    go_upto_if 38 with (fail)
    go_cut [2] (fun v wx => v = ci (if k < 0 then 0 else k) ∧ wx = w4)
    case first =>
      by_cases c0 : k < 0
      · have d0 : decide (k < 0) = true := decide_eq_true c0
        go_wp2_with fail
        go_meet
        exact ⟨by rw [if_pos c0], rfl⟩
      · have d0 : decide (k < 0) = false := decide_eq_false c0
        have C0 := Lib.hid c0
        clear c0
        go_wp2_with fail
        go_meet
        exact ⟨by rw [if_neg (show ¬ k < 0 by have := C0.out; omega)], rfl⟩
    case rest =>
    obtain ⟨rfl, rfl⟩ := hcut
    obtain ⟨k1, hk1⟩ : ∃ x, (if k < 0 then 0 else k) = x := ⟨_, rfl⟩
    rw [hk1]
    have hcK : Hid ((K : Int) = if (P.length : Int) < k1 then (P.length : Int) else k1) := by
      show _ = _
      rw [← hk1, HK.out]
      split <;> split <;> omega
    clear hk1 HK
    go_upto_if 42 with (fail)
    go_cut [2] (fun v wx => v = ci (K : Int) ∧ wx = wc)
    case first =>
      by_cases c0 : (P.length : Int) < k1
      · have d0 : decide ((P.length : Int) < k1) = true := decide_eq_true c0
        have hcM := Lib.hid (hcK.out.trans (if_pos c0))
        go_wp2_with fail
        go_meet
        exact ⟨by rw [hcM.out], rfl⟩
      · have d0 : decide ((P.length : Int) < k1) = false := decide_eq_false c0
        have hcM := Lib.hid (hcK.out.trans (if_neg c0))
        go_wp2_with fail
        go_meet
        exact ⟨by rw [hcM.out], rfl⟩
    case rest =>
    obtain ⟨rfl, rfl⟩ := hcut
    clear hcK k1
    have P5 := Lib.hid (PL.out (K : Int) ow wc _ _ (RF4.out wc (Ext.refl _)) ((X0.out.trans E4.out).rd HO.out) rfl (by have := HPL.out; have := HKP.out; omega) HB2.out)
    rw [HP2.out] at P5
    obtain ⟨y0, y1, y2⟩ := K3
    have HTK := Lib.hid (P4.out.take HKP.out)
    go_upto_region 12 with (first
      | (go_at_call 24; refine P5.out.mono ?_; clear P5; rintro e w5 ⟨hres, e5⟩
         obtain ⟨hv, he, hp5⟩ := plan_some hres
         subst he
         have E5 := Lib.hid (E4.out.trans e5)
         have F5 := Lib.hid e5
         have R5 := Lib.hid hp5.rd
         have K5 := BX.out w5 E5.out
         clear hres e5 hp5)
      | fail)
    go_region_held3 (fun w' => w'.cell? ⟨bx, 0, none⟩ = some (.slice ad l.length c) ∧ w'.cell? ⟨bx, 1, none⟩ = some (.slice ad2 ow.length c2) ∧ w'.cell? ⟨bx, 2, none⟩ = some (ci m)) (first | exact K6 | exact K5)
      (first
        | (go_at_call 13; refine (apply_calls _ ow (m : Int) (.slice pa K pc) (P.take K) w5.drew (((X0.out.trans E5.out).drew).rd HO.out) HOM.out (by omega) (HTK.out.ext (F5.out.drew)) (by rw [List.length_take]; have := HPL.out; omega)).mono ?_
           rintro e w6 ⟨hres, e6⟩
           rw [H3.out] at hres
           have hr6 : Hid (∃ v, e = .returned (.tuple #[v, ci 0]) ∧ Rd w6 ci v O2) := by
             rcases hres with ⟨h, _⟩ | ⟨L, v, h1, h2, h3⟩
             · cases h
             · cases h1; exact ⟨v, h2, h3.rd⟩
           obtain ⟨o2, he, hrd⟩ := hr6.out
           subst he
           have E6 := Lib.hid (E5.out.drew.trans e6)
           have F6 := Lib.hid (F5.out.drew.trans e6)
           have R6 := Lib.hid (R5.out.ext ((Ext.refl w5).drew.trans e6))
           have RO6 := Lib.hid hrd
           have K6 := BX.out w6 E6.out
           clear hres hr6 e6 hrd))
    have T6 := Lib.hid (sameMoves_calls hv (.slice pa K pc) (P.take K) w6 R6.out (HTK.out.ext F6.out) (by rw [List.length_take]; have := HPL.out; omega))
    clear K5 y0 y1 y2
    go_upto_region 15 with (first
      | (go_at_call 15; refine T6.out.mono ?_; clear T6; rintro e w7 ⟨rfl, k7, h7⟩
         have x7 := ext_drewN' h7
         have E7 := Lib.hid (E6.out.trans x7)
         have F7 := Lib.hid (F6.out.trans x7)
         have RO7 := Lib.hid (x7.rd RO6.out)
         have K7 := BX.out w7 E7.out
         clear h7 x7)
      | fail)
    clear K6
    go_region_held3 (fun w' => w'.cell? ⟨bx, 0, none⟩ = some (.slice ad l.length c) ∧ w'.cell? ⟨bx, 1, none⟩ = some (.slice ad2 ow.length c2) ∧ w'.cell? ⟨bx, 2, none⟩ = some (ci m)) (first | exact K9 | exact K8 | exact K7)
      (first
        | (go_at_call 24; refine (PL.out (N - K) O2 w8 _ _ (RF4.out w8 F8.out) RO8.out H5.out (by have := HNB.out; have := HPL.out; have := HKP.out; omega) HB3.out).mono ?_
           rintro e w9 ⟨hres, e9⟩
           rw [HP3.out] at hres
           obtain ⟨rv, he, hp9⟩ := plan_some hres
           subst he
           have E9 := Lib.hid (E8.out.trans e9)
           have F9 := Lib.hid (F8.out.trans e9)
           have R9 := Lib.hid hp9.rd
           have K9 := BX.out w9 E9.out
           clear hres e9 hp9)
        | (go_at_call 22; refine (H22.out w7.drew).mono ?_; rintro e w8 ⟨rfl, h8⟩
           have x8 : Ext w7 w8 := by rw [← h8]; exact (Ext.refl w7).drew
           have E8 := Lib.hid (E7.out.trans x8)
           have F8 := Lib.hid (F7.out.trans x8)
           have RO8 := Lib.hid (x8.rd RO7.out)
           have K8 := BX.out w8 E8.out
           clear h8 x8))
    clear K7 K8 K9
    have HD1 : Hid (RdM w9 (.slice (pa.map fun x => x.add (K * 3)) (P.length - K) (pc - K)) (P.drop K)) := (P4.out.ext F9.out).drop_any HKP.out
    have HD2 : Hid (pc = K → RdM w9 (.slice pa (P.length - K) 0) (P.drop K)) := fun e => RdM.drop_end rfl (by omega)
    have HDL : Hid ((P.drop K).length ≤ 9223372036854775807) := by show _ ≤ _; rw [List.length_drop]; have := HPL.out; omega
    by_cases hpk : pc = K
    · have HT := Lib.hid (sameMoves_calls rv _ (P.drop K) w9 R9.out (HD2.out hpk) HDL.out)
      clear HD1 HD2
      subst hpk
      go_wp2_with (first
        | (go_at_call 15; refine HT.out.mono ?_; rintro e w10 ⟨rfl, k10, h10⟩
           have E10 := Lib.hid (E9.out.trans (ext_drewN' h10))
           clear h10)
        | fail)
      all_goals go_ret
      all_goals exact ⟨rfl, X0.out.trans E10.out⟩
    · have HT := Lib.hid (sameMoves_calls rv _ (P.drop K) w9 R9.out HD1.out HDL.out)
      have hpk2 : ¬ (pc : Int) = (K : Int) := by omega
      clear HD1 HD2
      go_wp2_with (first
        | (go_at_call 15; refine HT.out.mono ?_; rintro e w10 ⟨rfl, k10, h10⟩
           have E10 := Lib.hid (E9.out.trans (ext_drewN' h10))
           clear h10)
        | fail)
      all_goals go_ret
      all_goals exact ⟨rfl, X0.out.trans E10.out⟩
theorem begins_walk' (lv ov : Value) (l : List (BitVec 64)) (ow : List Int) (s n k : Int) (W : World) (hl : Rd W cw lv l) (ho : Rd W ci ov ow) (hlm : l.length * 8 ≤ 140737488351232) (hom : ow.length * 8 ≤ 140737488351232) (hs : -9223372036854775808 ≤ s ∧ s ≤ 9223372036854775807) (hn : -9223372036854775808 ≤ n ∧ n ≤ 9223372036854775807) (hk : -9223372036854775808 ≤ k ∧ k ≤ 9223372036854775807) :
    Calls Try.prog 9 #[.agg #[lv, ov, ci s], ci n, ci k] W fun e w' => e = .returned (.bool true) ∧ Below W.heap.size W w' :=
  (begins_walk lv ov l ow s n k W hl ho hlm hom hs hn hk).mono fun e w' h => ⟨h.1, h.2.to⟩
end Go.Proofs.Ytkpjnikmcojdlaa
