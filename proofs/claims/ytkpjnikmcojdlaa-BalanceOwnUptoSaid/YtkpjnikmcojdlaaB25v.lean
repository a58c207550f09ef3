/- BalanceTwice: the walk of the law. -/
import Derived.Test.YtkpjnikmcojdlaaB25t
import Derived.Test.YtkpjnikmcojdlaaP25e
namespace Go.Proofs.Ytkpjnikmcojdlaa
open Go.RowKit
set_option linter.unusedVariables false

def nz (L : List Nat) : List Int := L.map fun n : Nat => (n : Int)
theorem nz_len (L : List Nat) : (nz L).length = L.length := by unfold nz; simp
theorem nz_get (L : List Nat) (i : Nat) (h : i < (nz L).length) : (nz L)[i] = ((L[i]'(by rw [nz_len] at h; exact h) : Nat) : Int) := List.getElem_map _
theorem nz_snoc (L : List Nat) (n : Nat) : nz (L ++ [n]) = nz L ++ [(n : Int)] := by unfold nz; simp
theorem sum_snoc (L : List Nat) (n : Nat) : (L ++ [n]).sum = L.sum + n := by simp
theorem mem_sum : ∀ {L : List Nat} {n : Nat}, n ∈ L → n ≤ L.sum
  | x :: r, n, h => by
    rw [List.sum_cons]
    rcases List.mem_cons.1 h with h | h
    · omega
    · have := mem_sum h; omega
theorem whl_small {L : List Nat} (h : L.sum ≤ 9007199254740992) : ∀ x ∈ L.map whl, x < 18446744073709551616 := fun x hx => by
  obtain ⟨n, hn, rfl⟩ := List.mem_map.1 hx
  have := (whl_read (m := n) (by have := mem_sum hn; omega)).1
  omega
theorem wrap_id {x : Int} (h : -9223372036854775808 ≤ x ∧ x ≤ 9223372036854775807) : IntKind.i64.wrap x = x := by
  simp only [IntKind.wrap, IntKind.bits, IntKind.signed]
  simp
  omega
set_option maxHeartbeats 4000000 in
set_option maxRecDepth 100000 in
theorem twice_walk (lv ov : Value) (l ow : List Int) (s : Int) (W : World) (hl : Rd W ci lv l) (ho : Rd W ci ov ow) (hlm : l.length * 8 ≤ 140737488351232) (hom : ow.length * 8 ≤ 140737488351232) (hs : -9223372036854775808 ≤ s ∧ s ≤ 9223372036854775807) :
    Calls Try.prog 6 #[lv, ov, ci s] W fun e w' => e = .returned (.bool true) ∧ Ext W w' := by
  obtain ⟨i48, j1, j2, j3, j4⟩ := info_parts Try.info48
  have hz : i48.zero = some (cf 0) := j2
  obtain ⟨i3, n1, n2, n3, n4⟩ := info_parts Try.info3
  have hz3 : i3.zero = some (ci 0) := n2
  obtain ⟨ad, c, rfl, hat⟩ := hl.at
  obtain ⟨ad2, c2, rfl, -⟩ := ho.at
  have HL := Lib.hid hl
  have HAT := Lib.hid hat
  have HO := Lib.hid ho
  have HLM := Lib.hid hlm
  have HOM := Lib.hid hom
  have HSB := Lib.hid hs
  have hl' : (l.length : Int) ≤ 17592186043904 := by omega
  have HA := Lib.hid (awake_calls W)
  clear hl ho hlm hom hat hs
  go_enter Try.func6, Try.ntmps6
  go_wp2_with (first
    | (go_at_call 25; refine HA.out.mono ?_; clear HA; rintro e w1 ⟨rfl, e1⟩
       have E1 := Lib.hid e1
       clear e1)
    | fail)
  go_loopw [7, 8, 9] (fun fv tv iv wr => ∃ (k : Nat) (L : List Nat), k ≤ l.length ∧ iv = .int .i64 k ∧ tv = ci (L.sum : Nat) ∧ Hid (Own wr w1.heap.size 48 cf fv (L.map whl) ∧ Ext w1 wr ∧ L.length = k ∧ L.sum ≤ 9007199254740992 ∧ l.take k = nz L)) (fun _ _ iv _ => (l.length - (intOf iv).toNat))
  case atStart => exact ⟨0, [], by omega, rfl, rfl, Own.nil, Ext.refl _, rfl, by simp, by simp [nz]⟩
  case round =>
    obtain ⟨k, L, hk, rfl, rfl, hT⟩ := hrel
    by_cases hlt : k < l.length
    · obtain ⟨b, o, rfl, hc'⟩ := HAT.out k hlt
      have hc := (E1.out.trans hT.out.2.1).cell hc'
      have htk : Hid (∀ n : Nat, l[k] = (n : Int) → l.take (k + 1) = nz (L ++ [n])) := fun n hn => by
        rw [nz_snoc, ← hT.out.2.2.2.2, List.take_add_one, List.getElem?_eq_getElem hlt, hn]; rfl
      have hsum := hT.out.2.2.2.1
      have HLL := Lib.hid hT.out.2.2.1
      generalize l[k] = x at *
      clear hc'
      have hw0 : IntKind.i64.wrap (9007199254740992 - (L.sum : Int)) = 9007199254740992 - (L.sum : Int) := wrap_id (by omega)
      by_cases h1 : x < 0
      · have d1 : decide (x < 0) = true := decide_eq_true h1
        clear h1
        go_wp2_with fail
        go_ret
        exact ⟨rfl, E1.out.trans hT.out.2.1⟩
      · have d1 : decide (x < 0) = false := decide_eq_false h1
        by_cases h2 : 9007199254740992 - (L.sum : Int) < x
        · have d2 : decide (9007199254740992 - (L.sum : Int) < x) = true := decide_eq_true h2
          clear h1 h2
          go_wp2_with fail
          go_ret
          exact ⟨rfl, E1.out.trans hT.out.2.1⟩
        · have d2 : decide (9007199254740992 - (L.sum : Int) < x) = false := decide_eq_false h2
          obtain ⟨n, rfl⟩ : ∃ n : Nat, x = (n : Int) := ⟨x.toNat, by omega⟩
          have hsum2 : L.sum + n ≤ 9007199254740992 := by omega
          have hw1 : IntKind.i64.wrap ((L.sum : Int) + (n : Int)) = (L.sum : Int) + (n : Int) := wrap_id (by omega)
          have HS2 := Lib.hid hsum2
          have htk2 := Lib.hid (htk.out n rfl)
          have hcv : ∀ w, (convert 3 48 (.int .i64 (n : Int))).run Try.prog w = .ok (cf (whl n)) w := fun w => by
            rw [run_convert_int_float (P := Try.prog) w 3 48 .i64 .f64 _ (by kernel_rfl) (by kernel_rfl)]
            unfold whl; rfl
          have O1 := Lib.hid ((Ext.of_alloc (w := wr) (.cells #[cf (whl n)] 48)).own hT.out.1)
          have X1 : Hid ((wr.alloc (.cells #[cf (whl n)] 48)).cell? ⟨wr.heap.size, 0, none⟩ = some (cf (whl n))) := by show _ = _; rw [World.cell?_alloc_new]; rfl
          have S1 := Lib.hid ((hT.out.2.1.alloc (.cells #[cf (whl n)] 48)).size)
          have B1 : Hid (((L.map whl).length + 1) * 8 ≤ 140737488355328) := by show _ ≤ _; rw [List.length_map, HLL.out]; have := HLM.out; omega
          have M1 : Hid ((L.map whl).length + 1 ≤ 9223372036854775807) := by show _ ≤ _; rw [List.length_map, HLL.out]; have := HLM.out; omega
          clear h1 h2 hsum hsum2 htk
          go_wp2_with (first
            | (at_builtin; refine wpList_append_one cf rfl (.tmp 48) (.tmp 54) 36 rfl w1.heap.size 48 i48 (cf 0) 8 Try.u36 j1 hz j3 j4 rfl _ (L.map whl) rfl O1.out wr.heap.size 1 _ rfl X1.out rfl B1.out M1.out S1.out ?_
               intro nv' w3 ho3 hg3 hb3
               have P3 := Lib.hid (And.intro ho3 ((hT.out.2.1.alloc (.cells #[cf (whl n)] 48)).grown hg3 (fun k hk => (O1.out.lt k hk).1)))
               clear ho3 hg3 hb3 O1 X1 S1 B1 M1)
            | fail)
          go_roundw
          case measure => simp only [intOf]; omega
          case rel => exact ⟨k + 1, L ++ [n], by omega, by go_num, by rw [sum_snoc]; rfl, by rw [List.map_append]; exact P3.out.1, P3.out.2, by rw [List.length_append, HLL.out]; rfl, by rw [sum_snoc]; exact HS2.out, htk2.out⟩
    · obtain rfl : k = l.length := by omega
      have hlL := hT.out.2.2.2.2
      rw [List.take_length] at hlL
      subst hlL
      have hsm := hT.out.2.2.2.1
      have O1 := Lib.hid hT.out.1
      have E2 := Lib.hid hT.out.2.1
      have HSM := Lib.hid hsm
      clear hk hlt hT
      rw [nz_len] at *
      obtain ⟨ld, hld⟩ : ∃ x, L.map whl = x := ⟨_, rfl⟩
      have HLD := Lib.hid hld
      have HLT := Lib.hid (whl_small hsm)
      have hll : ld.length = L.length := by rw [← hld, List.length_map]
      have HLL := Lib.hid hll
      rw [hld] at O1 HLT
      have P2 := Lib.hid (plan_calls _ _ ld ow s 400 wr O1.out.rd ((E1.out.trans E2.out).rd HO.out) HLT.out (by have := HLL.out; have := HLM.out; omega) (by have := HOM.out; omega) (by omega) (fun _ => planF_len _ _ _ _))
      cases hr : rightB ld ow s with
      | false =>
        have HPN : Hid (planR ld ow s 400 = none) := by show _ = _; unfold planR; rw [hr]; rfl
        rw [HPN.out] at P2
        clear hr
        go_wp2_with (first
          | (go_at_call 24; refine P2.out.mono ?_; clear P2; rintro e w4 ⟨hres, e4⟩
             have he := plan_none hres
             subst he
             have E4 := Lib.hid (E2.out.trans e4)
             clear hres e4)
          | fail)
        go_ret
        exact ⟨rfl, E1.out.trans E4.out⟩
      | true =>
        have rt := right_rt HLT.out hr
        obtain ⟨m, rfl⟩ : ∃ m : Nat, s = (m : Int) := ⟨s.toNat, by have := rt.lo; omega⟩
        obtain ⟨P, hP⟩ : ∃ P, planF ld m 400 ow = P := ⟨_, rfl⟩
        have hPl : P.length ≤ 400 := by rw [← hP]; exact planF_len _ _ _ _
        have HP1 : Hid (planR ld ow (m : Int) 400 = some P) := by show _ = _; unfold planR; rw [hr, if_pos rfl, Int.toNat_natCast]; exact congrArg some hP
        rw [HP1.out] at P2
        by_cases h400 : 400 ≤ P.length
        · have d0 : decide ((400 : Int) ≤ P.length) = true := decide_eq_true (by omega)
          clear hr rt hP hPl h400
          go_wp2_with (first
            | (go_at_call 24; refine P2.out.mono ?_; clear P2; rintro e w4 ⟨hres, e4⟩
               obtain ⟨pv, he, hp4⟩ := plan_some hres
               subst he
               obtain ⟨pa, pc, rfl⟩ := hp4.form
               have E4 := Lib.hid (E2.out.trans e4)
               clear hres e4 hp4)
            | fail)
          go_ret
          exact ⟨rfl, E1.out.trans E4.out⟩
        · have d0 : decide ((400 : Int) ≤ P.length) = false := decide_eq_false (by omega)
          obtain ⟨hend, -⟩ := planF_ended (L := ld) (n := m) 400 ow (by rw [hP]; omega)
          have h3 := applied_plan hr 400
          have h5 := after_len (L := ld) (n := m) 400 ow
          have h6 := after_right 400 ow hr
          rw [hP] at h3
          obtain ⟨O2, hO2⟩ : ∃ x, afterF ld m 400 ow = x := ⟨_, rfl⟩
          rw [hO2] at hend h3 h5 h6
          have h7 : O2.length = L.length := by rw [h5, ← hll]; exact rt.len.symm
          have rt2 := right_rt HLT.out h6
          have H3 := Lib.hid h3
          have H7 := Lib.hid h7
          have HPL := Lib.hid hPl
          have RT2 := Lib.hid rt2
          have hm8 : (m : Int) ≤ 8 := rt.hi
          have hm0 : (0 : Int) < m := rt.lo
          have hO64 : (L.length : Int) ≤ 64 := by have := rt2.many; omega
          obtain ⟨f, hf⟩ : ∃ f, fullOf (sumsOf ld O2 m) = f := ⟨_, rfl⟩
          have hfm : f < m := by
            rw [← hf]
            have := fullOf_lt (S := sumsOf ld O2 m) (by rw [sumsOf_len]; omega)
            rwa [sumsOf_len] at this
          have HLAW : Hid (∀ t, t < m → 1 < icnt (f : Int) L O2 → isum (f : Int) L O2 ≤ 2 * isum (t : Int) L O2) := fun t ht h1 =>
            twice_law (n := m) (f := f) hsm (by rw [hld]; exact hend) (by rw [hld]; exact hf) hfm ht h1
          have HF := Lib.hid hf
          have HFM := Lib.hid hfm
          have hmk : ∀ w : World, (Instr.makeSlice 22 (.int .i64 (m : Int)) (.int .i64 (m : Int))).run Try.prog w = .ok (.slice (some ⟨w.heap.size, 0, none⟩) m m) (w.alloc (.cells (V ci (List.replicate m 0)) 3)) :=
            fun w => run_make_one (P := Try.prog) ci 0 22 3 i3 8 Try.u22 n1 hz3 n3 n4 rfl m m (by omega) (by omega) (by omega) w
          clear hr rt hP hPl h400 hend h3 h5 h6 hO2 h7 rt2 hf hfm
          go_wp2_with (first
            | (go_at_call 24; refine P2.out.mono ?_; clear P2; rintro e w4 ⟨hres, e4⟩
               obtain ⟨pv, he, hp4⟩ := plan_some hres
               subst he
               obtain ⟨pa, pc, rfl⟩ := hp4.form
               have E4 := Lib.hid (E2.out.trans e4)
               have A4 := Lib.hid (apply_calls (.slice ad2 ow.length c2) ow (m : Int) (.slice pa P.length pc) P w4 ((E1.out.trans E4.out).rd HO.out) HOM.out (by omega) hp4.rd (by have := HPL.out; omega))
               rw [H3.out] at A4
               clear hres e4 hp4)
            | (go_at_call 13; refine A4.out.mono ?_; clear A4; rintro e w5 ⟨hres, e5⟩
               obtain ⟨nv, he, hn5⟩ := apply_some hres
               subst he
               obtain ⟨na, nc, rfl, -⟩ := hn5.form'
               rw [H7.out]
               have E5 := Lib.hid (E4.out.trans e5)
               have N5 := Lib.hid hn5.rd
               clear hres e5 hn5)
            | fail)
          have X7 := Lib.hid (Ext.of_alloc2 (w := w5) (.cells (V ci (List.replicate m 0)) 3) (.cells (V ci (List.replicate m 0)) 3))
          have BM : Hid (Blk ((w5.alloc (.cells (V ci (List.replicate m 0)) 3)).alloc (.cells (V ci (List.replicate m 0)) 3)) w5.heap.size (V ci (List.replicate m 0)) 3) := (Blk.new w5 _ 3).alloc _
          have BC : Hid (Blk ((w5.alloc (.cells (V ci (List.replicate m 0)) 3)).alloc (.cells (V ci (List.replicate m 0)) 3)) (w5.heap.size + 1) (V ci (List.replicate m 0)) 3) := by
            have h := Blk.new (w5.alloc (.cells (V ci (List.replicate m 0)) 3)) (V ci (List.replicate m 0)) 3
            rw [World.size_alloc] at h
            exact h
          go_loopw [16] (fun iv wr => ∃ (k : Nat) (M C : List Int), k ≤ L.length ∧ iv = .int .i64 k ∧ Hid (Blk wr w5.heap.size (V ci M) 3 ∧ Blk wr (w5.heap.size + 1) (V ci C) 3 ∧ Ext w5 wr ∧ M.length = m ∧ C.length = m ∧ (∀ (j : Nat), j < m → 0 ≤ M.getD j 0 ∧ M.getD j 0 + isum (j : Int) (L.drop k) (O2.drop k) = isum (j : Int) L O2) ∧ ∀ (j : Nat), j < m → 0 ≤ C.getD j 0 ∧ C.getD j 0 + icnt (j : Int) (L.drop k) (O2.drop k) = icnt (j : Int) L O2)) (fun iv _ => (L.length - (intOf iv).toNat))
          case atStart => exact ⟨0, List.replicate m 0, List.replicate m 0, by omega, rfl, BM.out, BC.out, X7.out, by simp, by simp, fun j hj => by simp [hj], fun j hj => by simp [hj]⟩
          case round =>
            clear BM BC X7
            obtain ⟨k, M, C, hk, rfl, hT⟩ := hrel
            by_cases hlt : k < L.length
            · have hlt2 : k < O2.length := by rw [H7.out]; exact hlt
              obtain ⟨b, o, rfl, hc0⟩ := HAT.out k (by rw [nz_len]; exact hlt)
              rw [nz_get] at hc0
              have hc := (E1.out.trans (E5.out.trans hT.out.2.2.1)).cell hc0
              obtain ⟨b2, o2, rfl, hc20⟩ := rd_at N5.out hlt2
              have hc2 := hT.out.2.2.1.cell hc20
              have hst := RT2.out.own O2[k] (List.getElem_mem _)
              have hM := hT.out.2.2.2.2.2.1
              have hC := hT.out.2.2.2.2.2.2
              have hMl := hT.out.2.2.2.1
              have hCl := hT.out.2.2.2.2.1
              rw [dropcons hlt, dropcons hlt2] at hM hC
              have hkl : (k : Int) < L.length := by omega
              generalize L[k] = x at *
              generalize O2[k] = y at *
              obtain ⟨j, rfl⟩ : ∃ j : Nat, y = (j : Int) := ⟨y.toNat, by unfold stranger at hst; simp at hst; omega⟩
              have hj : j < m := by unfold stranger at hst; simp at hst; omega
              have hj64 : (j : Int) < m := by omega
              have q1 := hM j hj
              have q2 := hC j hj
              rw [isum_cons, if_pos rfl] at q1
              rw [icnt_cons] at q2
              have q3 := isum_le (j : Int) L O2
              have q4 := icnt_le (j : Int) L O2
              have hMj := hT.out.1.cell j
              have hCj := hT.out.2.1.cell j
              have fM := hT.out.1.free j
              have fC := hT.out.2.1.free j
              rw [V_get, List.getElem?_eq_getElem (by omega)] at hMj hCj
              rw [getD_eq 0 (show j < M.length by omega)] at q1
              rw [getD_eq 0 (show j < C.length by omega)] at q2
              generalize M[j] = u at *
              generalize C[j] = v at *
              have hw1 : IntKind.i64.wrap (u + (x : Int)) = u + (x : Int) := wrap_id (by omega)
              have hw2 : IntKind.i64.wrap (v + 1) = v + 1 := wrap_id (by split at q2 <;> omega)
              have HM2 : Hid (∀ i, i < m → 0 ≤ (M.set j (u + (x : Int))).getD i 0 ∧ (M.set j (u + (x : Int))).getD i 0 + isum (i : Int) (L.drop (k + 1)) (O2.drop (k + 1)) = isum (i : Int) L O2) := fun i hi => by
                have h := hM i hi
                rw [isum_cons] at h
                rw [getD_eq 0 (by rw [List.length_set]; omega), List.getElem_set]
                by_cases hij : j = i
                · subst hij
                  rw [if_pos rfl]
                  omega
                · rw [if_neg hij, ← getD_eq 0 (by omega)]
                  rw [if_neg (by omega)] at h
                  omega
              have HC2 : Hid (0 < x → ∀ i, i < m → 0 ≤ (C.set j (v + 1)).getD i 0 ∧ (C.set j (v + 1)).getD i 0 + icnt (i : Int) (L.drop (k + 1)) (O2.drop (k + 1)) = icnt (i : Int) L O2) := fun hx i hi => by
                have h := hC i hi
                rw [icnt_cons] at h
                rw [getD_eq 0 (by rw [List.length_set]; omega), List.getElem_set]
                by_cases hij : j = i
                · subst hij
                  rw [if_pos ⟨rfl, hx⟩] at q2
                  rw [if_pos rfl]
                  omega
                · rw [if_neg hij, ← getD_eq 0 (by omega)]
                  rw [if_neg (by omega)] at h
                  omega
              have HC3 : Hid (¬ 0 < x → ∀ i, i < m → 0 ≤ C.getD i 0 ∧ C.getD i 0 + icnt (i : Int) (L.drop (k + 1)) (O2.drop (k + 1)) = icnt (i : Int) L O2) := fun hx i hi => by
                have h := hC i hi
                rw [icnt_cons, if_neg (by omega)] at h
                omega
              have HML := Lib.hid hMl
              have HCL := Lib.hid hCl
              clear hM hC hMl hCl q1 q2 q3 q4 hst hj
              go_wp2_with fail
              go_region
              obtain ⟨w8, hw8⟩ : ∃ x', (wr.setCell ⟨w5.heap.size, j, none⟩ (.int .i64 (u + (x : Int)))).drew = x' := ⟨_, rfl⟩
              rw [hw8]
              have hB1 : Hid (Blk w8 w5.heap.size (V ci (M.set j (u + (x : Int)))) 3) := by show Blk _ _ _ _; rw [← hw8, ← V_set]; exact hT.out.1.set j _
              have hB2 : Hid (Blk w8 (w5.heap.size + 1) (V ci C) 3) := by show Blk _ _ _ _; rw [← hw8]; exact hT.out.2.1.far _ (show w5.heap.size + 1 ≠ w5.heap.size by omega) _
              have X8 : Hid (Ext w5 w8) := by show Ext _ _; rw [← hw8]; exact (hT.out.2.2.1.set (Nat.le_refl _) _).drew
              have hc' := (E1.out.trans (E5.out.trans X8.out)).cell hc0
              have hc2' := X8.out.cell hc20
              have hCj' : w8.cell? ⟨w5.heap.size + 1, j, none⟩ = some (ci v) := by rw [hB2.out.cell, ← hT.out.2.1.cell]; exact hCj
              have fC' := hB2.out.free j
              have fM' := hB1.out.free j
              clear hw8 hc hc2 hMj hCj fM fC hc0 hc20
              by_cases hx : 0 < x
              · have hx' : (0 : Int) < x := by omega
                have d0 : decide ((0 : Int) < x) = true := decide_eq_true hx'
                have d1 : decide (0 < x) = true := decide_eq_true hx
                go_wp2_with fail
                go_roundw
                case measure => simp only [intOf]; omega
                case rel => exact ⟨k + 1, M.set j (u + (x : Int)), C.set j (v + 1), by omega, by go_num, hB1.out.far _ (show w5.heap.size ≠ w5.heap.size + 1 by omega) _, by rw [← V_set]; exact hB2.out.set j _, X8.out.set (Nat.le_succ _) _, by rw [List.length_set]; exact HML.out, by rw [List.length_set]; exact HCL.out, HM2.out, HC2.out hx⟩
              · have hx' : ¬ (0 : Int) < x := by omega
                have d0 : decide ((0 : Int) < x) = false := decide_eq_false hx'
                have d1 : decide (0 < x) = false := decide_eq_false hx
                go_wp2_with fail
                go_roundw
                case measure => simp only [intOf]; omega
                case rel => exact ⟨k + 1, M.set j (u + (x : Int)), C, by omega, by go_num, hB1.out, hB2.out, X8.out, by rw [List.length_set]; exact HML.out, HCL.out, HM2.out, HC3.out hx⟩
            · obtain rfl : k = L.length := by omega
              have X8 := Lib.hid hT.out.2.2.1
              have hB1 := Lib.hid hT.out.1
              have hB2 := Lib.hid hT.out.2.1
              have HML := Lib.hid hT.out.2.2.2.1
              have HCL := Lib.hid hT.out.2.2.2.2.1
              have HM : Hid (∀ j, j < m → M.getD j 0 = isum (j : Int) L O2) := fun j hj => by
                have h := (hT.out.2.2.2.2.2.1 j hj).2
                rw [List.drop_length, isum_nil] at h
                omega
              have HC : Hid (∀ j, j < m → C.getD j 0 = icnt (j : Int) L O2) := fun j hj => by
                have h := (hT.out.2.2.2.2.2.2 j hj).2
                rw [List.drop_length, icnt_nil] at h
                omega
              clear hT hk hlt
              go_wp2_with fail
              have HSS : Hid (∀ a b, a < m → b < m → ((sumsOf ld O2 m).getD a 0 < (sumsOf ld O2 m).getD b 0 ↔ isum (a : Int) L O2 < isum (b : Int) L O2)) := fun a b ha hb => by
                rw [sumsOf_getD ha, sumsOf_getD hb, ← HLD.out, load_whl _ _ HSM.out, load_whl _ _ HSM.out]
                exact whl_lt (Nat.le_trans (isum_le _ _ _) HSM.out) (Nat.le_trans (isum_le _ _ _) HSM.out)
              have CM : Hid (∀ j, j < m → wr.cell? ⟨w5.heap.size, j, none⟩ = some (ci (isum (j : Int) L O2 : Nat))) := fun j hj => by
                rw [hB1.out.cell, V_get, List.getElem?_eq_getElem (by rw [HML.out]; exact hj), ← getD_eq 0, HM.out j hj]; rfl
              have CC : Hid (∀ j, j < m → wr.cell? ⟨w5.heap.size + 1, j, none⟩ = some (ci (icnt (j : Int) L O2 : Nat))) := fun j hj => by
                rw [hB2.out.cell, V_get, List.getElem?_eq_getElem (by rw [HCL.out]; exact hj), ← getD_eq 0, HC.out j hj]; rfl
              obtain ⟨S, hS⟩ : ∃ S, sumsOf ld O2 m = S := ⟨_, rfl⟩
              have hSl : S.length = m := by rw [← hS, sumsOf_len]
              rw [hS] at HSS HF
              have HFT : Hid (fullTo S m = f) := by show _ = _; rw [← HF.out, ← hSl]; rfl
              obtain ⟨U, hU⟩ : ∃ U : Nat → Nat, ∀ j : Nat, isum (j : Int) L O2 = U j := ⟨fun j => isum (j : Int) L O2, fun _ => rfl⟩
              obtain ⟨K, hK⟩ : ∃ U : Nat → Nat, ∀ j : Nat, icnt (j : Int) L O2 = U j := ⟨fun j => icnt (j : Int) L O2, fun _ => rfl⟩
              have HUB : Hid (∀ j, U j ≤ 9007199254740992) := fun j => by rw [← hU]; exact Nat.le_trans (isum_le _ _ _) HSM.out
              simp only [hU] at HSS CM HLAW
              simp only [hK] at CC HLAW
              clear hB1 hB2 HML HCL HM HC hS hSl HF hU hK
              go_loopw [17, 18] (fun fv iv wq => ∃ (k d : Nat), k ≤ m ∧ iv = .int .i64 k ∧ fv = ci (fullTo S k : Nat) ∧ wq = wr.drewN d) (fun _ iv _ => (m - (intOf iv).toNat))
              case atStart => exact ⟨0, 0, by omega, rfl, by rw [fullTo_zero]; rfl, rfl⟩
              case round =>
                obtain ⟨k, d, hk, rfl, rfl, rfl⟩ := hrel
                by_cases hlt : k < m
                · have hfk : fullTo S k < m := by have := (fullTo_spec S k).1; omega
                  have hsx := fullTo_succ S k
                  unfold fstep at hsx
                  obtain ⟨j, hj⟩ : ∃ j, fullTo S k = j := ⟨_, rfl⟩
                  rw [hj] at hsx hfk ⊢
                  have hx := HSS.out j k hfk hlt
                  have c1 := CM.out k hlt
                  have c2 := CM.out j hfk
                  have hkm : (k : Int) < m := by omega
                  have hjm : (j : Int) < m := by omega
                  generalize U k = x at *
                  generalize U j = y at *
                  by_cases hxy : y < x
                  · have d0 : decide ((y : Int) < (x : Int)) = true := decide_eq_true (by omega)
                    have hsk : Hid (fullTo S (k + 1) = k) := by show _ = _; rw [hsx, if_pos (hx.2 hxy)]
                    clear hsx hx hj hfk
                    go_wp2_with fail
                    go_quiet (fail)
                    go_wp2_with fail
                    go_roundw
                    case measure => simp only [intOf]; omega
                    case rel => exact ⟨k + 1, _, by omega, by go_num, by rw [hsk.out], rfl⟩
                  · have d0 : decide ((y : Int) < (x : Int)) = false := decide_eq_false (by omega)
                    have hsk : Hid (fullTo S (k + 1) = j) := by show _ = _; rw [hsx, if_neg (fun h => hxy (hx.1 h))]
                    clear hsx hx hj hfk
                    go_wp2_with fail
                    go_quiet (fail)
                    go_wp2_with fail
                    go_roundw
                    case measure => simp only [intOf]; omega
                    case rel => exact ⟨k + 1, _, by omega, by go_num, by rw [hsk.out], rfl⟩
                · obtain rfl : k = m := by omega
                  rw [HFT.out]
                  clear hk hlt
                  have c1 := CM.out f HFM.out
                  have c3 := CC.out f HFM.out
                  have hf64 : (f : Int) < k := by have := HFM.out; omega
                  go_wp2_with fail
                  go_loopw [19] (fun iv wq => ∃ (t d : Nat), t ≤ k ∧ iv = .int .i64 t ∧ wq = wr.drewN d) (fun iv _ => (k - (intOf iv).toNat))
                  case atStart => exact ⟨0, _, by omega, rfl, rfl⟩
                  case round =>
                    obtain ⟨t, d2, ht, rfl, rfl⟩ := hrel
                    by_cases htm : t < k
                    · have c2 := CM.out t htm
                      have hlaw := HLAW.out t htm
                      have hub := HUB.out t
                      have htm64 : (t : Int) < k := by omega
                      generalize U t = x at *
                      generalize U f = y at *
                      generalize K f = z at *
                      have hw1 : IntKind.i64.wrap (2 * (x : Int)) = 2 * (x : Int) := wrap_id (by omega)
                      by_cases hz1 : 1 < z
                      · have d0 : decide ((1 : Int) < (z : Int)) = true := decide_eq_true (by omega)
                        have d1 : decide (2 * (x : Int) < (y : Int)) = false := decide_eq_false (by have := hlaw hz1; omega)
                        clear hlaw
                        go_wp2_with fail
                        go_quiet (fail)
                        go_wp2_with fail
                        go_roundw
                        case measure => simp only [intOf]; omega
                        case rel => exact ⟨t + 1, _, by omega, by go_num, rfl⟩
                      · have d0 : decide ((1 : Int) < (z : Int)) = false := decide_eq_false (by omega)
                        clear hlaw
                        go_wp2_with fail
                        go_quiet (fail)
                        go_wp2_with fail
                        go_roundw
                        case measure => simp only [intOf]; omega
                        case rel => exact ⟨t + 1, _, by omega, by go_num, rfl⟩
                    · obtain rfl : t = k := by omega
                      go_wp2_with fail
                      go_ret
                      exact ⟨rfl, (E1.out.trans (E5.out.trans X8.out)).drewN _⟩
theorem twice_walk' (lv ov : Value) (l ow : List Int) (s : Int) (W : World) (hl : Rd W ci lv l) (ho : Rd W ci ov ow) (hlm : l.length * 8 ≤ 140737488351232) (hom : ow.length * 8 ≤ 140737488351232) (hs : -9223372036854775808 ≤ s ∧ s ≤ 9223372036854775807) :
    Calls Try.prog 6 #[lv, ov, ci s] W fun e w' => e = .returned (.bool true) ∧ Below W.heap.size W w' :=
  (twice_walk lv ov l ow s W hl ho hlm hom hs).mono fun e w' h => ⟨h.1, h.2.to⟩
end Go.Proofs.Ytkpjnikmcojdlaa
