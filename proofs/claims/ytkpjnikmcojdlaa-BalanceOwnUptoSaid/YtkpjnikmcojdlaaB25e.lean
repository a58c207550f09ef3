/- Layer 25 (balance): the document's owners behind moves. -/
import Derived.Test.YtkpjnikmcojdlaaB25d
namespace Go.Proofs.Ytkpjnikmcojdlaa
open Go.RowKit
set_option linter.unusedVariables false

theorem crowd_short {l : List Int} {s : Int} (h : ¬ l.length ≤ 64) : crowd l s = false := by unfold crowd; rw [decide_eq_false h]; rfl
theorem crowd_low {l : List Int} {s : Int} (h : s < 1) : crowd l s = false := by unfold crowd; rw [decide_eq_false (p := 0 < s) (by omega)]; simp
theorem crowd_high {l : List Int} {s : Int} (h : 8 < s) : crowd l s = false := by unfold crowd; rw [decide_eq_false (p := s ≤ 8) (by omega)]; simp
theorem crowd_any {l : List Int} {s : Int} (h : l.any (stranger s) = true) : crowd l s = false := by unfold crowd; rw [h]; simp
theorem crowd_ok {l : List Int} {s : Int} (h1 : l.length ≤ 64) (h2 : 0 < s) (h3 : s ≤ 8) (h4 : l.any (stranger s) = false) : crowd l s = true := by unfold crowd; rw [h4, decide_eq_true h1, decide_eq_true h2, decide_eq_true h3]; rfl
set_option maxHeartbeats 2000000 in
theorem rapply_calls (sv : Value) (l : List Int) (s : Int) (mv : Value) (ms : List Mv) (w : World) (hl : Rd w ci sv l) (hm : l.length * 8 ≤ 140737488351232) (hs : -9223372036854775808 ≤ s ∧ s ≤ 9223372036854775807) (hms : RdM w mv ms) (hmm : ms.length * 24 ≤ 140737488351232) :
    Calls Try.prog 11 #[sv, ci s, mv] w fun e w' => Res w.heap.size (applied l s ms) e w' ∧ Ext w w' := by
  obtain ⟨i3, j1, j2, j3, j4⟩ := info_parts Try.info3
  have hz : i3.zero = some (ci 0) := j2
  have hm' : (l.length : Int) ≤ 17592186043904 := by omega
  have hmm' : (ms.length : Int) ≤ 5864062014634 := by omega
  have HM := Lib.hid hm
  obtain ⟨ad, c, rfl, hat'⟩ := hms.at
  have HAT := Lib.hid (fun (w' : World) (e : Ext w w') => (hms.ext e).at)
  obtain ⟨ad0, c0, rfl, hlat⟩ := hl.at
  have HLA := Lib.hid hlat
  clear hms hl hm hmm hat' hlat
  obtain ⟨R, hR⟩ : ∃ R, applied l s ms = R := ⟨_, rfl⟩
  have HRR := Lib.hid hR
  rw [hR]
  have HNO : Hid (crowd l s = false → R = none) := fun h => by rw [← hR]; unfold applied; rw [h]; rfl
  clear hR
  by_cases hc1 : l.length ≤ 64
  · have t1 : decide ((64 : Int) < (l.length : Int)) = false := decide_eq_false (by omega)
    by_cases hc2 : s < 1
    · have t2 : decide (s < 1) = true := decide_eq_true hc2
      have hno := Lib.hid (HNO.out (crowd_low hc2))
      clear hc1 hc2
      go_enter Try.func11, Try.ntmps11
      go_wp2_with fail
      go_ret2
      exact ⟨Or.inl ⟨hno.out, rfl⟩, Ext.refl _⟩
    · have t2 : decide (s < 1) = false := decide_eq_false hc2
      by_cases hc3 : 8 < s
      · have t3 : decide (8 < s) = true := decide_eq_true hc3
        have hno := Lib.hid (HNO.out (crowd_high hc3))
        clear hc1 hc2 hc3
        go_enter Try.func11, Try.ntmps11
        go_wp2_with fail
        go_ret2
        exact ⟨Or.inl ⟨hno.out, rfl⟩, Ext.refl _⟩
      · have t3 : decide (8 < s) = false := decide_eq_false hc3
        have HC1 := Lib.hid hc1
        have HC2 := Lib.hid hc2
        have HC3 := Lib.hid hc3
        clear hc1 hc2 hc3
        go_enter Try.func11, Try.ntmps11
        go_wp2_with fail
        go_loopw [8, 9] (fun nv iv wr => ∃ (k : Nat), k ≤ l.length ∧ iv = .int .i64 k ∧ Hid (Own wr w.heap.size 3 ci nv (l.take k) ∧ Ext w wr ∧ (l.take k).any (stranger s) = false)) (fun _ iv _ => (l.length - (intOf iv).toNat))
        case atStart => exact ⟨0, by omega, rfl, by rw [List.take_zero]; exact ⟨Own.nil, Ext.refl _, rfl⟩⟩
        case round =>
          obtain ⟨k, hk, rfl, hT⟩ := hrel
          by_cases hlt : k < l.length
          · obtain ⟨b, o, rfl, hci⟩ := HLA.out k hlt
            have hcw := hT.out.2.1.cell hci
            have htk : Hid (l.take (k + 1) = l.take k ++ [l[k]]) := by show _ = _; rw [List.take_add_one, List.getElem?_eq_getElem hlt]; rfl
            have hmem : Hid (stranger s l[k] = true → l.any (stranger s) = true) := fun h => List.any_eq_true.2 ⟨l[k], List.getElem_mem _, h⟩
            generalize l[k] = x at *
            clear hci
            by_cases h1 : x < 0
            · have d1 : decide (x < 0) = true := decide_eq_true h1
              have hcr := Lib.hid (crowd_any (hmem.out (by unfold stranger; rw [d1]; rfl)))
              clear h1
              go_wp2_with fail
              go_ret2
              exact ⟨Or.inl ⟨HNO.out hcr.out, rfl⟩, hT.out.2.1⟩
            · have d1 : decide (x < 0) = false := decide_eq_false h1
              by_cases h2 : s ≤ x
              · have d2 : decide (s ≤ x) = true := decide_eq_true h2
                have hcr := Lib.hid (crowd_any (hmem.out (by unfold stranger; rw [d1, d2]; rfl)))
                clear h1 h2
                go_wp2_with fail
                go_ret2
                exact ⟨Or.inl ⟨HNO.out hcr.out, rfl⟩, hT.out.2.1⟩
              · have d2 : decide (s ≤ x) = false := decide_eq_false h2
                have hst : Hid (stranger s x = false) := by show _ = _; unfold stranger; rw [d1, d2]; rfl
                have O1 := Lib.hid ((Ext.of_alloc (w := wr) (.cells #[ci x] 3)).own hT.out.1)
                have X1 : Hid ((wr.alloc (.cells #[ci x] 3)).cell? ⟨wr.heap.size, 0, none⟩ = some (ci x)) := by show _ = _; rw [World.cell?_alloc_new]; rfl
                have S1 := Lib.hid ((hT.out.2.1.alloc (.cells #[ci x] 3)).size)
                have B1 : Hid (((l.take k).length + 1) * 8 ≤ 140737488355328) := by show _ ≤ _; rw [List.length_take]; have := HC1.out; omega
                have M1 : Hid ((l.take k).length + 1 ≤ 9223372036854775807) := by show _ ≤ _; rw [List.length_take]; have := HC1.out; omega
                clear h1 h2
                go_wp2_with (first
                  | (at_builtin; refine wpList_append_one ci rfl (.tmp 42) (.tmp 47) 22 rfl w.heap.size 3 i3 (ci 0) 8 Try.u22 j1 hz j3 j4 rfl _ (l.take k) rfl O1.out wr.heap.size 1 _ rfl X1.out rfl B1.out M1.out S1.out ?_
                     intro nv' w3 ho3 hg3 hb3
                     have P3 := Lib.hid (And.intro ho3 ((hT.out.2.1.alloc (.cells #[ci x] 3)).grown hg3 (fun k hk => (O1.out.lt k hk).1)))
                     clear ho3 hg3 hb3 O1 X1 S1 B1 M1)
                  | fail)
                go_roundw
                case measure => simp only [intOf]; omega
                case rel => exact ⟨k + 1, by omega, by go_num, by rw [htk.out]; exact ⟨P3.out.1, P3.out.2, by rw [List.any_append, hT.out.2.2]; simp [hst.out]⟩⟩
          · obtain rfl : l.length = k := by omega
            have hT2 := hT.out
            rw [List.take_length] at hT2
            have hcr := crowd_ok HC1.out (by have := HC2.out; omega) (by have := HC3.out; omega) hT2.2.2
            have O2 := Lib.hid hT2.1
            have E2 := Lib.hid hT2.2.1
            clear hk hlt hT
            have HR0 : Hid (applyAll s l ms = R) := by show _ = _; rw [← HRR.out]; unfold applied; rw [hcr, if_pos rfl]
            clear hcr hT2
            obtain ⟨qa, cc, rfl, -⟩ := O2.out.form
            obtain ⟨w1, hw1⟩ : ∃ x, x = wr := ⟨_, rfl⟩
            subst hw1
            go_wp2_with fail
            go_loopw [10] (fun iv wr => ∃ (k : Nat) (L : List Int), k ≤ ms.length ∧ iv = .int .i64 k ∧ Hid (Own wr w.heap.size 3 ci (.slice qa l.length cc) L ∧ Ext w wr ∧ L.length = l.length ∧ applyAll s L (ms.drop k) = R)) (fun iv _ => (ms.length - (intOf iv).toNat))
            case atStart => exact ⟨0, l, by omega, rfl, O2.out, E2.out, rfl, by rw [List.drop_zero]; exact HR0.out⟩
            case round =>
              clear HR0 O2 E2
              obtain ⟨k, L, hk, rfl, hT⟩ := hrel
              by_cases hlt : k < ms.length
              · obtain ⟨ad2, c2, hv, hcells⟩ := HAT.out wr hT.out.2.1
                injection hv with hv1 hv2 hv3
                subst hv1
                obtain ⟨b, o, rfl, a0, a1, a2⟩ := hcells k hlt
                have hstep := hT.out.2.2.2
                rw [List.drop_eq_getElem_cons hlt, applyAll_cons] at hstep
                have hLl := hT.out.2.2.1
                clear hcells hv2 hv3
                generalize ms[k] = m at *
                obtain ⟨x, f, t⟩ := m
                simp only at a0 a1 a2
                have HST := Lib.hid hstep
                have HLL := Lib.hid hLl
                clear hstep hLl
                have EX := Lib.hid (hT.out.2.1.alloc (.cells #[ci x, ci f, ci t] 29))
                have bad : Hid (¬ okMove s L (x, f, t) → R = none) := fun h => by
                  have := HST.out
                  rw [if_neg h] at this
                  exact this.symm
                by_cases h1 : x < 0
                · have d1 : decide (x < 0) = true := decide_eq_true h1
                  have hb := Lib.hid (bad.out (fun h => by have := h.1; omega))
                  clear h1
                  go_wp2_with fail
                  go_quiet (fail)
                  go_wp2_with fail
                  go_ret2
                  exact ⟨Or.inl ⟨hb.out, rfl⟩, EX.out.drewN _⟩
                · have d1 : decide (x < 0) = false := decide_eq_false h1
                  by_cases h2 : (l.length : Int) ≤ x
                  · have d2 : decide ((l.length : Int) ≤ x) = true := decide_eq_true h2
                    have hb := Lib.hid (bad.out (fun h => by have := h.2.1; simp only at this; rw [HLL.out] at this; omega))
                    clear h1 h2
                    go_wp2_with fail
                    go_quiet (fail)
                    go_wp2_with fail
                    go_ret2
                    exact ⟨Or.inl ⟨hb.out, rfl⟩, EX.out.drewN _⟩
                  · have d2 : decide ((l.length : Int) ≤ x) = false := decide_eq_false h2
                    obtain ⟨j, rfl⟩ : ∃ j : Nat, x = (j : Int) := ⟨x.toNat, by omega⟩
                    have hj : j < l.length := by omega
                    have hjL : j < L.length := by rw [HLL.out]; exact hj
                    obtain ⟨qa2, cc2, hv, hform⟩ := hT.out.1.form
                    injection hv with hv1 hv2 hv3
                    subst hv1
                    obtain ⟨g, rfl, hgB, hgs, hcj, hfj, hset⟩ := hform j hjL
                    have hgd : L.getD j 0 = L[j] := by rw [List.getD_eq_getElem?_getD, List.getElem?_eq_getElem hjL]; rfl
                    have hcj' : (wr.alloc (.cells #[ci j, ci f, ci t] 29)).cell? ⟨g, j, none⟩ = some (ci L[j]) := by rw [World.cell?_alloc_lt _ _ _ hgs]; exact hcj
                    have HSET := Lib.hid hset
                    have HGD := Lib.hid hgd
                    clear h1 h2 hform hset hv2 hv3 hgd
                    generalize L[j] = y at *
                    clear hjL
                    have bad2 : Hid (¬ (y = f ∧ 0 ≤ t ∧ t < s ∧ t ≠ f) → R = none) := fun h => bad.out (fun h' => h (by
                      obtain ⟨_, _, h3, h4⟩ := h'
                      simp only [Int.toNat_natCast] at h3 h4
                      rw [HGD.out] at h3
                      exact ⟨h3, h4⟩))
                    by_cases h3 : y = f
                    · have d3 : (y != f) = false := by simp [h3]
                      by_cases h5 : t < 0
                      · have d5 : decide (t < 0) = true := decide_eq_true h5
                        have hb := Lib.hid (bad2.out (fun h => by have := h.2.1; omega))
                        clear h3 h5
                        go_wp2_with fail
                        go_quiet (fail)
                        go_wp2_with fail
                        go_ret2
                        exact ⟨Or.inl ⟨hb.out, rfl⟩, EX.out.drewN _⟩
                      · have d5 : decide (t < 0) = false := decide_eq_false h5
                        by_cases h6 : s ≤ t
                        · have d6 : decide (s ≤ t) = true := decide_eq_true h6
                          have hb := Lib.hid (bad2.out (fun h => by have := h.2.2.1; omega))
                          clear h3 h5 h6
                          go_wp2_with fail
                          go_quiet (fail)
                          go_wp2_with fail
                          go_ret2
                          exact ⟨Or.inl ⟨hb.out, rfl⟩, EX.out.drewN _⟩
                        · have d6 : decide (s ≤ t) = false := decide_eq_false h6
                          by_cases h4 : t = f
                          · have d4 : (t == f) = true := by simp [h4]
                            have hb := Lib.hid (bad2.out (fun h => h.2.2.2 h4))
                            clear h3 h4 h5 h6
                            go_wp2_with fail
                            go_quiet (fail)
                            go_wp2_with fail
                            go_ret2
                            exact ⟨Or.inl ⟨hb.out, rfl⟩, EX.out.drewN _⟩
                          · have d4 : (t == f) = false := by simp [h4]
                            have hgo : Hid (applyAll s (L.set j t) (ms.drop (k + 1)) = R) := by
                              show _ = _
                              have := HST.out
                              rw [if_pos ⟨by simp only; omega, by simp only; rw [HLL.out]; omega, by simp only [Int.toNat_natCast]; rw [HGD.out]; exact h3, by simp only; omega, by simp only; omega, h4⟩] at this
                              simpa using this
                            clear h3 h4 h5 h6
                            go_wp2_with fail
                            go_quiet (fail)
                            go_wp2_with fail
                            go_roundw
                            case measure => simp only [intOf]; omega
                            case rel => exact ⟨k + 1, L.set j t, by omega, by go_num, (HSET.out t).alloc.drewN, ((hT.out.2.1.set hgB _).alloc _).drewN _, by rw [List.length_set]; exact HLL.out, hgo.out⟩
                    · have d3 : (y != f) = true := by simp [h3]
                      have hb := Lib.hid (bad2.out (fun h => h3 h.1))
                      clear h3
                      go_wp2_with fail
                      go_quiet (fail)
                      go_wp2_with fail
                      go_ret2
                      exact ⟨Or.inl ⟨hb.out, rfl⟩, EX.out.drewN _⟩
              · obtain rfl : ms.length = k := by omega
                have hR := hT.out.2.2.2
                rw [List.drop_length, applyAll_nil] at hR
                have HR := Lib.hid hR
                clear hk hlt hR
                go_wp2_with fail
                go_ret2
                exact ⟨Or.inr ⟨L, _, HR.out.symm, rfl, hT.out.1⟩, hT.out.2.1⟩
  · have t1 : decide ((64 : Int) < (l.length : Int)) = true := decide_eq_true (by omega)
    have hno := Lib.hid (HNO.out (crowd_short hc1))
    clear hc1
    go_enter Try.func11, Try.ntmps11
    go_wp2_with fail
    go_ret2
    exact ⟨Or.inl ⟨hno.out, rfl⟩, Ext.refl _⟩
end Go.Proofs.Ytkpjnikmcojdlaa
