/- Layer 8 (disk), the document's disk: syncs and crashes. -/
import Derived.Test.YtjcbmlpfpcpakaaE8e
namespace Go.Proofs.Ytjcbmlpfpcpakaa
open Go.RowKit
set_option linter.unusedVariables false
section
variable {w w' : World} {B g sb sc n : Nat} {pv : Value} {E : List We} {S : List (BitVec 8)} {left made synced : Int}
theorem RB.nopend (h : RB w B g sb sc pv E n S left made synced) : RB (w.setCell ⟨g, 1, none⟩ (.slice none 0 0)) B g sb sc (.slice none 0 0) [] n S left made synced := by
  have h2 := h.b.set 1 (.slice none 0 0)
  have hgr := grown_set w g 1 (.slice none 0 0)
  have hne := h.ne
  exact ⟨h2, h.s.grown hgr (fun e => hne (Option.some.inj e).symm), h.sl, h.n1, h.n2, ⟨rfl, Or.inl ⟨rfl, rfl⟩⟩, fun x hx => by cases hx⟩
theorem rsync_power (h : RB w B g sb sc pv E n S 0 made synced) : Calls Try.prog 87 #[.pointer (some ⟨g, 0, none⟩)] w fun e w' => e = .returned (ci 80) ∧ w = w' := by
  have c2 : w.cell? ⟨g, 2, none⟩ = some (ci 0) := h.b.cell 2
  clear h
  go_enter Try.func87, Try.ntmps87
  go_wp2_with fail
  go_ret
  exact ⟨rfl, rfl⟩
theorem rsync_nil (w : World) : Calls Try.prog 87 #[.pointer none] w fun e w' => e = .returned (ci 1) ∧ w = w' := by
  go_enter Try.func87, Try.ntmps87
  go_wp2_with fail
  go_ret
  exact ⟨rfl, rfl⟩
theorem wR_getD (E : List We) (k : Nat) (hk : k < E.length) : (wR E).getD k (0, []) = (E[k].s, E[k].l) := by
  rw [List.getD_eq_getElem?_getD, List.getElem?_eq_getElem (by rw [wR_length]; exact hk), wR_get E k hk]
  rfl
set_option maxRecDepth 100000 in
set_option maxHeartbeats 4000000 in
theorem rsync_ok (h : RB w B g sb sc pv E n S left made synced) (h0 : left ≠ 0) :
    Calls Try.prog 87 #[.pointer (some ⟨g, 0, none⟩)] w fun e w' => e = .returned (ci 0) ∧ RB w' B g sb sc (.slice none 0 0) [] n (applyW S (wR E)) (lessL left) made (wrap64 (synced + 1)) ∧ Only w w' (fun k => k = g ∨ k = sb) := by
  obtain ⟨pa, pc, rfl, hpc, hpm, _⟩ := h.row
  have c2 : w.cell? ⟨g, 2, none⟩ = some (ci left) := h.b.cell 2
  have hb : (left == 0) = false := by simpa using h0
  have hdd : decide (left = 0) = false := decide_eq_false h0
  have hpl : (E.length : Int) ≤ 9223372036854775807 := by unfold maxLen at hpm; omega
  have HI : Hid (RB w B g sb sc (.slice pa E.length pc) E n (applyW S ((wR E).take 0)) left made synced ∧ Only w w (· = sb)) := ⟨by rw [List.take_zero]; exact h, Only.refl _ _⟩
  have HSL := Lib.hid h.sl
  have HEE : Hid (∀ x ∈ E, x.l.length = 64 ∧ x.s < n) := fun x hx => ⟨(h.e x hx).1.l, (h.e x hx).2⟩
  clear h hpc hpm
  go_enter Try.func87, Try.ntmps87
  go_wp2_with fail
  go_loopw [3] (fun iv wx => ∃ k : Nat, k ≤ E.length ∧ iv = ci k ∧ Hid (RB wx B g sb sc (.slice pa E.length pc) E n (applyW S ((wR E).take k)) left made synced ∧ Only w wx (· = sb))) (fun iv _ => ((E.length : Int) - intOf iv).toNat)
  case atStart => exact ⟨0, Nat.zero_le _, rfl, HI.out⟩
  case round =>
    clear HI c2
    obtain ⟨k, hk, rfl, hU⟩ := hrel
    have c1 : wr.cell? ⟨g, 1, none⟩ = some (.slice pa E.length pc) := hU.out.1.b.cell 1
    by_cases hlt : k < E.length
    · have hlt' : (k : Int) < E.length := by omega
      obtain ⟨_, _, hpe, _, _, hrow⟩ := hU.out.1.row
      injection hpe with hp1 _ hp2
      subst hp1 hp2
      obtain ⟨x, rfl, hx1, hx2⟩ := hrow k hlt
      have HC := Lib.hid (carry_calls hU.out.1 E[k] (List.getElem_mem hlt) 64 (Nat.le_refl _))
      rw [carS_full _ _ _ (HEE.out _ (List.getElem_mem hlt)).1] at HC
      have hst := applyW_step S (wR E) k (by rw [wR_length]; exact hlt)
      rw [wR_getD E k hlt] at hst
      have HST := Lib.hid hst
      obtain ⟨⟨⟨g', c', hv, _⟩, _⟩, _⟩ := hU.out.1.e _ (List.getElem_mem hlt)
      rw [hv] at hx2 HC
      generalize E[k].s = xs at *
      generalize E[k].l = xl at *
      clear hst hrow hv
      go_wp2_with (first
        | (go_at_call 140; refine HC.out.mono ?_
           rintro e w1 ⟨rfl, p1, p2⟩
           have T1 := Lib.hid p1
           have T2 := Lib.hid (hU.out.2.trans p2)
           clear p1 p2 HC)
        | fail)
      go_roundw
      case measure => simp only [intOf]; omega
      case rel => exact ⟨k + 1, hlt, by go_num, by rw [HST.out]; exact T1.out, T2.out⟩
    · obtain rfl : k = E.length := by omega
      have HU := Lib.hid hU.out
      rw [List.take_of_length_le (by rw [wR_length]; exact Nat.le_refl _)] at HU
      have c1f := HU.out.1.b.free 1
      have c4 : wr.cell? ⟨g, 4, none⟩ = some (ci synced) := HU.out.1.b.cell 4
      have c4f := HU.out.1.b.free 4
      have c2 : wr.cell? ⟨g, 2, none⟩ = some (ci left) := HU.out.1.b.cell 2
      have c2f := HU.out.1.b.free 2
      have q0 := HU.out.1.nopend
      have q1 := q0.seth 4 (ci (wrap64 (synced + 1))) (.slice none 0 0) left made (wrap64 (synced + 1)) rfl
      have HO : Hid (Only w wr (fun k => k = g ∨ k = sb)) := HU.out.2.mono (fun i hi => Or.inr hi)
      by_cases hll : 0 < left
      · have hlt2 : decide (0 < left) = true := decide_eq_true hll
        have HE : Hid (lessL left = wrap64 (left - 1)) := by unfold lessL; rw [if_pos hll]; rfl
        have Q2 := Lib.hid (q1.seth 2 (ci (wrap64 (left - 1))) (.slice none 0 0) (wrap64 (left - 1)) made (wrap64 (synced + 1)) rfl)
        clear q0 q1 hU HU
        go_wp2_with fail
        go_ret
        refine ⟨rfl, ?_, ?_⟩
        · rw [HE.out]; exact Q2.out
        · exact ((HO.out.set (Or.inl rfl) _).set (Or.inl rfl) _).set (Or.inl rfl) _
      · have hlt2 : decide (0 < left) = false := decide_eq_false hll
        have HE : Hid (lessL left = left) := by unfold lessL; rw [if_neg hll]; rfl
        have Q1 := Lib.hid q1
        clear q0 q1 hU HU
        go_wp2_with fail
        go_ret
        refine ⟨rfl, ?_, ?_⟩
        · rw [HE.out]; exact Q1.out
        · exact (HO.out.set (Or.inl rfl) _).set (Or.inl rfl) _
set_option maxRecDepth 100000 in
set_option maxHeartbeats 4000000 in
theorem rcrash_ok (h : RB w B g sb sc pv E n S left made synced) (kv : Value) (keep : List Bool) (torn cut : Int) (hk : Rd w Value.bool kv keep) (hkl : keep.length ≤ 9223372036854775807) (hks : keep = [] ∨ kv.ownBlock ≠ some sb) :
    Calls Try.prog 106 #[.pointer (some ⟨g, 0, none⟩), kv, ci torn, ci cut] w fun e w' => e = .returned (.tuple #[]) ∧ RB w' B g sb sc (.slice none 0 0) [] n (crashS keep torn (cutN cut) S (wR E)) (-1) made synced ∧ Only w w' (fun k => k = g ∨ k = sb) := by
  obtain ⟨pa, pc, rfl, hpc, hpm, _⟩ := h.row
  obtain ⟨ka, kc, rfl⟩ := hk.form
  have hpl : (E.length : Int) ≤ 9223372036854775807 := by unfold maxLen at hpm; omega
  have hkl' : (keep.length : Int) ≤ 9223372036854775807 := by omega
  have HI : Hid (RB w B g sb sc (.slice pa E.length pc) E n (crashS keep torn (cutN cut) S ((wR E).take 0)) left made synced ∧ Only w w (· = sb)) := ⟨by rw [List.take_zero]; exact h, Only.refl _ _⟩
  have HSL := Lib.hid h.sl
  have HEE : Hid (∀ x ∈ E, x.l.length = 64 ∧ x.s < n) := fun x hx => ⟨(h.e x hx).1.l, (h.e x hx).2⟩
  have HK := Lib.hid hk
  have HKS := Lib.hid hks
  clear h hpc hpm hk hkl hks
  go_enter Try.func106, Try.ntmps106
  go_upto_if 12 with (fail)
  go_cut [3] (fun v wx => v = ci (if cut < 0 then 0 else cut) ∧ wx = w)
  case first =>
    by_cases c0 : cut < 0
    · have d0 : decide (cut < 0) = true := decide_eq_true c0
      go_wp2_with fail
      go_meet
      exact ⟨by rw [if_pos c0], rfl⟩
    · have d0 : decide (cut < 0) = false := decide_eq_false c0
      have C0 := Lib.hid c0
      go_wp2_with fail
      go_meet
      exact ⟨by rw [if_neg (show ¬ cut < 0 by omega)], rfl⟩
  case rest =>
    obtain ⟨rfl, rfl⟩ := hcut
    obtain ⟨c1, hc1⟩ : ∃ c1, (if cut < 0 then 0 else cut) = c1 := ⟨_, rfl⟩
    rw [hc1]
    have hcN : Hid (((cutN cut : Nat) : Int) = if 64 < c1 then 64 else c1) := by
      show _ = _
      rw [← hc1]
      unfold cutN
      split <;> split <;> omega
    clear hc1
    go_upto_if 14 with (fail)
    go_cut [3] (fun v wx => v = ci (cutN cut) ∧ wx = wc)
    case first =>
      by_cases c0 : 64 < c1
      · have d0 : decide (64 < c1) = true := decide_eq_true c0
        have hcM := Lib.hid (hcN.out.trans (if_pos c0))
        go_wp2_with fail
        go_meet
        exact ⟨by rw [hcM.out], rfl⟩
      · have d0 : decide (64 < c1) = false := decide_eq_false c0
        have hcM := Lib.hid (hcN.out.trans (if_neg c0))
        go_wp2_with fail
        go_meet
        exact ⟨by rw [hcM.out], rfl⟩
    case rest =>
      obtain ⟨rfl, rfl⟩ := hcut
      clear hcN
      have hcl := cutN_le cut
      obtain ⟨c, hcc⟩ : ∃ c, cutN cut = c := ⟨_, rfl⟩
      have HCC := Lib.hid hcc
      rw [hcc] at hcl HI ⊢
      clear hcc
      go_wp2_with fail
      go_loopw [8] (fun iv wx => ∃ k : Nat, k ≤ E.length ∧ iv = ci k ∧ Hid (RB wx B g sb sc (.slice pa E.length pc) E n (crashS keep torn c S ((wR E).take k)) left made synced ∧ Only wc wx (· = sb))) (fun iv _ => ((E.length : Int) - intOf iv).toNat)
      case atStart => exact ⟨0, Nat.zero_le _, rfl, HI.out⟩
      case round =>
        clear HI
        obtain ⟨k, hk, rfl, hU⟩ := hrel
        have c1 : wr.cell? ⟨g, 1, none⟩ = some (.slice pa E.length pc) := hU.out.1.b.cell 1
        by_cases hlt : k < E.length
        · have hlt' : (k : Int) < E.length := by omega
          obtain ⟨_, _, hpe, _, _, hrow⟩ := hU.out.1.row
          injection hpe with hp1 _ hp2
          subst hp1 hp2
          obtain ⟨x, rfl, hx1, hx2⟩ := hrow k hlt
          have HCA := Lib.hid (carry_calls hU.out.1 E[k] (List.getElem_mem hlt) c hcl)
          have HCB := Lib.hid (carry_calls hU.out.1 E[k] (List.getElem_mem hlt) 64 (Nat.le_refl _))
          rw [carS_full _ _ _ (HEE.out _ (List.getElem_mem hlt)).1] at HCB
          have hst := crashS_step keep torn c S (wR E) k (by rw [wR_length]; exact hlt)
          rw [wR_getD E k hlt] at hst
          unfold crashStep at hst
          simp only at hst
          have ht1 := carS_torn (p := (E[k].s, E[k].l)) (c := c) hU.out.1.sl (HEE.out _ (List.getElem_mem hlt)).2 (HEE.out _ (List.getElem_mem hlt)).1 hcl
          simp only at ht1
          rw [ht1] at HCA
          have HST := Lib.hid hst
          obtain ⟨⟨⟨g', c', hv, _⟩, _⟩, _⟩ := hU.out.1.e _ (List.getElem_mem hlt)
          rw [hv] at hx2 HCA HCB
          have HKR : Hid (Rd wr Value.bool (.slice ka keep.length kc) keep) := by
            rcases HKS.out with h0 | hks
            · have := HK.out
              subst h0
              exact Rd.nil_any this
            · exact hU.out.2.rd HK.out (fun i hi e => hks (by rw [hi, e]))
          generalize E[k].s = xs at *
          generalize E[k].l = xl at *
          clear hst hrow hv ht1
          by_cases ht : (k : Int) = torn
          · have hkk : ((k : Int) == torn) = true := by simpa using ht
            have HT := Lib.hid (HST.out.trans (if_pos ht))
            have htd : decide ((k : Int) = torn) = true := decide_eq_true ht
            clear HST HCB ht
            go_wp2_with (first
              | (go_at_call 140; refine HCA.out.mono ?_
                 rintro e w1 ⟨rfl, p1, p2⟩
                 have T1 := Lib.hid p1
                 have T2 := Lib.hid (hU.out.2.trans p2)
                 clear p1 p2 HCA)
              | fail)
            go_roundw
            case measure => simp only [intOf]; omega
            case rel => exact ⟨k + 1, hlt, by go_num, by rw [HT.out]; exact T1.out, T2.out⟩
          · have hkk : ((k : Int) == torn) = false := by simpa using ht
            have htd : decide ((k : Int) = torn) = false := decide_eq_false ht
            have HT := Lib.hid (HST.out.trans (if_neg ht))
            clear HST HCA
            by_cases hkp : k < keep.length
            · have hkp' : (k : Int) < keep.length := by omega
              have hkd : decide ((k : Int) < keep.length) = true := decide_eq_true hkp'
              obtain ⟨bv, ov, rfl, hcell⟩ := HKR.out.cell_at hkp
              have hge : keep.getD k false = keep[k] := by simp [List.getD_eq_getElem?_getD, hkp]
              rw [hge] at HT
              cases hv : keep[k] with
              | true =>
                rw [hv] at hcell HT
                have HT2 := Lib.hid (HT.out.trans (if_pos rfl))
                clear HT hv hge
                go_wp2_with (first
                  | (go_at_call 140; refine HCB.out.mono ?_
                     rintro e w1 ⟨rfl, p1, p2⟩
                     have T1 := Lib.hid p1
                     have T2 := Lib.hid (hU.out.2.trans p2)
                     clear p1 p2 HCB)
                  | fail)
                go_roundw
                case measure => simp only [intOf]; omega
                case rel => exact ⟨k + 1, hlt, by go_num, by rw [HT2.out]; exact T1.out, T2.out⟩
              | false =>
                rw [hv] at hcell HT
                have HT2 := Lib.hid (HT.out.trans (if_neg Bool.false_ne_true))
                clear HT hv hge HCB
                go_wp2_with fail
                go_roundw
                case measure => simp only [intOf]; omega
                case rel => exact ⟨k + 1, hlt, by go_num, by rw [HT2.out]; exact hU.out.1, hU.out.2⟩
            · have hkp' : ¬ (k : Int) < keep.length := by omega
              have hkd : decide ((k : Int) < keep.length) = false := decide_eq_false hkp'
              have hge : keep.getD k false = false := by simp [List.getD_eq_getElem?_getD, List.getElem?_eq_none (show keep.length ≤ k by omega)]
              rw [hge] at HT
              have HT2 := Lib.hid (HT.out.trans (if_neg Bool.false_ne_true))
              clear HT hge HCB
              go_wp2_with fail
              go_roundw
              case measure => simp only [intOf]; omega
              case rel => exact ⟨k + 1, hlt, by go_num, by rw [HT2.out]; exact hU.out.1, hU.out.2⟩
        · obtain rfl : k = E.length := by omega
          have HU := Lib.hid hU.out
          rw [List.take_of_length_le (by rw [wR_length]; exact Nat.le_refl _)] at HU
          have c1f := HU.out.1.b.free 1
          have c2 : wr.cell? ⟨g, 2, none⟩ = some (ci left) := HU.out.1.b.cell 2
          have c2f := HU.out.1.b.free 2
          have q0 := HU.out.1.nopend
          have Q1 := Lib.hid (q0.seth 2 (ci (-1)) (.slice none 0 0) (-1) made synced rfl)
          have HO : Hid (Only wc wr (fun k => k = g ∨ k = sb)) := HU.out.2.mono (fun i hi => Or.inr hi)
          clear q0 hU HU
          go_wp2_with fail
          go_end0
          exact ⟨rfl, by rw [HCC.out]; exact Q1.out, (HO.out.set (Or.inl rfl) _).set (Or.inl rfl) _⟩
end
end Go.Proofs.Ytjcbmlpfpcpakaa
