/- LoadBounds: the walk of the law. -/
import Derived.Test.YtjgdeijodjihlaaD9q
import Derived.Deep.QuietTactic
import Derived.BigQuiet
import Derived.IntWalk
import Derived.Deep.DeepCutAuto
namespace Go.Proofs.Ytjgdeijodjihlaa
open Go.RowKit
open Ieee
set_option linter.unusedVariables false

theorem good_gb {x : Nat} (hg : good x) : gb x = true := by
  have hg' := hg
  unfold good inf64 at hg'
  rcases read_cases x (by omega) with ⟨s, m, p, hr, h0, _⟩ | ⟨s, hr, h0, _⟩ | ⟨s, f, hr, h1⟩
  · have := h0 (by omega)
    subst this
    unfold gb Format.order
    rw [show FloatKind.f64.format.read x = _ from hr, show FloatKind.f64.format.read 0 = _ from read_zero]
    simp only [Datum.order, signed_false, Nat.zero_shiftLeft]
    rcases Nat.eq_zero_or_pos (m <<< (p - min p D64.leastPlace).toNat) with h | h
    · rw [h]; simp
    · have : (0 : Int) < ((m <<< (p - min p D64.leastPlace).toNat : Nat) : Int) := by omega
      rw [show ((0 : Nat) : Int) = 0 from rfl, cmp_gt this]; rfl
  · have := h0 (by omega)
    subst this
    unfold gb Format.order
    rw [show FloatKind.f64.format.read x = _ from hr, show FloatKind.f64.format.read 0 = _ from read_zero]
    rfl
  · omega
set_option maxRecDepth 100000 in
set_option maxHeartbeats 2000000 in
theorem bounds_bad (n h : Int) (sv : Value) (W : World) (hf : fitB n h = false) :
    Calls Try.prog 8 #[ci n, ci h, sv] W fun e w' => e = .returned (.bool true) ∧ Ext W w' := by
  have HK := Lib.hid (known_calls W)
  have HM := Lib.hid (fun w => made_bad n h sv w hf)
  have HF := Lib.hid (fun w => fit_calls n h w)
  rw [hf] at HF
  clear hf
  go_enter Try.func8, Try.ntmps8
  go_wp2_with (first
    | (go_at_call 9; refine HK.out.mono ?_; clear HK; rintro e w1 ⟨rfl, h1⟩; have E1 := Lib.hid h1; clear h1)
    | (go_at_call 10; refine (HM.out _).mono ?_; rintro e w2 ⟨rfl, rfl⟩)
    | (go_at_call 11; refine (HF.out _).mono ?_; clear HF; rintro e w2 ⟨rfl, rfl⟩)
    | fail)
  go_ret
  exact ⟨rfl, E1.out⟩
theorem Own.spn' {α : Type} {w : World} {B : Nat} {T : TypeId} {f : α → Value} {v : Value} {l : List α} {N : Nat} (h : Own w B T f v l) (hl : l.length = N) (h0 : 0 < N) : ∃ g c, v = .slice (some ⟨g, 0, none⟩) N c ∧ N ≤ c ∧ c ≤ maxLen ∧ ∀ i, (hi : i < l.length) → w.cell? ⟨g, i, none⟩ = some (f l[i]) := by
  subst hl
  obtain ⟨g, c, cur, e, _, hg, h1, h2, h3⟩ := h.form1 h0
  exact ⟨g, c, e, h1, h2, fun i hi => by rw [cell_of_row w g i cur T (0, 0) hg]; exact h3 i hi⟩
set_option maxRecDepth 100000 in
set_option maxHeartbeats 8000000 in
theorem bounds_fit (n h : Int) (sv : Value) (l : List Sc) (W : World) (hf : fitB n h = true) (hs : RdS W sv l) (hl : l.length * 40 ≤ 140737488351232) :
    Calls Try.prog 8 #[ci n, ci h, sv] W fun e w' => e = .returned (.bool true) ∧ Ext W w' := by
  have hn := (fitB_iff n h).1 hf
  obtain ⟨N, rfl⟩ : ∃ k : Nat, n = (k : Int) := ⟨n.toNat, by omega⟩
  obtain ⟨D, rfl⟩ : ∃ k : Nat, h = (k : Int) := ⟨h.toNat, by omega⟩
  have hbn := run_bnd N D l hl
  have HK := Lib.hid (known_calls W)
  have HM := Lib.hid (fun w (e : Ext W w) => made_fit (N : Int) (D : Int) sv l w hf (hs.ext e) (by omega))
  simp only [Int.toNat_natCast] at HM
  have hlen : (runM (newM N D) 0 l).1.L.length = N := by
    have : ∀ (l : List Sc) (m : Mt) (c : Int), (runM m c l).1.L.length = m.L.length := fun l => by
      induction l with
      | nil => intro m c; rfl
      | cons o r ih => intro m c; rw [runM_cons, ih, setP_len]
    rw [this]
    unfold newM
    simp
  obtain ⟨m1, hm1⟩ : ∃ M, (runM (newM N D) 0 l).1 = M := ⟨_, rfl⟩
  rw [hm1] at HM hbn hlen
  obtain ⟨ck, hck⟩ : ∃ c, (runM (newM N D) 0 l).2 = c := ⟨_, rfl⟩
  rw [hck] at HM
  have hN1 : (1 : Int) ≤ N := hn.1
  have hN2 : (N : Int) ≤ 64 := hn.2.1
  have HL := Lib.hid hlen
  have HB := Lib.hid (hbn.row (by omega))
  have HBW := Lib.hid (hbn.win (by omega))
  have HLK := Lib.hid like_calls
  clear hf hs hl hn hm1 hck hbn hlen
  go_enter Try.func8, Try.ntmps8
  go_wp2_with (first
    | (go_at_call 9; refine HK.out.mono ?_; clear HK; rintro e w1 ⟨rfl, h1⟩; have E1 := Lib.hid h1; clear h1)
    | (go_at_call 10; refine (HM.out _ E1.out).mono ?_; clear HM; rintro e w2 ⟨g, lb, rfl, h1, h2, h3, h4⟩
       have M2 := Lib.hid h3
       have E2 := Lib.hid (E1.out.trans h4)
       have R2 := Lib.hid (row_calls g lb m1 w2 h3)
       clear h1 h2 h3 h4 E1)
    | (go_at_call 12; refine R2.out.mono ?_; clear R2; rintro e w3 ⟨v3, rfl, h1, h2⟩
       obtain ⟨ga, ca, rfl, la1, la2, hca⟩ := h1.spn' HL.out (by omega)
       have HC := Lib.hid hca
       have M3 := Lib.hid (M2.out.ext h2)
       have E3 := Lib.hid (E2.out.trans h2)
       have hcm : (ca : Int) ≤ 9223372036854775807 := by simp only [maxLen] at la2; omega
       clear h1 h2 hca la2 M2 E2)
    | fail)
  have hok := M3.out.ok
  have HGL := Lib.hid hok.gl
  have HGW := Lib.hid hok.gw
  have hNL := HL.out
  have SB := Lib.hid (bd_mono (sumF_bd m1.L 83 0 (bd_zero _) (Nat.le_refl _) HB.out (by omega)) (show 83 + m1.L.length ≤ 147 by omega))
  clear hok
  go_loopw [10, 11, 12] (fun sv tv iv wx => ∃ (i t s d : Nat), i ≤ N ∧ iv = .int .i64 i ∧ tv = .int .i64 t ∧ sv = cf s ∧ wx = w3.drewN d ∧ t < N ∧ Hid (good s ∧ sumF s (m1.L.drop i) = sumF 0 m1.L ∧ topF m1.L t i (m1.L.drop i) = topF m1.L (-1) 0 m1.L)) (fun _ _ iv _ => (N - (intOf iv).toNat))
  case atStart => exact ⟨0, 0, 0, 0, by omega, rfl, rfl, rfl, rfl, by omega, good0, by rw [List.drop_zero], by rw [List.drop_zero]; exact top_first (by omega)⟩
  case round =>
    obtain ⟨i, t, s, d, hi, rfl, rfl, rfl, rfl, ht, hT⟩ := hrel
    by_cases hlt : i < N
    · have hil : i < m1.L.length := by omega
      have htl : t < m1.L.length := by omega
      have hci : w3.cell? ⟨ga, i, none⟩ = some (cf m1.L[i]) := HC.out i hil
      have hct : w3.cell? ⟨ga, t, none⟩ = some (cf m1.L[t]) := HC.out t htl
      have HO := Lib.hid (fun (m' : Nat) => (of_calls g lb m1 i (w3.drewN m') (M3.out.ext ((Ext.refl _).drewN m'))).mono fun _ _ h => show _ ∧ ∃ n, (w3.drewN m').drewN n = _ from ⟨h.1, 0, h.2⟩)
      have hof : ofP m1 (i : Int) = m1.L[i] := by
        unfold ofP
        rw [if_pos (by omega), Int.toNat_natCast, List.getD_eq_getElem?_getD, List.getElem?_eq_getElem hil]; rfl
      rw [hof] at HO
      have HQ := Lib.hid (fun (m' : Nat) => (HLK.out m1.L[i] (w3.drewN m')).mono fun _ _ h => show _ ∧ ∃ n, (w3.drewN m').drewN n = _ from ⟨h.1, 0, h.2⟩)
      have hg := HGL.out m1.L[i] (List.getElem_mem _)
      have hgb := good_gb hg
      have hst := hT.out.2.1
      have htp := hT.out.2.2
      rw [dropcons hil, sumF_cons] at hst
      rw [dropcons hil, topF_cons, decide_eq_false (show ¬ ((t : Int) < 0) by omega), Bool.false_or, Int.toNat_natCast] at htp
      have hgd : m1.L.getD t 0 = m1.L[t] := by rw [List.getD_eq_getElem?_getD, List.getElem?_eq_getElem htl]; rfl
      rw [hgd] at htp
      obtain ⟨ha, hgz⟩ := fadd_eq hT.out.1 (Or.inl hg)
      have hadd := fun w => run_float_arith (P := Try.prog) w .add 33 .f64 _ _ _ ha
      generalize m1.L[i] = x at *
      generalize m1.L[t] = y at *
      have hge : (FloatKind.f64.format.order x 0 == some .gt || FloatKind.f64.format.order x 0 == some .eq) = true := (gb_eq x).symm.trans hgb
      have HST := Lib.hid (And.intro hgz hst)
      clear hst hT hof hgd hgb hg ha hgz
      cases hgt : gtB x y with
      | true =>
        have hgt' : (FloatKind.f64.format.order x y == some .gt) = true := (gtB_eq _ _).symm.trans hgt
        rw [hgt, if_pos rfl] at htp
        have HTP := Lib.hid htp
        clear htp hgt
        go_wp2_with fail
        go_quiet ((first | (go_at_call 20; exact quiet_add HO.out _ _) | (go_at_call 19; exact quiet_add HQ.out _ _)))
        go_wp2_with fail
        go_quiet (fail)
        go_wp2_with fail
        go_roundw
        case measure => simp only [intOf]; omega
        case rel => exact ⟨i + 1, i, _, _, by omega, by go_num, rfl, rfl, rfl, by omega, HST.out.1, HST.out.2, HTP.out⟩
      | false =>
        have hgt' : (FloatKind.f64.format.order x y == some .gt) = false := (gtB_eq _ _).symm.trans hgt
        rw [hgt, if_neg Bool.false_ne_true] at htp
        have HTP := Lib.hid htp
        clear htp hgt
        go_wp2_with fail
        go_quiet ((first | (go_at_call 20; exact quiet_add HO.out _ _) | (go_at_call 19; exact quiet_add HQ.out _ _)))
        go_wp2_with fail
        go_quiet (fail)
        go_wp2_with fail
        go_roundw
        case measure => simp only [intOf]; omega
        case rel => exact ⟨i + 1, t, _, _, by omega, by go_num, rfl, rfl, rfl, ht, HST.out.1, HST.out.2, HTP.out⟩
    · obtain rfl : N = i := by omega
      have hs0 : s = sumF 0 m1.L := by have := hT.out.2.1; rw [List.drop_of_length_le (by omega), sumF_nil] at this; exact this
      have ht0 : (t : Int) = topF m1.L (-1) 0 m1.L := by have := hT.out.2.2; rw [List.drop_of_length_le (by omega), topF_nil] at this; exact this
      have hl1 : 1 ≤ m1.L.length := by omega
      have hl2 : m1.L.length ≤ 64 := by omega
      have hmq := (mean_bd HB.out hl1 hl2).1
      have hquo := fun w => run_float_arith (P := Try.prog) w .quo 33 .f64 _ _ _ hmq
      have hrun := len_run m1.L.length (by omega)
      rw [hNL] at hrun hquo
      obtain ⟨WN, hWN⟩ : ∃ x, wholeW N = x := ⟨_, rfl⟩
      rw [hWN] at hrun hquo
      have hgS : good (sumF 0 m1.L) := by rw [← hs0]; exact hT.out.1
      have hz := eq_zero_iff SB.out (by omega) hgS
      have HZ := Lib.hid (spread_zero HB.out HGL.out hl1 hl2)
      have hsp := (gb_eq _).symm.trans (good_gb (spread_fin HB.out hl1 hl2).2.2)
      have M4 := Lib.hid (M3.out.ext ((Ext.refl w3).drewN d))
      have E4 := Lib.hid (E3.out.drewN d)
      have HSU := Lib.hid (fun w (h : MB w g lb m1) => sum_calls g lb m1 w h)
      have HME := Lib.hid (fun w (h : MB w g lb m1) => mean_calls g lb m1 w h HB.out)
      have HTO := Lib.hid (fun w (h : MB w g lb m1) => top_calls g lb m1 w h)
      have HSP := Lib.hid (fun w (h : MB w g lb m1) => spread_calls g lb m1 w h HB.out)
      have HWV := Lib.hid (fun w (h : MB w g lb m1) => wave_calls g lb m1 w h HBW.out)
      rw [← hs0] at hquo HSU hz HZ
      rw [← ht0] at HTO
      obtain ⟨Q, hQ⟩ : ∃ x, meanP m1.L = x := ⟨_, rfl⟩
      obtain ⟨Z, hZ⟩ : ∃ x, spreadP m1.L = x := ⟨_, rfl⟩
      rw [hQ] at hquo HME
      rw [hZ] at hsp HSP HZ
      obtain ⟨w4, hw4⟩ : ∃ w, w3.drewN d = w := ⟨_, rfl⟩
      rw [hw4] at M4 E4 ⊢
      clear hs0 ht0 hmq hgS hT hWN hQ hZ hw4 HC SB hi hlt
      go_upto_region 18 with (fail)
      go_cut [110] (fun c wx => c = .bool false ∧ Hid (MB wx g lb m1 ∧ Ext W wx))
      case first =>
        by_cases hs : s = 0
        · subst hs
          have hz1 := hz.trans (decide_eq_true rfl)
          have hZ0 := HZ.out rfl
          subst hZ0
          have hne : (FloatKind.f64.format.order 0 0 != some .eq) = false := by kernel_rfl
          clear hz HZ
          go_wp2_with
          (first
          | (go_at_call 27; refine (HSU.out _ M4.out).mono ?_; rintro e w5 ⟨rfl, h1⟩
             have M5 := Lib.hid (M4.out.ext h1)
             have E5 := Lib.hid (E4.out.trans h1)
             clear h1 M4 E4 HSU)
          | (go_at_call 28; refine (HME.out _ M5.out).mono ?_; rintro e w6 ⟨rfl, h1⟩
             have M6 := Lib.hid (M5.out.ext h1)
             have E6 := Lib.hid (E5.out.trans h1)
             clear h1 M5 E5 HME)
          | (go_at_call 29; refine (HTO.out _ M6.out).mono ?_; rintro e w7 ⟨rfl, h1⟩
             have M7 := Lib.hid (M6.out.ext h1)
             have E7 := Lib.hid (E6.out.trans h1)
             clear h1 M6 E6 HTO)
          | (go_at_call 26; refine (HSP.out _ M7.out).mono ?_; rintro e w8 ⟨rfl, h1⟩
             have M8 := Lib.hid (M7.out.ext h1)
             have E8 := Lib.hid (E7.out.trans h1)
             clear h1 M7 E7)
          | (go_at_call 26; refine (HSP.out _ M8.out).mono ?_; rintro e w9 ⟨rfl, h1⟩
             have M9 := Lib.hid (M8.out.ext h1)
             have E9 := Lib.hid (E8.out.trans h1)
             clear h1 M8 E8 HSP)
          | (go_at_call 19; refine (HLK.out _ _).mono ?_; rintro e w10 ⟨rfl, rfl⟩)
          | fail)
          go_meet
          exact ⟨rfl, M9.out, E9.out⟩
        · have hz1 := hz.trans (decide_eq_false hs)
          clear hz HZ hs
          go_wp2_with
          (first
          | (go_at_call 27; refine (HSU.out _ M4.out).mono ?_; rintro e w5 ⟨rfl, h1⟩
             have M5 := Lib.hid (M4.out.ext h1)
             have E5 := Lib.hid (E4.out.trans h1)
             clear h1 M4 E4 HSU)
          | (go_at_call 28; refine (HME.out _ M5.out).mono ?_; rintro e w6 ⟨rfl, h1⟩
             have M6 := Lib.hid (M5.out.ext h1)
             have E6 := Lib.hid (E5.out.trans h1)
             clear h1 M5 E5 HME)
          | (go_at_call 29; refine (HTO.out _ M6.out).mono ?_; rintro e w7 ⟨rfl, h1⟩
             have M7 := Lib.hid (M6.out.ext h1)
             have E7 := Lib.hid (E6.out.trans h1)
             clear h1 M6 E6 HTO)
          | (go_at_call 26; refine (HSP.out _ M7.out).mono ?_; rintro e w8 ⟨rfl, h1⟩
             have M8 := Lib.hid (M7.out.ext h1)
             have E8 := Lib.hid (E7.out.trans h1)
             clear h1 M7 E7)
          | (go_at_call 26; refine (HSP.out _ M8.out).mono ?_; rintro e w9 ⟨rfl, h1⟩
             have M9 := Lib.hid (M8.out.ext h1)
             have E9 := Lib.hid (E8.out.trans h1)
             clear h1 M8 E8 HSP)
          | (go_at_call 19; refine (HLK.out _ _).mono ?_; rintro e w10 ⟨rfl, rfl⟩)
          | fail)
          go_meet
          exact ⟨rfl, M8.out, E8.out⟩
      case rest =>
        obtain ⟨rfl, hME⟩ := hcut
        have HV := Lib.hid (HWV.out wc hME.out.1)
        have EC := Lib.hid hME.out.2
        obtain ⟨o0, o1, o2, o3, o4, o5, o6, o7, hwv⟩ := eight (wave m1.win) (by unfold wave; simp)
        have hok8 := hME.out.1.ok.w8
        have HO := Lib.hid (fun w (e : Ext wc w) (i : Int) => of_calls g lb m1 i w (hME.out.1.ext e))
        have hat : ∀ k, k < 8 → ([o0, o1, o2, o3, o4, o5, o6, o7] : List (Nat × Nat))[k]? = some (wvF k 0 (0, 0) m1.win) := fun k hk => by rw [← hwv]; exact wave_at _ _ hk
        have a0 : o0 = wvF 0 0 (0, 0) m1.win := Option.some.inj (hat 0 (by omega))
        have a4 : o4 = wvF 4 0 (0, 0) m1.win := Option.some.inj (hat 4 (by omega))
        have b0 : o0.2 = 0 := by rw [a0]; exact wvF_flat 0 flat0 m1.win 0 0 HBW.out HGW.out
        have b4 : o4.2 = 0 := by rw [a4]; exact wvF_flat 4 flat4 m1.win 0 0 HBW.out HGW.out
        have g0 : good o0.1 := by rw [a0]; exact wvF_zero_good m1.win 0 0 0 HBW.out HGW.out good0
        have hge := (gb_eq _).symm.trans (good_gb g0)
        have hne : (FloatKind.f64.format.order 0 0 != some .eq) = false := by kernel_rfl
        have HMI := Lib.hid (fun k (h1 : 1 ≤ k) (h7 : k ≤ 7) => wave_mirror m1.win HBW.out hok8 k h1 h7)
        have HAT := Lib.hid hat
        rw [hwv] at HV
        rw [show V cx [o0, o1, o2, o3, o4, o5, o6, o7] = #[cx o0, cx o1, cx o2, cx o3, cx o4, cx o5, cx o6, cx o7] from by unfold V; rfl] at HV
        obtain ⟨p0, q0⟩ := o0
        obtain ⟨p4, q4⟩ := o4
        simp only at b0 b4 hge
        subst b0 b4
        clear hwv hat a0 a4 g0 hME hz HZ hsp hquo hrun HSU HME HTO HSP HWV
        go_wp2_with (first
          | (go_at_call 21; refine HV.out.mono ?_; clear HV; rintro e w11 ⟨rfl, h1⟩
             have E11 := Lib.hid h1
             clear h1)
          | fail)
        have hbl := Blk.new w11 #[cx (p0, 0), cx o1, cx o2, cx o3, cx (p4, 0), cx o5, cx o6, cx o7] 48
        have e12 := Ext.of_alloc (w := w11) (.cells #[cx (p0, 0), cx o1, cx o2, cx o3, cx (p4, 0), cx o5, cx o6, cx o7] 48)
        obtain ⟨w12, hw12⟩ : ∃ z, w11.alloc (.cells #[cx (p0, 0), cx o1, cx o2, cx o3, cx (p4, 0), cx o5, cx o6, cx o7] 48) = z := ⟨_, rfl⟩
        have HW12 := Lib.hid hw12
        rw [hw12] at hbl e12
        obtain ⟨sw, hsw⟩ : ∃ b, w11.heap.size = b := ⟨_, rfl⟩
        rw [hsw] at hbl
        rw [HW12.out, hsw]
        have HCL := Lib.hid (fun k (hk : k < 8) => show w12.cell? ⟨sw, k, none⟩ = some (cx (wvF k 0 (0, 0) m1.win)) by
          rw [hbl.cell, show (#[cx (p0, 0), cx o1, cx o2, cx o3, cx (p4, 0), cx o5, cx o6, cx o7] : Array Value) = V cx [(p0, 0), o1, o2, o3, (p4, 0), o5, o6, o7] from by unfold V; rfl, V_get, HAT.out k hk]
          rfl)
        have E12 := Lib.hid (E11.out.trans e12)
        clear hw12 hsw hbl e12 hge hne
        go_loopw [14] (fun iv wx => ∃ (k d : Nat), 1 ≤ k ∧ k ≤ 8 ∧ iv = .int .i64 k ∧ wx = w12.drewN d) (fun iv _ => (8 - (intOf iv).toNat))
        case atStart => exact ⟨1, 0, by omega, by omega, rfl, rfl⟩
        case round =>
          obtain ⟨k, d, hk1, hk, rfl, rfl⟩ := hrel
          by_cases hlt : k < 8
          · have hlt' : (k : Int) < 8 := by omega
            obtain ⟨j, hj⟩ : ∃ j, 8 - k = j := ⟨_, rfl⟩
            have hj' : (8 : Int) - (k : Int) = (j : Int) := by omega
            have hjw : IntKind.i64.wrap ((8 : Int) - (k : Int)) = (j : Int) := by rw [hj']; exact IntWalk.i64_in _ (by omega)
            have hj8 : (j : Int) < 8 := by omega
            have hck := HCL.out k hlt
            have hcj := HCL.out j (by omega)
            obtain ⟨m1', m2'⟩ := HMI.out k hk1 (by omega)
            rw [hj] at m1' m2'
            generalize wvF k 0 (0, 0) m1.win = A at *
            generalize wvF j 0 (0, 0) m1.win = B at *
            obtain ⟨A1, A2⟩ := A
            obtain ⟨B1, B2⟩ := B
            simp only at m1' m2' hck hcj
            have n1 : (FloatKind.f64.format.order A1 B1 != some .eq) = false := by rw [m1']; rfl
            have n2 : (FloatKind.f64.format.order A2 (Op.negFloat .f64 B2) != some .eq) = false := by rw [m2']; rfl
            have hneg : ∀ w, (Op.unary .neg (.float .f64 B2)).run Try.prog w = .ok (.float .f64 (Op.negFloat .f64 B2)) w := fun w => rfl
            obtain ⟨C2, hC2⟩ : ∃ x, Op.negFloat .f64 B2 = x := ⟨_, rfl⟩
            rw [hC2] at n2 hneg
            clear m1' m2' hC2 hj
            go_wp2_with fail
            go_quiet (fail)
            go_wp2_with fail
            go_roundw
            case measure => simp only [intOf]; omega
            case rel => exact ⟨k + 1, _, by omega, by omega, by go_num, rfl⟩
          · obtain rfl : k = 8 := by omega
            have X := Lib.hid ((Ext.refl wc).trans (E12.out.drewN d))
            have O1 := Lib.hid (HO.out _ X.out (-1))
            have O2 := Lib.hid (HO.out _ X.out N)
            rw [show ofP m1 (-1) = 0 by unfold ofP; rw [if_neg (by omega)]] at O1
            rw [show ofP m1 (N : Int) = 0 by unfold ofP; rw [if_neg (by omega)]] at O2
            have hee : (FloatKind.f64.format.order 0 0 == some .eq) = true := by kernel_rfl
            go_wp2_with (first
              | (go_at_call 20; refine O1.out.mono ?_; clear O1; rintro e w13 ⟨rfl, rfl⟩)
              | (go_at_call 20; refine O2.out.mono ?_; clear O2; rintro e w13 ⟨rfl, rfl⟩)
              | fail)
            go_ret
            exact ⟨rfl, EC.out.trans X.out⟩
theorem bounds_walk (n h : Int) (sv : Value) (l : List Sc) (W : World) (hs : RdS W sv l) (hl : l.length * 40 ≤ 140737488351232) :
    Calls Try.prog 8 #[ci n, ci h, sv] W fun e w' => e = .returned (.bool true) ∧ Below W.heap.size W w' := by
  cases hf : fitB n h with
  | true => exact (bounds_fit n h sv l W hf hs hl).mono fun e w' ⟨h1, h2⟩ => ⟨h1, h2.to⟩
  | false => exact (bounds_bad n h sv W hf).mono fun e w' ⟨h1, h2⟩ => ⟨h1, h2.to⟩
end Go.Proofs.Ytjgdeijodjihlaa
