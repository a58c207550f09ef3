/- Layer 8 (disk): DiskCrash's walk. -/
import Derived.Test.YtjcbmlpfpcpakaaE8h
import Derived.Test.YtjcbmlpfpcpakaaE8o
import Derived.BigQuiet
namespace Go.Proofs.Ytjcbmlpfpcpakaa
open Go.RowKit
set_option linter.unusedVariables false
set_option maxRecDepth 100000 in
set_option maxHeartbeats 4000000 in
theorem crash_bad {w : World} (n fu : Int) (wv pv sv kv : Value) (torn cut : Int) (hn : n < 1 ∨ 64 < n) :
    Calls Try.prog 4 #[ci n, ci fu, wv, pv, sv, kv, ci torn, ci cut] w fun e w' => e = .returned (.bool true) ∧ Ext w w' := by
  by_cases h2 : n < 1 ∨ 65536 < n
  · have h1 : decide (n < 1) = true ∨ (decide (n < 1) = false ∧ decide (65536 < n) = true) := by
      rcases h2 with h | h
      · exact Or.inl (decide_eq_true h)
      · exact Or.inr ⟨decide_eq_false (by omega), decide_eq_true h⟩
    have H2 := Lib.hid h2
    clear hn h2
    rcases h1 with hd1 | ⟨hd1, hd2⟩
    all_goals
      go_enter Try.func4, Try.ntmps4
      go_wp2_with (first
        | (go_at_call 23; refine (known_calls w).mono ?_
           rintro e w1 ⟨rfl, x⟩
           have X1 := Lib.hid x
           clear x)
        | (go_at_call 24; refine (new_refused _ _ H2.out).mono ?_; rintro e w98 ⟨rfl, rfl⟩)
        | (go_at_call 25; refine (num_calls _ _).mono ?_; rintro e w99 ⟨rfl, rfl⟩)
        | fail)
      go_ret
      exact ⟨rfl, X1.out⟩
  · obtain ⟨m, rfl⟩ : ∃ m : Nat, n = m := ⟨n.toNat, by omega⟩
    have hm1 : 1 ≤ m := by omega
    have hm2 : m ≤ 65536 := by omega
    have hm3 : (64 : Int) < m := by omega
    have hd : decide ((64 : Int) < m) = true := decide_eq_true hm3
    clear hn h2
    go_enter Try.func4, Try.ntmps4
    go_wp2_with (first
      | (go_at_call 23; refine (known_calls w).mono ?_
         rintro e w1 ⟨rfl, x⟩
         have X1 := Lib.hid x
         clear x)
      | (go_at_call 24; refine (DX.make hm1 hm2 w X1.out).mono ?_
         rintro e w2 ⟨rfl, h, _⟩
         have X2 := Lib.hid h.e
         clear h)
      | (go_at_call 25; refine (num_calls _ _).mono ?_; rintro e w99 ⟨rfl, rfl⟩)
      | fail)
    go_ret
    exact ⟨rfl, X2.out⟩
set_option maxRecDepth 100000 in
set_option maxHeartbeats 4000000 in
theorem crash_good {w : World} (n : Nat) (fu : Int) (wa pa sa : Option Addr) (wl wcap pc sl sc : Nat) (kv : Value) (torn cut : Int) (Q : Nat → List (BitVec 8)) (PL : List Int) (SY keep : List Bool)
    (h1 : 1 ≤ n) (h64 : n ≤ 64) (hw : RdQ w (.slice wa wl wcap) wl Q) (hp : Rd w ci (.slice pa PL.length pc) PL) (hs : Rd w Value.bool (.slice sa sl sc) SY) (hsl : SY.length = sl) (hk : Rd w Value.bool kv keep) (hkl : keep.length ≤ 9223372036854775807)
    (hwl : wl ≤ 1048576) (hpl : PL.length ≤ 1048576) (hsl2 : sl ≤ 1048576) :
    Calls Try.prog 4 #[ci n, ci fu, .slice wa wl wcap, .slice pa PL.length pc, .slice sa sl sc, kv, ci torn, ci cut] w fun e w' => e = .returned (.bool true) ∧ Ext w w' := by
  have H1 := Lib.hid h1
  have HW := Lib.hid hw
  have HP := Lib.hid hp
  have HS := Lib.hid hs
  have HSL := Lib.hid hsl
  have HK := Lib.hid hk
  have HKL := Lib.hid hkl
  have hn1 : (1 : Int) ≤ n := by omega
  have hn2 : (n : Int) ≤ 64 := by omega
  have H64 := Lib.hid h64
  have hwl' : (wl : Int) ≤ 1048576 := by omega
  have hpl' : (PL.length : Int) ≤ 1048576 := by omega
  have hsl' : (sl : Int) ≤ 1048576 := by omega
  clear hw hp hs hsl hk hkl h1 h64
  go_enter Try.func4, Try.ntmps4
  go_upto_region 11 with (first
    | (go_at_call 23; refine (known_calls w).mono ?_
       rintro e w1 ⟨rfl, x⟩
       have X1 := Lib.hid x
       clear x)
    | (go_at_call 24; refine (DX.make H1.out (Nat.le_trans H64.out (by decide)) w X1.out).mono ?_
       rintro e w2 ⟨rfl, h, _⟩
       have P2 := Lib.hid h
       clear h)
    | (go_at_call 25; refine (num_calls _ _).mono ?_; rintro e w99 ⟨rfl, rfl⟩)
    | (go_at_call 26; refine (P2.out.fuse fu).mono ?_
       rintro e w3 ⟨rfl, h, _⟩
       have P3 := Lib.hid h
       clear h P2)
    | fail)
  generalize w1.heap.size + 1 = g at *
  generalize w1.heap.size = sb at *
  go_wp2_with fail
  go_loopw [19, 20] (fun mv iv wx => ∃ (k : Nat) (d : Dk) (gv : Value) (E : List We), k ≤ wl ∧ k ≤ PL.length ∧ iv = ci k ∧ gv = mv ∧ Hid (CI w wx g sb n k gv E d)) (fun _ iv _ => ((wl : Int) - intOf iv).toNat)
  case atStart => exact ⟨0, _, _, [], Nat.zero_le _, Nat.zero_le _, rfl, rfl, ⟨P3.out, RowI.nil, rfl, rfl, Nat.le_refl _⟩⟩
  case round =>
    clear P3
    obtain ⟨k, d, gv, E, hk1, hk2, rfl, rfl, hU⟩ := hrel
    go_upto_region 11 with (fail)
    go_cut [62] (fun v wx => v = .bool (decide (k < wl ∧ k < PL.length)) ∧ wx = wr)
    case first =>
      as_aux_lemma =>
        by_cases c1 : k < wl
        · have c1' : (k : Int) < wl := by omega
          have d1 : decide ((k : Int) < wl) = true := decide_eq_true c1'
          by_cases c2 : k < PL.length
          · have c2' : (k : Int) < PL.length := by omega
            have d2 : decide ((k : Int) < PL.length) = true := decide_eq_true c2'
            have HD : Hid (decide (k < wl ∧ k < PL.length) = true) := decide_eq_true ⟨c1, c2⟩
            go_wp2_with fail
            go_meet
            exact ⟨by rw [HD.out], rfl⟩
          · have c2' : ¬ (k : Int) < PL.length := by omega
            have d2 : decide ((k : Int) < PL.length) = false := decide_eq_false c2'
            have HD : Hid (decide (k < wl ∧ k < PL.length) = false) := decide_eq_false (fun h => c2 h.2)
            go_wp2_with fail
            go_meet
            exact ⟨by rw [HD.out], rfl⟩
        · have c1' : ¬ (k : Int) < wl := by omega
          have d1 : decide ((k : Int) < wl) = false := decide_eq_false c1'
          have HD : Hid (decide (k < wl ∧ k < PL.length) = false) := decide_eq_false (fun h => c1 h.1)
          go_wp2_with fail
          go_meet
          exact ⟨by rw [HD.out], rfl⟩
    case rest =>
      obtain ⟨rfl, rfl⟩ := hcut
      by_cases hlt : k < wl ∧ k < PL.length
      · have hd : decide (k < wl ∧ k < PL.length) = true := decide_eq_true hlt
        rw [hd]
        clear hd
        have HLT := Lib.hid hlt
        obtain ⟨wa', wc', hwe, hwi⟩ := HW.out
        injection hwe with e1 _ e3
        subst e1 e3
        obtain ⟨b1, o1, u1, rfl, hc1, hq1, hql⟩ := hwi k hlt.1
        obtain ⟨b2, o2, rfl, hc2⟩ := HP.out.cell_at hlt.2
        have HC := Lib.hid (fun wx (e : Ext w wx) => And.intro (e.cell hc1) (e.cell hc2))
        have HQ1 := Lib.hid (hU.out.x.e.rd hq1)
        have HQ0 := Lib.hid hq1
        have HQL := Lib.hid hql
        have hlt1 : (k : Int) < wl := by omega
        have hlt2 : (k : Int) < PL.length := by omega
        obtain ⟨qv, qc, rfl⟩ := hq1.form
        generalize PL[k]'hlt.2 = pl at *
        generalize Q k = ql at *
        clear hwi hq1 hql hlt
        have K0' := HC.out wc hU.out.x.e
        have K0 : wc.cell? ⟨b1, o1 + k, none⟩ = some (.slice qv ql.length qc) ∧ wc.cell? ⟨b2, o2 + k, none⟩ = some (ci pl) := K0'
        clear hc1 hc2 K0'
        go_upto_region 13 with (fail)
        go_region_held3 (fun w' => w'.cell? ⟨b1, o1 + k, none⟩ = some (.slice qv ql.length qc) ∧ w'.cell? ⟨b2, o2 + k, none⟩ = some (ci pl)) (first | exact K4 | exact K0)
          (first
            | (go_at_call 27; refine ((hU.out.x.ext ((Ext.refl wc).drew)).write_any pl _ ql HQ1.out.drew HQL.out (by have h1 := hU.out.l; have h2 := hU.out.e; rw [← h2, wR_len]; omega)).mono ?_
               rintro e w4 ⟨r, d', rfl, h, kp, hcs⟩
               have P4 := Lib.hid h
               have R4 := Lib.hid ((hU.out.r.ext ((Ext.refl wc).drew)).kp kp (hU.out.x.ext ((Ext.refl wc).drew)).gb.1 (hU.out.x.ext ((Ext.refl wc).drew)).gb.2)
               have C4 := Lib.hid hcs
               have K4 := HC.out w4 h.e
               clear h kp hcs))
        go_upto_if 77 with (first
          | (go_at_call 25; refine (num_calls _ _).mono ?_; rintro e w99 ⟨rfl, rfl⟩)
          | fail)
        go_cut [19] (fun v wx => ∃ (d' : Dk) (E' : List We), Hid (CI w wx g sb n (k + 1) v E' d'))
        case first =>
          as_aux_lemma =>
            rcases C4.out with ⟨rfl, a, rfl, ha, h64, hd⟩ | ⟨hr, hd⟩
            · have HX : Hid (ql.length = 64) := h64
              have HD := Lib.hid hd
              rw [h64] at K4 HQ0 HC
              clear h64 hd ha
              go_upto_region 15 with (fail)
              have K0 := K4
              clear K4
              go_region_held3 (fun w' => w'.cell? ⟨b1, o1 + k, none⟩ = some (.slice qv 64 qc) ∧ w'.cell? ⟨b2, o2 + k, none⟩ = some (ci a)) (first | exact K7 | exact K6 _ | exact K5 | exact K0)
                (first
                  | (go_at_call 28; refine (lent_at _ ql 64 HX.out w4.drew (P4.out.e.rd HQ0.out).drew (by rw [HX.out]; decide)).mono ?_
                     rintro e w5 ⟨rfl, l, x, lt⟩
                     have X5 := Lib.hid ((Ext.refl w4).drew.trans x)
                     have L5 := Lib.hid l
                     have K5 : w5.cell? ⟨b1, o1 + k, none⟩ = some (.slice qv 64 qc) ∧ w5.cell? ⟨b2, o2 + k, none⟩ = some (ci a) := ⟨X5.out.cell K0.1, X5.out.cell K0.2⟩
                     have K6 : ∀ ob, (w5.alloc ob).cell? ⟨b1, o1 + k, none⟩ = some (.slice qv 64 qc) ∧ (w5.alloc ob).cell? ⟨b2, o2 + k, none⟩ = some (ci a) := fun ob => ⟨(Ext.of_alloc ob).cell K5.1, (Ext.of_alloc ob).cell K5.2⟩
                     have R5 := Lib.hid (fun ob => R4.out.ext (X5.out.alloc ob))
                     clear l x lt)
                  | (refine step_append_we rfl (.tmp 78) (.tmp 89) rfl w.heap.size gv E rfl (R5.out _) w5.heap.size 1 ⟨a, .slice (some ⟨w4.drew.heap.size, 0, none⟩) 64 67, ql⟩ rfl (Blk.new w5 _ 39) ⟨_, rfl, L5.out.ext (Ext.of_alloc _)⟩ HX.out (by have := hU.out.l; omega) ((P4.out.e.trans X5.out).alloc _).size ?_
                     intro rv' w7 p1 p2
                     have T := Lib.hid p1
                     have T2 := Lib.hid ((P4.out.ext (X5.out.alloc _)).row (R5.out _) p2)
                     have K7 := HC.out w7 T2.out.e
                     clear p1 p2))
              all_goals (try go_wp2_with fail)
              all_goals go_meet
              all_goals
                exact ⟨d', _, T2.out, T.out, by rw [HD.out]; exact hU.out.n, by rw [wR_app, HD.out, hU.out.e]; rfl, by rw [List.length_append]; have := hU.out.l; simp; omega⟩
            · have hb : (r == 0) = false := by simpa using hr
              have hdr : decide (r = 0) = false := decide_eq_false hr
              have HD := Lib.hid hd
              clear hd hr
              go_wp2_with fail
              go_meet
              exact ⟨d', E, P4.out, R4.out, by rw [HD.out]; exact hU.out.n, by rw [HD.out]; exact hU.out.e, by have := hU.out.l; omega⟩
        case rest =>
          obtain ⟨d', E', hV⟩ := hcut
          generalize wc = w5 at *
          go_upto_region 16 with (fail)
          go_cut [100] (fun v wx => (∃ b, v = .bool b) ∧ wx = w5)
          case first =>
            as_aux_lemma =>
              by_cases c1 : k < sl
              · have c1' : (k : Int) < sl := by omega
                have d1 : decide ((k : Int) < sl) = true := decide_eq_true c1'
                obtain ⟨b3, o3, rfl, hc3⟩ := HS.out.cell_at (i := k) (by rw [HSL.out]; exact c1)
                have hc3 := hV.out.x.e.cell hc3
                generalize SY[k]'(by rw [HSL.out]; exact c1) = b at *
                cases b
                all_goals
                  go_wp2_with fail
                  go_meet
                  exact ⟨⟨_, rfl⟩, rfl⟩
              · have c1' : ¬ (k : Int) < sl := by omega
                have d1 : decide ((k : Int) < sl) = false := decide_eq_false c1'
                go_wp2_with fail
                go_meet
                exact ⟨⟨_, rfl⟩, rfl⟩
          case rest =>
            obtain ⟨⟨b, rfl⟩, rfl⟩ := hcut
            go_upto_if 100 with (fail)
            go_cut [19] (fun v wx => ∃ (d' : Dk) (E' : List We), Hid (CI w wx g sb n (k + 1) v E' d'))
            case first =>
              as_aux_lemma =>
                cases b with
                | true =>
                  go_upto_if 105 with (first
                    | (go_at_call 29; refine (hV.out.x.sync_any).mono ?_
                       rintro e w6 ⟨r, d6, rfl, h, kp, hcs⟩
                       have P6 := Lib.hid h
                       have R6 := Lib.hid (hV.out.r.kp kp hV.out.x.gb.1 hV.out.x.gb.2)
                       have C6 := Lib.hid hcs
                       clear h kp hcs)
                    | (go_at_call 25; refine (num_calls _ _).mono ?_; rintro e w99 ⟨rfl, rfl⟩)
                    | fail)
                  rcases C6.out with ⟨rfl, hd⟩ | ⟨hr, hd⟩
                  · have HD := Lib.hid hd
                    clear hd
                    go_wp2_with fail
                    go_meet
                    exact ⟨d6, [], P6.out, RowI.nil, by rw [HD.out]; exact hV.out.n, by rw [HD.out]; rfl, Nat.zero_le _⟩
                  · have hb : (r == 0) = false := by simpa using hr
                    have hdr : decide (r = 0) = false := decide_eq_false hr
                    have HD := Lib.hid hd
                    clear hd hr
                    go_wp2_with fail
                    go_meet
                    exact ⟨d6, E', P6.out, R6.out, by rw [HD.out]; exact hV.out.n, by rw [HD.out]; exact hV.out.e, hV.out.l⟩
                | false =>
                  go_wp2_with fail
                  go_meet
                  exact ⟨d', E', hV.out⟩
            case rest =>
              obtain ⟨d7, E7, hX⟩ := hcut
              obtain ⟨ra, rc, rfl⟩ := hX.out.r.len
              have hee : d7.R.length = E7.length := by rw [← hX.out.e, wR_len]
              have HEE := Lib.hid hee
              clear hee
              go_wp2_with (first
                | (go_at_call 30; refine (hX.out.x.pending).mono ?_; rw [HEE.out]; rintro e w98 ⟨rfl, rfl⟩)
                | fail)
              exact ⟨⟨k + 1, d7, _, E7, HLT.out.1, HLT.out.2, by simp, rfl, hX.out⟩, by simp only [intOf]; omega⟩
      · have hd : decide (k < wl ∧ k < PL.length) = false := decide_eq_false hlt
        rw [hd]
        clear hd hlt
        have hok := hU.out.x.ok
        have HSd : Hid (d.S.length = 64 * n) := by have h1 := hok.s; have h2 := hU.out.n; rw [h2] at h1; exact h1
        obtain ⟨D, hD⟩ : ∃ D, crashD d keep torn cut = D := ⟨_, rfl⟩
        have HF : Hid (D.n = n ∧ D.R = [] ∧ powP D = 0 ∧ D.S.length = 64 * n) := by
          have h1 := (crashD_ok hok keep torn cut).s
          rw [hD] at h1
          have h2 : D.n = n := by rw [← hD]; exact hU.out.n
          exact ⟨h2, by rw [← hD]; rfl, by rw [← hD]; simp [powP, crashD], by rw [h2] at h1; exact h1⟩
        have HG : Hid (∀ s, s < n → ∃ m1 ∈ gL (sec d.S s) s E, ∃ m2 ∈ gL (sec d.S s) s E, ∃ q, q ≤ 64 ∧ sec D.S s = m1.take q ++ m2.drop q) := fun s hs => by
          have := crash_goes hok keep torn cut s (by rw [hU.out.n]; exact hs)
          rw [gL_may, hU.out.e, ← hD]
          exact this
        have HD := Lib.hid hD
        have HEL : Hid ((E.length + 1) * 24 ≤ 140737488355328) := by have := hU.out.l; show _ ≤ _; omega
        clear hD hok
        generalize wc = w7b at *
        go_upto_region 25 with (first
          | (go_at_call 31; have hq := hU.out; clear hq; refine (hU.out.x.image).mono ?_
             rintro e w8 ⟨v8, rfl, h, x, o⟩
             have P8 := Lib.hid h
             have R8 := Lib.hid (hU.out.r.ext x)
             have O8 := Lib.hid o
             clear h x o hU)
          | (go_at_call 32; have hq := P8.out; clear hq; refine (P8.out.crash kv keep torn cut (P8.out.e.rd HK.out) HKL.out (keep_apart P8.out HK.out)).mono ?_
             rw [HD.out]
             rintro e w9 ⟨rfl, h, kp⟩
             have P9 := Lib.hid h
             have R9 := Lib.hid (R8.out.kp kp P8.out.gb.1 P8.out.gb.2)
             have O9 := Lib.hid (O8.out.kp kp P8.out.gb.1 P8.out.gb.2)
             clear h kp P8 R8 O8)
          | (go_at_call 31; have hq := P9.out; clear hq; refine (P9.out.image).mono ?_
             rintro e w10 ⟨v10, rfl, h, x, o⟩
             have P10 := Lib.hid h
             have R10 := Lib.hid (R9.out.ext x)
             have O10 := Lib.hid (x.own O9.out)
             have I10 := Lib.hid o
             clear h x o P9 R9 O9)
          | fail)
        obtain ⟨gv1, cv1, rfl, _, _, hcv1, hcm1⟩ := O10.out.has (by rw [HSd.out]; have := H1.out; omega)
        obtain ⟨gv2, cv2, rfl, _, _, hcv2, hcm2⟩ := I10.out.has (by rw [HF.out.2.2.2]; have := H1.out; omega)
        rw [HSd.out] at O10 hcv1
        rw [HF.out.2.2.2] at I10 hcv2
        rw [HSd.out, HF.out.2.2.2]
        go_wp2_with (first
          | (go_at_call 30; refine (P10.out.pending).mono ?_; rw [HF.out.2.1]; rintro e w98 ⟨rfl, rfl⟩)
          | fail)
        generalize w7b.heap.size = Bx1 at *
        generalize w9.heap.size = Bx2 at *
        go_loopw [25] (fun jv wx => ∃ j : Nat, j ≤ n ∧ jv = ci j ∧ Hid (DX w wx g sb D ∧ Own wx Bx1 5 cb (.slice (some ⟨gv1, 0, none⟩) (64 * n) cv1) d.S ∧ Own wx Bx2 5 cb (.slice (some ⟨gv2, 0, none⟩) (64 * n) cv2) D.S ∧ RowI wx w.heap.size gv E)) (fun jv _ => ((n : Int) - intOf jv).toNat)
        case atStart => exact ⟨0, Nat.zero_le _, rfl, P10.out, O10.out, I10.out, R10.out⟩
        case round =>
          clear P10 O10 I10 R10
          obtain ⟨j, hj, rfl, hV⟩ := hrel
          by_cases hjl : j < n
          · have hj' : (j : Int) < n := by omega
            have hlen := Lib.hid (sec_len HF.out.2.2.2 hjl)
            have g1 : ((64 : Int) * j).toNat = 64 * j := by omega
            have g2 : ((64 : Int) * j + 64).toNat = 64 * j + 64 := by omega
            have g3 : 64 * j + 64 ≤ cv1 := by omega
            have g4 : ¬ cv1 = 64 * j := by omega
            have g5 : 64 * j + 64 ≤ cv2 := by omega
            have g6 : ¬ cv2 = 64 * j := by omega
            have hcm1' : (cv1 : Int) ≤ 9223372036854775807 := by unfold maxLen at hcm1; omega
            have hcm2' : (cv2 : Int) ≤ 9223372036854775807 := by unfold maxLen at hcm2; omega
            have CC1 : Hid (64 ≤ cv1 - 64 * j ∧ cv1 - 64 * j ≤ maxLen) := ⟨by omega, by omega⟩
            obtain ⟨ra, rc, rfl⟩ := hV.out.2.2.2.len
            go_wp2_with (first
              | (go_at_call 33; refine (hV.out.1.read j HF.out.2.2.1 (by rw [HF.out.1]; exact hjl)).mono ?_
                 rw [read_nil_row HF.out.2.1]
                 rintro e w11 ⟨rfl, h, x, bk⟩
                 have P11 := Lib.hid h
                 have B11 := Lib.hid bk
                 have O11 := Lib.hid (x.own hV.out.2.1)
                 have I11 := Lib.hid (x.own hV.out.2.2.1)
                 have R11 := Lib.hid (hV.out.2.2.2.ext x)
                 clear h x bk)
              | (go_at_call 25; refine (num_calls _ _).mono ?_; rintro e w99 ⟨rfl, rfl⟩)
              | (go_at_call 34; refine (same_calls _ _ (sec D.S j) (sec D.S j) _ (B11.out.rdv hlen.out.symm) (I11.out.sub HF.out.2.2.2 hjl _) (by rw [hlen.out]; decide) (by rw [hlen.out]; decide)).mono ?_
                 rw [decide_eq_true rfl]
                 rintro e w12 ⟨rfl, n12, h12⟩
                 have X12 : Hid (Ext w11 w12) := by rw [← h12]; exact (Ext.refl w11).drewN n12
                 clear h12)
              | (go_at_call 35; refine (goes_calls gv1 (64 * j) (cv1 - 64 * j) (sec d.S j) _ 0 64 (sec D.S j) j _ E (range_ext ((O11.out.sub HSd.out hjl 0).rng (by rw [sec_len HSd.out hjl]; decide)) X12.out) (sec_len HSd.out hjl) CC1.out (range_ext ((B11.out.rdv (n := 64) (c := 64) hlen.out.symm).rng (by rw [hlen.out]; decide)) X12.out) hlen.out ⟨by decide, by decide⟩ (R11.out.ext X12.out).rdw HEL.out (HG.out j hjl)).mono ?_
                 rintro e w13 ⟨rfl, x⟩
                 have X13 := Lib.hid (X12.out.trans x)
                 clear x X12)
              | fail)
            go_roundw
            case measure => simp only [intOf]; omega
            exact ⟨j + 1, hjl, by simp, P11.out.ext X13.out, X13.out.own O11.out, X13.out.own I11.out, R11.out.ext X13.out⟩
          · have hje : j = n := by omega
            subst hje
            have HA := Lib.hid (hV.out.1.ext (Ext.of_alloc (.cells #[.bool true, .bool true] 4)))
            have HI := Lib.hid (hV.out.2.2.1.alloc (o := .cells #[.bool true, .bool true] 4))
            have HT := Lib.hid (two_rd wr)
            have HL : Hid ((Value.slice (some ⟨wr.heap.size, 0, none⟩) 2 2).ownBlock ≠ some sb) := fun e => by
              have e : wr.heap.size = sb := Option.some.inj e
              have := hV.out.1.slt
              omega
            have hl2 : Hid (D.S.length ≤ 9223372036854775807) := by have := HF.out.2.2.2; show _ ≤ _; omega
            go_wp2_with (first
              | (go_at_call 32; refine (HA.out.crash _ [true, true] 0 1 HT.out (by decide) (Or.inr HL.out)).mono ?_
                 rintro e w14 ⟨rfl, h, kp⟩
                 have P14 := Lib.hid h
                 have I14 := Lib.hid (HI.out.kp kp HA.out.gb.1 HA.out.gb.2)
                 clear h kp HA HI HT)
              | (go_at_call 31; refine (P14.out.image).mono ?_
                 rw [crash_nil_row HF.out.2.1]
                 rintro e w15 ⟨v15, rfl, h, x, o⟩
                 have P15 := Lib.hid h
                 have O15 := Lib.hid o
                 have I15 := Lib.hid (x.own I14.out)
                 clear h x o P14 I14)
              | (go_at_call 34; refine (same_calls _ _ D.S D.S _ O15.out.rd I15.out.rd hl2.out hl2.out).mono ?_
                 rw [decide_eq_true rfl]
                 rintro e w16 ⟨rfl, n16, rfl⟩
                 have X16 := Lib.hid (P15.out.e.drewN n16)
                 clear P15 O15 I15)
              | fail)
            go_ret
            exact ⟨rfl, X16.out⟩
theorem diskCrash_walk' {w : World} (n fu : Int) (wa pa sa : Option Addr) (wl wcap pl pc sl sc : Nat) (kv : Value) (torn cut : Int) (Q : Nat → List (BitVec 8)) (PL : List Int) (SY keep : List Bool)
    (hw : RdQ w (.slice wa wl wcap) wl Q) (hp : Rd w ci (.slice pa pl pc) PL) (hs : Rd w Value.bool (.slice sa sl sc) SY) (hk : Rd w Value.bool kv keep) (hkl : keep.length ≤ 9223372036854775807)
    (hwl : wl ≤ 1048576) (hpl : pl ≤ 1048576) (hsl2 : sl ≤ 1048576) :
    Calls Try.prog 4 #[ci n, ci fu, .slice wa wl wcap, .slice pa pl pc, .slice sa sl sc, kv, ci torn, ci cut] w fun e w' => e = .returned (.bool true) ∧ Below w.heap.size w w' := by
  by_cases hn : n < 1 ∨ 64 < n
  · exact (crash_bad n fu _ _ _ kv torn cut hn).mono fun e w' ⟨a, b⟩ => ⟨a, b.to⟩
  · obtain ⟨m, rfl⟩ : ∃ m : Nat, n = m := ⟨n.toNat, by omega⟩
    have e1 : PL.length = pl := by
      obtain ⟨_, _, e⟩ := hp.form
      injection e with _ e _
      exact e.symm
    have e2 : SY.length = sl := by
      obtain ⟨_, _, e⟩ := hs.form
      injection e with _ e _
      exact e.symm
    subst e1
    exact (crash_good m fu wa pa sa wl wcap pc sl sc kv torn cut Q PL SY keep (by omega) (by omega) hw hp hs e2 hk hkl hwl hpl hsl2).mono fun e w' ⟨a, b⟩ => ⟨a, b.to⟩
end Go.Proofs.Ytjcbmlpfpcpakaa
