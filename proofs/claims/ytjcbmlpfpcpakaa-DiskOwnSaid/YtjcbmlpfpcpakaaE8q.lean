/- Layer 8 (disk): DiskOwn's walk where the image is right. -/
import Derived.Test.YtjcbmlpfpcpakaaE8o
import Derived.IntWalk
namespace Go.Proofs.Ytjcbmlpfpcpakaa
open Go.RowKit
set_option linter.unusedVariables false
theorem Try.u24 : Try.prog.underlying 24 = some (.slice 36) := by kernel_rfl
theorem Try.info36 : (Try.prog.info? 36).map (fun i => (i.zero, i.size, i.bytes)) = some (some (.slice none 0 0), 1, 24) := by kernel_rfl
set_option maxRecDepth 100000 in
set_option maxHeartbeats 4000000 in
theorem own_good {w : World} (ia : Option Addr) (ic : Nat) (da : Option Addr) (dc' : Nat) (img dat : List (BitVec 8)) (sector : Int) (n N : Nat) (hi : Rd w cb (.slice ia (64 * n) ic) img) (hin : img.length = 64 * n) (h1 : 1 ≤ n) (h2 : n ≤ 65536) (hic : 64 * n ≤ ic) (him : ic ≤ maxLen)
    (hd : Rd w cb (.slice da N dc') dat) (hN : dat.length = N) (hdm : dat.length ≤ 140737488351232) (hsec : -9223372036854775808 ≤ sector ∧ sector ≤ 9223372036854775807) :
    Calls Try.prog 5 #[.slice ia (64 * n) ic, ci sector, .slice da N dc'] w fun e w' => e = .returned (.bool true) ∧ Ext w w' := by
  obtain ⟨i5, j1, j2, j3, j4⟩ := info_parts Try.info5
  have hz : i5.zero = some (cb 0#8) := j2
  obtain ⟨i36, q1, q2, q3, q4⟩ := info_parts Try.info36
  have HI := Lib.hid hi
  have HN := Lib.hid hin
  have HM : Hid (img.length ≤ 140737488351232) := by show _ ≤ _; omega
  have H1 := Lib.hid h1
  have H2 := Lib.hid h2
  have HD := Lib.hid hd
  have HDN := Lib.hid hN
  have HDM := Lib.hid hdm
  have hn1 : 1 ≤ (n : Int) := by omega
  have hn2 : (n : Int) ≤ 65536 := by omega
  have hic' : 64 * (n : Int) ≤ ic := by omega
  have him' : (ic : Int) ≤ 9223372036854775807 := by unfold maxLen at him; omega
  have hmx : 64 * n ≤ maxLen := by unfold maxLen; omega
  clear hi hin hd hN hdm h1 h2 him
  go_enter Try.func5, Try.ntmps5
  go_upto_region 10 with (first
    | (go_at_call 23; refine (known_calls w).mono ?_
       rintro e w1 ⟨rfl, x⟩
       have X1 := Lib.hid x
       clear x)
    | (go_at_call 28; refine (lent_at _ img (64 * n) HN.out w1 (X1.out.rd HI.out) HM.out).mono ?_
       rintro e w2 ⟨rfl, l, x, lt⟩
       have L2 := Lib.hid l
       have X2 := Lib.hid (X1.out.trans x)
       have Z2 := Lib.hid lt
       clear l x lt)
    | (go_at_call 36; refine (DX.load H1.out H2.out HN.out (by obtain ⟨b, o, c, e, hr⟩ := L2.out.rd.range (by rw [HN.out]; have := H1.out; omega); unfold lentV at e; injection e with e _ _; injection e with e; injection e with e1 e2 _; subst e1 e2; exact hr) (by omega) w X2.out).mono ?_
       rintro e w3 ⟨rfl, h, x⟩
       have P3 := Lib.hid h
       have L3 := Lib.hid (L2.out.ext x)
       clear h x)
    | (go_at_call 25; refine (num_calls _ _).mono ?_; rintro e w99 ⟨rfl, rfl⟩)
    | (go_at_call 37; refine (over_calls _ _ _ img marks 5 w3 L3.out HN.out.symm (by rw [HN.out]; unfold maxLen at hmx; omega)).mono ?_
       rintro e w4 ⟨rfl, b, k⟩
       have P4 := Lib.hid (P3.out.other L3.out (by have := Z2.out; omega) (by have := Z2.out; omega) (by decide) X1.out.size (grown_only k))
       clear b k P3 L3)
    | (go_at_call 31; refine (P4.out.image).mono ?_
       rintro e w5 ⟨v5, rfl, h, x, o⟩
       have P5 := Lib.hid h
       have O5 := Lib.hid o.rd
       clear h x o P4)
    | (go_at_call 34; refine (same_calls _ _ img img w5 O5.out (P5.out.e.rd HI.out) (by rw [HN.out]; unfold maxLen at hmx; omega) (by rw [HN.out]; unfold maxLen at hmx; omega)).mono ?_
       rw [decide_eq_true rfl]
       rintro e w6 ⟨rfl, n6, rfl⟩
       have P6 := Lib.hid (P5.out.drewN n6)
       clear P5 O5)
    | fail)
  generalize w2.heap.size + 1 = g at *
  generalize w2.heap.size = sb at *
  generalize w5.drewN n6 = w7 at *
  have HS : Hid (Calls Try.prog 38 #[.pointer (some ⟨g, 0, none⟩)] w7 fun e w' => e = .returned (ci n) ∧ w7 = w') := P6.out.sectors
  have hz : ¬ n = 0 := by omega
  go_upto_region 11 with (first
    | (go_at_call 38; refine HS.out.mono ?_; rintro e w98 ⟨rfl, rfl⟩)
    | fail)
  iterate 10 (first | go_values | go_skip | go_guarded | go_step)
  go_cut [10] (fun v wx => v = ci (plc sector n) ∧ wx = w7)
  case first =>
    as_aux_lemma =>
      have ht1 := Int.tmod_lt_of_pos sector (show (0 : Int) < n by omega)
      have ht2 := Int.lt_tmod_of_pos sector (show (0 : Int) < n by omega)
      have hw : wrap64 (sector.tmod n + n) = sector.tmod n + n := by unfold wrap64; omega
      have hpl : ((plc sector n : Nat) : Int) = if sector.tmod n < 0 then sector.tmod n + n else sector.tmod n := by unfold plc; split <;> omega
      by_cases h0 : sector.tmod n < 0
      · rw [if_pos h0] at hpl
        have hd0 : decide (sector.tmod n < 0) = true := decide_eq_true h0
        have HPL := Lib.hid hpl
        clear hpl
        go_wp2_with (first
          | (go_at_call 38; refine HS.out.mono ?_; rintro e w98 ⟨rfl, rfl⟩)
          | fail)
        go_meet
        exact ⟨congrArg ci HPL.out.symm, rfl⟩
      · rw [if_neg h0] at hpl
        have hd0 : decide (sector.tmod n < 0) = false := decide_eq_false h0
        have HPL := Lib.hid hpl
        clear hpl
        go_wp2_with fail
        go_meet
        exact ⟨congrArg ci HPL.out.symm, rfl⟩
  case rest =>
    obtain ⟨rfl, rfl⟩ := hcut
    clear HS hz hsec
    obtain ⟨k, hk⟩ : ∃ k, plc sector n = k := ⟨_, rfl⟩
    have HK : Hid (k < n) := hk ▸ plc_lt sector H1.out
    rw [hk]
    clear hk
    have hpl := own_plain (dat := dat) HN.out H1.out H2.out HK.out
    have hr0 : (loadedD n img).read k = sec img k := read_nil_row rfl k
    have hr2 : (syncD (wrD (loadedD n img) k dat)).read k = sec (syncD (wrD (loadedD n img) k dat)).S k := read_nil_row hpl.2.2.1 k
    have FS : Hid ((sec img k).length = 64) := sec_len HN.out HK.out
    have hm0 : ((loadedD n img).R.length + 1) * 72 ≤ 140737488355328 := by show (0 + 1) * 72 ≤ _; decide
    obtain ⟨d0, hd0⟩ : ∃ d, loadedD n img = d := ⟨_, rfl⟩
    have F0 : Hid (d0.n = n ∧ d0.S = img ∧ powP d0 = 0) := by subst hd0; exact ⟨rfl, rfl, by simp [powP, loadedD]⟩
    rw [hd0] at P6 hpl hr0 hr2 hm0
    have F1 : Hid (powP (wrD d0 k dat) = 0) := by
      unfold wrD
      split
      · subst hd0; show powP _ = 0; simp [powP, writeD, loadedD]
      · exact F0.out.2.2
    obtain ⟨d1, hd1⟩ : ∃ d, wrD d0 k dat = d := ⟨_, rfl⟩
    rw [hd1] at hpl hr2 F1
    obtain ⟨d2, hd2⟩ : ∃ d, syncD d1 = d := ⟨_, rfl⟩
    rw [hd2] at hpl hr2
    have F2 := Lib.hid hpl
    have R0 := Lib.hid hr0
    have R2 := Lib.hid hr2
    have G1 := Lib.hid hd1
    have G2 := Lib.hid hd2
    have M0 := Lib.hid hm0
    have FT : Hid ((sec d2.S k).length = 64) := sec_len F2.out.2.2.2.1 HK.out
    clear hd0 hd1 hd2 hpl hr0 hr2 hm0
    obtain ⟨S2, hS2⟩ : ∃ S, d2.S = S := ⟨_, rfl⟩
    rw [hS2] at FT R2 F2
    have HS2 := Lib.hid hS2
    clear hS2
    have HS0' : Hid (∀ (w' : World) (b o c c' : Nat), Rd w' cb (.slice (some ⟨b, o, none⟩) (64 * n) c) img → Rd w' cb (.slice (some ⟨b, o + 64 * k, none⟩) 64 c') (sec img k)) := fun w' b o c c' h => h.sub HN.out HK.out c'
    have HSS' : Hid (∀ (w' : World) (b c c' : Nat), Rd w' cb (.slice (some ⟨b, 0, none⟩) (64 * n) c) S2 → Rd w' cb (.slice (some ⟨b, 64 * k, none⟩) 64 c') (sec S2 k)) := fun w' b c c' h => by
      have := h.sub F2.out.2.2.2.1 HK.out c'
      rwa [Nat.zero_add] at this
    generalize sec S2 k = s2 at *
    generalize sec img k = s0 at *
    have ZG : Hid (g < wc.heap.size ∧ sb < wc.heap.size ∧ w.heap.size ≤ wc.heap.size) := ⟨by obtain ⟨⟨_, hb⟩, _⟩ := P6.out.gb; exact hb.lt, P6.out.slt, P6.out.e.size⟩
    go_upto_region 22 with (first
      | (go_at_call 31; have hq := P6.out; clear hq; refine (P6.out.image).mono ?_
         rw [F0.out.2.1]
         rintro e w8 ⟨va, rfl, h, x, o⟩
         have P8 := Lib.hid h
         have A8 := Lib.hid (o.sp.ro (by rw [HN.out]; have := H1.out; omega) 132)
         have LA : Hid (∀ y, va.ownBlock = some y → wc.heap.size ≤ y ∧ y < w8.heap.size) := fun y hy => o.lt y hy
         clear h x o P6)
      | (go_at_call 33; have hq := P8.out; clear hq; refine (P8.out.read k F0.out.2.2 (by rw [F0.out.1]; exact HK.out)).mono ?_
         rw [R0.out]
         rintro e w9 ⟨rfl, h, x, b⟩
         have P9 := Lib.hid h
         have A9 := Lib.hid (A8.out.ext x)
         have B9 := Lib.hid (Blk.ro (T := 5) b FS.out.symm (by decide))
         have Z9 : Hid (wc.heap.size ≤ w8.heap.size ∧ w8.heap.size < w9.heap.size) := ⟨by obtain ⟨y, hy⟩ := A8.out.own; have := LA.out y hy; omega, b.lt⟩
         clear h x b P8 A8)
      | (go_at_call 33; have hq := P9.out; clear hq; refine (P9.out.read k F0.out.2.2 (by rw [F0.out.1]; exact HK.out)).mono ?_
         rw [R0.out]
         rintro e w10 ⟨rfl, h, x, b⟩
         have P10 := Lib.hid h
         have A10 := Lib.hid (A9.out.ext x)
         have B10 := Lib.hid (B9.out.ext x)
         have C10 := Lib.hid (Blk.ro (T := 5) b FS.out.symm (by decide))
         have Z10 := Lib.hid b.lt
         clear h x b P9 A9 B9)
      | (go_at_call 28; have hq := P10.out; clear hq; refine (lent_at _ dat N HDN.out w10 (P10.out.e.rd HD.out) HDM.out).mono ?_
         rintro e w11 ⟨rfl, l, x, lt⟩
         have L11 := Lib.hid l
         have P11 := Lib.hid (P10.out.ext x)
         have A11 := Lib.hid (A10.out.ext x)
         have B11 := Lib.hid (B10.out.ext x)
         have C11 := Lib.hid (C10.out.ext x)
         have Z11 := Lib.hid lt
         clear l x lt P10 A10 B10 C10)
      | (go_at_call 27; have hq := P11.out; clear hq
         go_loud (
           refine (wr_any P11.out k _ _ dat N HDN.out F0.out.2.2 (by rw [F0.out.1]; exact HK.out) (by have := HDM.out; unfold maxLen; omega) (by have := L11.out.rd; rw [HDN.out] at this; exact this) M0.out).mono ?_
           rw [G1.out]
           rintro e w12 ⟨r12, rfl, h, kp⟩
           have P12 := Lib.hid h
           have z1 := ZG.out
           have z2 := Z9.out
           have z3 := Z10.out
           have A12 := Lib.hid (A11.out.kp kp P11.out.gb.1 (fun e => by have := LA.out _ e; omega))
           have B12 := Lib.hid (B11.out.kp kp P11.out.gb.1 (fun e => by have he : w8.heap.size = sb := Option.some.inj e; omega))
           have C12 := Lib.hid (C11.out.kp kp P11.out.gb.1 (fun e => by have he : w9.heap.size = sb := Option.some.inj e; omega))
           have L12 : Hid (LentAt w12 w10.heap.size dat) := kp.2 _ _ _ L11.out (by omega) (by omega) (by decide)
           have Z12 := Lib.hid kp.1
           clear h kp P11 A11 B11 C11 L11 z1 z2 z3))
      | (go_at_call 37; have hq := P12.out; clear hq; refine (over_calls _ _ _ dat marks 5 w12 L12.out HDN.out.symm (by have := HDM.out; omega)).mono ?_
         rintro e w13 ⟨rfl, b, kg⟩
         have z1 := ZG.out
         have z2 := Z9.out
         have z3 := Z10.out
         have P13 := Lib.hid (P12.out.other L12.out (by omega) (by omega) (by decide) (by omega) (grown_only kg))
         have A13 := Lib.hid (A12.out.grown kg (fun e => by have := LA.out _ e; omega))
         have B13 := Lib.hid (B12.out.grown kg (fun e => by have he : w8.heap.size = w10.heap.size := Option.some.inj e; omega))
         have C13 := Lib.hid (C12.out.grown kg (fun e => by have he : w9.heap.size = w10.heap.size := Option.some.inj e; omega))
         have Z13 := Lib.hid kg.size
         clear b kg P12 A12 B12 C12 L12 z1 z2 z3)
      | (go_at_call 29; have hq := P13.out; clear hq; refine (P13.out.sync F1.out).mono ?_
         rw [G2.out]
         rintro e w14 ⟨rfl, h, kp⟩
         have P14 := Lib.hid h
         have z1 := ZG.out
         have z2 := Z9.out
         have z3 := Z10.out
         have A14 := Lib.hid (A13.out.kp kp P13.out.gb.1 (fun e => by have := LA.out _ e; omega))
         have B14 := Lib.hid (B13.out.kp kp P13.out.gb.1 (fun e => by have he : w8.heap.size = sb := Option.some.inj e; omega))
         have C14 := Lib.hid (C13.out.kp kp P13.out.gb.1 (fun e => by have he : w9.heap.size = sb := Option.some.inj e; omega))
         have Z14 := Lib.hid kp.1
         clear h kp P13 A13 B13 C13 z1 z2 z3)
      | (go_at_call 31; have hq := P14.out; clear hq; refine (P14.out.image).mono ?_
         rw [HS2.out]
         rintro e w15 ⟨vh, rfl, h, x, o⟩
         have P15 := Lib.hid h
         have A15 := Lib.hid (A14.out.ext x)
         have B15 := Lib.hid (B14.out.ext x)
         have C15 := Lib.hid (C14.out.ext x)
         have D15 := Lib.hid (o.sp.ro (by rw [F2.out.2.2.2.1]; have := H1.out; omega) 132)
         have LH : Hid (∀ y, vh.ownBlock = some y → w10.heap.size < y ∧ y < w15.heap.size) := fun y hy => by
           have := o.lt y hy
           have := Z11.out
           have := Z12.out
           have := Z13.out
           have := Z14.out
           omega
         clear h x o P14 A14 B14 C14 Z12 Z13 Z14)
      | (go_at_call 33; have hq := P15.out; clear hq; refine (P15.out.read k F2.out.2.1 (by rw [F2.out.1]; exact HK.out)).mono ?_
         rw [R2.out]
         rintro e w16 ⟨rfl, h, x, b⟩
         have P16 := Lib.hid h
         have A16 := Lib.hid (A15.out.ext x)
         have B16 := Lib.hid (B15.out.ext x)
         have C16 := Lib.hid (C15.out.ext x)
         have D16 := Lib.hid (D15.out.ext x)
         have E16 := Lib.hid (Blk.ro (T := 5) b FT.out.symm (by decide))
         have Z16 : Hid (w10.heap.size < w15.heap.size) := by obtain ⟨y, hy⟩ := D15.out.own; have := LH.out y hy; show _ < _; omega
         clear h x b P15 A15 B15 C15 D15)
      | fail)
    obtain ⟨b0, o0, c0, hia, _⟩ := HI.out.range (by have := HN.out; have := H1.out; omega)
    injection hia with hia hib hic2
    subst hia
    clear hib hic2
    obtain ⟨ga, ca, hva, hca, hcam, _⟩ := A16.out.form
    rw [HN.out] at hva hca
    subst hva
    obtain ⟨gh, ch, hvh, hch, hchm, _⟩ := D16.out.form
    rw [F2.out.2.2.2.1] at hvh hch
    subst hvh
    have HS0 : Hid (∀ w', Rd w' cb (.slice (some ⟨b0, o0, none⟩) (64 * n) ic) img → Rd w' cb (.slice (some ⟨b0, o0 + 64 * k, none⟩) 64 (ic - 64 * k)) s0) := fun w' h => HS0'.out w' _ _ _ _ h
    have HSS : Hid (∀ w', Rd w' cb (.slice (some ⟨gh, 0, none⟩) (64 * n) ch) S2 → Rd w' cb (.slice (some ⟨gh, 64 * k, none⟩) 64 (ch - 64 * k)) s2) := fun w' h => HSS'.out w' _ _ _ h
    have g0 : (k : Int) < n := by have := HK.out; omega
    have g1 : ((64 : Int) * k).toNat = 64 * k := by omega
    have g2 : ((64 : Int) * k + 64).toNat = 64 * k + 64 := by omega
    have g3 : 64 * k + 64 ≤ ic := by omega
    have g4 : ¬ ic = 64 * k := by omega
    have g5 : 64 * k + 64 ≤ ch := by omega
    have g6 : ¬ ch = 64 * k := by omega
    have hchm' : (ch : Int) ≤ 9223372036854775807 := by unfold maxLen at hchm; omega
    go_upto_region 24 with (first
      | (go_at_call 25; refine (num_calls _ _).mono ?_; rintro e w99 ⟨rfl, rfl⟩)
      | (go_at_call 34; have hq := P16.out; clear hq; refine (same_calls _ _ img img w16 A16.out.rd (P16.out.e.rd HI.out) (by rw [HN.out]; unfold maxLen at hmx; omega) (by rw [HN.out]; unfold maxLen at hmx; omega)).mono ?_
         rw [decide_eq_true rfl]
         rintro e w17 ⟨rfl, n17, h17⟩
         have X17 : Hid (Ext w16 w17) := by rw [← h17]; exact (Ext.refl w16).drewN n17
         have P17 := Lib.hid (P16.out.ext X17.out)
         clear h17 P16)
      | (go_at_call 34; have hq := P17.out; clear hq; refine (same_calls _ _ s0 s0 w17 (B16.out.ext X17.out).rd (HS0.out _ (P17.out.e.rd HI.out)) (by rw [FS.out]; decide) (by rw [FS.out]; decide)).mono ?_
         rw [decide_eq_true rfl]
         rintro e w18 ⟨rfl, n18, h18⟩
         have X18 : Hid (Ext w16 w18) := by rw [← h18]; exact X17.out.drewN n18
         have P18 := Lib.hid (P17.out.drewN n18)
         rw [h18] at P18
         clear h18 P17 X17)
      | (go_at_call 34; have hq := P18.out; clear hq; refine (same_calls _ _ s0 s0 w18 (C16.out.ext X18.out).rd (B16.out.ext X18.out).rd (by rw [FS.out]; decide) (by rw [FS.out]; decide)).mono ?_
         rw [decide_eq_true rfl]
         rintro e w19 ⟨rfl, n19, h19⟩
         have X19 : Hid (Ext w16 w19) := by rw [← h19]; exact X18.out.drewN n19
         have P19 := Lib.hid (P18.out.drewN n19)
         rw [h19] at P19
         clear h19 P18 X18)
      | (go_at_call 34; have hq := P19.out; clear hq; refine (same_calls _ _ s2 s2 w19 (E16.out.ext X19.out).rd (HSS.out _ (D16.out.ext X19.out).rd) (by rw [FT.out]; decide) (by rw [FT.out]; decide)).mono ?_
         rw [decide_eq_true rfl]
         rintro e w20 ⟨rfl, n20, h20⟩
         have X20 : Hid (Ext w16 w20) := by rw [← h20]; exact X19.out.drewN n20
         have P20' := Lib.hid (P19.out.drewN n20)
         rw [h20] at P20'
         have P20 : Hid (Ext w16 w20 ∧ DX w w20 g sb d2) := ⟨X20.out, P20'.out⟩
         clear h20 P19 X19 X20 P20')
      | fail)
    go_cut [163] (fun v wx => v = .bool false ∧ Hid (Ext w16 wx ∧ DX w wx g sb d2))
    case first =>
      as_aux_lemma =>
        by_cases h64 : N = 64
        · have e2 : s2 = dat := by rw [F2.out.2.2.2.2, if_pos (HDN.out.trans h64)]
          have E2 := Lib.hid e2
          have hb : ((N : Int) == 64) = true := by simp; omega
          have hb2 : ((N : Int) != 64) = false := by simp; omega
          clear h64 e2
          go_wp2_with (first
            | (go_at_call 34; refine (same_calls _ _ s2 dat _ (E16.out.ext (P20.out.1)).rd (P20.out.2.e.rd HD.out) (by rw [FT.out]; decide) (by have := HDM.out; omega)).mono ?_
               rw [decide_eq_true E2.out]
               rintro e w21 ⟨rfl, n21, h21⟩
               have X21 : Hid (Ext w16 w21 ∧ DX w w21 g sb d2) := ⟨by rw [← h21]; exact P20.out.1.drewN n21, by rw [← h21]; exact P20.out.2.drewN n21⟩
               clear h21)
            | fail)
          go_meet
          exact ⟨rfl, X21.out⟩
        · have e2 : s2 = s0 := by rw [F2.out.2.2.2.2, if_neg (fun h => h64 (HDN.out.symm.trans h))]
          have E2 := Lib.hid e2
          have hb : ((N : Int) == 64) = false := by simp; omega
          have hb2 : ((N : Int) != 64) = true := by simp; omega
          clear h64 e2
          go_wp2_with (first
            | (go_at_call 34; refine (same_calls _ _ s2 s0 _ (E16.out.ext (P20.out.1)).rd (B16.out.ext P20.out.1).rd (by rw [FT.out]; decide) (by rw [FS.out]; decide)).mono ?_
               rw [decide_eq_true E2.out]
               rintro e w21 ⟨rfl, n21, h21⟩
               have X21 : Hid (Ext w16 w21 ∧ DX w w21 g sb d2) := ⟨by rw [← h21]; exact P20.out.1.drewN n21, by rw [← h21]; exact P20.out.2.drewN n21⟩
               clear h21)
            | fail)
          go_meet
          exact ⟨rfl, X21.out⟩
    case rest =>
      obtain ⟨rfl, hU⟩ := hcut
      have HW := Lib.hid (hU.out.1.alloc (.cells #[.slice (some ⟨ga, 0, none⟩) (64 * n) ca, .slice (some ⟨w8.heap.size, 0, none⟩) 64 64, .slice (some ⟨w9.heap.size, 0, none⟩) 64 64, .slice (some ⟨gh, 0, none⟩) (64 * n) ch, .slice (some ⟨w15.heap.size, 0, none⟩) 64 64] 36))
      have HP := Lib.hid (hU.out.2.ext (Ext.of_alloc (.cells #[.slice (some ⟨ga, 0, none⟩) (64 * n) ca, .slice (some ⟨w8.heap.size, 0, none⟩) 64 64, .slice (some ⟨w9.heap.size, 0, none⟩) 64 64, .slice (some ⟨gh, 0, none⟩) (64 * n) ch, .slice (some ⟨w15.heap.size, 0, none⟩) 64 64] 36)))
      have HA := Lib.hid (Blk.new wc #[.slice (some ⟨ga, 0, none⟩) (64 * n) ca, .slice (some ⟨w8.heap.size, 0, none⟩) 64 64, .slice (some ⟨w9.heap.size, 0, none⟩) 64 64, .slice (some ⟨gh, 0, none⟩) (64 * n) ch, .slice (some ⟨w15.heap.size, 0, none⟩) 64 64] 36)
      have ZZ : Hid (w15.heap.size < wc.heap.size) := by obtain ⟨y, hy⟩ := E16.out.own; have h1 := E16.out.lt _ hy; have h2 := hU.out.1.size; have h3 : w15.heap.size = y := Option.some.inj hy; show _ < _; omega
      go_upto_region 28 with (first
        | (go_at_call 28; refine (lent_at _ S2 (64 * n) F2.out.2.2.2.1 _ (D16.out.ext HW.out).rd (by rw [F2.out.2.2.2.1]; omega)).mono ?_
           rintro e w22 ⟨rfl, l, x, lt⟩
           have L22 := Lib.hid l
           have X22 := Lib.hid (HW.out.trans x)
           have P22 := Lib.hid (HP.out.ext x)
           have A22 := Lib.hid (HA.out.ext x)
           have Z22 : Hid (w15.heap.size < (wc.alloc (.cells #[.slice (some ⟨ga, 0, none⟩) (64 * n) ca, .slice (some ⟨w8.heap.size, 0, none⟩) 64 64, .slice (some ⟨w9.heap.size, 0, none⟩) 64 64, .slice (some ⟨gh, 0, none⟩) (64 * n) ch, .slice (some ⟨w15.heap.size, 0, none⟩) 64 64] 36)).heap.size) := by have := ZZ.out; show _ < (wc.heap.push _).size; rw [Array.size_push]; omega
           clear l x lt HW HP HA ZZ)
        | fail)
      have HLB : Hid ((wc.alloc (.cells #[.slice (some ⟨ga, 0, none⟩) (64 * n) ca, .slice (some ⟨w8.heap.size, 0, none⟩) 64 64, .slice (some ⟨w9.heap.size, 0, none⟩) 64 64, .slice (some ⟨gh, 0, none⟩) (64 * n) ch, .slice (some ⟨w15.heap.size, 0, none⟩) 64 64] 36)).heap.size = wc.heap.size + 1) := by show (wc.heap.push _).size = _; exact Array.size_push _
      generalize (wc.alloc (.cells #[.slice (some ⟨ga, 0, none⟩) (64 * n) ca, .slice (some ⟨w8.heap.size, 0, none⟩) 64 64, .slice (some ⟨w9.heap.size, 0, none⟩) 64 64, .slice (some ⟨gh, 0, none⟩) (64 * n) ch, .slice (some ⟨w15.heap.size, 0, none⟩) 64 64] 36)).heap.size = lb at *
      generalize wc.heap.size = ab at *
      obtain rfl : lb = ab + 1 := HLB.out
      clear HLB
      obtain ⟨vs, NN, ls0, hrw, hbs, hcl, hNN⟩   := five_made (x0 := ga) (x1 := w8.heap.size) (x2 := w9.heap.size) (x3 := gh) (x4 := w15.heap.size) (A16.out.ext X22.out) (B16.out.ext X22.out) (C16.out.ext X22.out) (D16.out.ext X22.out) (E16.out.ext X22.out) rfl rfl rfl rfl rfl (by have := LA.out ga rfl; have := LH.out gh rfl; have := Z9.out; have := Z10.out; omega) A22.out
        ⟨HN.out, FS.out, FS.out, F2.out.2.2.2.1, FT.out⟩ (by omega)
      have R0 := Lib.hid hrw
      have HCL := Lib.hid hcl
      have HRO := Lib.hid hrw.v
      have HNN := Lib.hid hNN
      have HBS : Hid (∀ j, j < 5 → ∀ x, (vs j).ownBlock = some x → w.heap.size ≤ x ∧ x ≠ g ∧ x ≠ sb ∧ x ≠ ab + 1) := fun j hj x hx => by
        have h1 := hbs j hj x hx
        have h2 := ZG.out
        have h3 := LA.out ga rfl
        have h4 := Z22.out
        omega
      clear hrw hbs hcl hNN LA LH Z9 Z10 Z22 ZG A16 B16 C16 D16 E16 A22 X22 HD HI FS FT HS0' HSS' HS0 HSS g1 g2 g3 g4 g5 g6 g0 hca hcam hch hchm hchm' hU
      go_wp2_with fail
      go_loopw [22] (fun iv wx => ∃ (i : Nat) (ls : Nat → List (BitVec 8)), i ≤ 5 ∧ iv = .int .i64 i ∧ Hid (RW w22 wx 132 5 NN vs vs ls ls ∧ ∀ j q, j < i → q < NN j → (ls j)[q]? = some (W1 j q))) (fun iv _ => (5 - (intOf iv).toNat))
      case atStart => exact ⟨0, ls0, by omega, rfl, R0.out, fun j q hj => by omega⟩
      case round =>
        clear R0
        obtain ⟨i, ls, hi, rfl, hT⟩ := hrel
        by_cases hlt : i < 5
        · have hlt' : (i : Int) < 5 := by omega
          have hnn : (NN i : Int) ≤ 4194304 := by have := HNN.out i hlt; omega
          go_wp2_with fail
          go_loopw [23] (fun kv wx => ∃ (k : Nat) (ls' : Nat → List (BitVec 8)), k ≤ NN i ∧ kv = .int .i64 k ∧ Hid (RW w22 wx 132 5 NN vs vs ls' ls' ∧ ∀ j q, (j < i ∨ (j = i ∧ q < k)) → q < NN j → (ls' j)[q]? = some (W1 j q))) (fun kv _ => (NN i - (intOf kv).toNat))
          case atStart => exact ⟨0, ls, by omega, rfl, hT.out.1, fun j q hj hq => hT.out.2 j q (by omega) hq⟩
          case round =>
            clear hT
            obtain ⟨m, ls', hm, rfl, hV⟩ := hrel
            obtain ⟨b, c, hv, hc1, hc2, hsp, hfr⟩ := hV.out.1.row i hlt
            have hc := HCL.out _ _ _ _ hV.out.1 i hlt
            rw [hv] at hc
            have hcm : (c : Int) ≤ 9223372036854775807 := by simp only [maxLen] at hc2; omega
            by_cases hlk : m < NN i
            · have hlk' : (m : Int) < NN i := by omega
              obtain ⟨y, hck, _⟩ := hsp m hlk
              have hfk := hfr m
              have hrun := W1_run i m
              have HS := Lib.hid (hV.out.1.set (W1 i m) hlt hlk (show (vs i).ownBlock = some b by rw [hv]; rfl))
              have HF : Hid (∀ j q, (j < i ∨ (j = i ∧ q < m + 1)) → q < NN j → (upd ls' i ((ls' i).set m (W1 i m)) j)[q]? = some (W1 j q)) := fun j q hj hq => by
                by_cases e : j = i
                · subst e
                  rw [upd_self, List.getElem?_set]
                  split
                  · next e => rw [if_pos (by rw [hV.out.1.len j hlt]; exact hlk), e]
                  · exact hV.out.2 j q (by omega) hq
                · rw [upd_ne _ _ e]; exact hV.out.2 j q (by omega) hq
              clear hV hv hc1 hc2 hsp hfr
              go_wp2_with fail
              go_roundw
              case measure => simp only [intOf]; omega
              case rel => exact ⟨m + 1, _, by omega, by go_num, HS.out, HF.out⟩
            · obtain rfl : m = NN i := by omega
              have HU := Lib.hid hV.out
              clear hV hv hc1 hc2 hsp hfr
              go_wp2_with fail
              go_roundw
              case measure => simp only [intOf]; omega
              case rel => exact ⟨i + 1, ls', by omega, by go_num, HU.out.1, fun j q hj hq => HU.out.2 j q (by
                by_cases e : j = i
                · subst e; exact Or.inr ⟨rfl, hq⟩
                · exact Or.inl (by omega)) hq⟩
        · obtain rfl : i = 5 := by omega
          rw [show ((5 : Nat) : Int) = 5 from rfl]
          have HT := Lib.hid hT.out
          clear hT hi hlt
          go_wp2_with fail
          go_loopw [24, 25] (fun gslot iv wx => ∃ (i : Nat) (hs : Nat → Value) (ms : Nat → List (BitVec 8)) (gv : Value) (GL : List Value), i ≤ 5 ∧ iv = .int .i64 i ∧ gv = gslot ∧ Hid (RG w22 wx 132 5 70 36 NN W1 W2 vs hs ls ms gv GL i 0)) (fun _ iv _ => (5 - (intOf iv).toNat))
          case atStart => exact ⟨0, vs, ls, _, [], by omega, rfl, rfl, RG.start HT.out.1 HT.out.2⟩
          case round =>
            obtain ⟨i, hs, ms, gv, GL, hi, rfl, rfl, hG⟩ := hrel
            by_cases hlt : i < 5
            · have hlt' : (i : Int) < 5 := by omega
              have hc := HCL.out _ _ _ _ hG.out.rw i hlt
              have hvi := Lib.hid (hG.out.here hlt rfl)
              have hnn : (NN i : Int) ≤ 4194304 := by have := HNN.out i hlt; omega
              go_wp2_with fail
              go_loopw [26, 27] (fun tv kv wx => ∃ (k : Nat) (hs' : Nat → Value) (ms' : Nat → List (BitVec 8)), k ≤ 70 ∧ kv = .int .i64 k ∧ tv = hs' i ∧ Hid (RG w22 wx 132 5 70 36 NN W1 W2 vs hs' ls ms' gv GL i k)) (fun _ kv _ => (70 - (intOf kv).toNat))
              case atStart => exact ⟨0, hs, ms, by omega, rfl, hvi.out.symm, hG.out⟩
              case round =>
                clear hG hvi hc
                obtain ⟨m, hs', ms', hm, rfl, rfl, hV⟩ := hrel
                by_cases hlk : m < 70
                · have hlk' : (m : Int) < 70 := by omega
                  have hrun := W2_run i m
                  have hV1 := hV.out.ext (Ext.of_alloc (w := wr) (.cells #[cb (W2 i m)] 5))
                  have SP := Lib.hid (hV1.rw.h i hlt)
                  have X3 : Hid ((wr.alloc (.cells #[cb (W2 i m)] 5)).cell? ⟨wr.heap.size, 0, none⟩ = some (cb (W2 i m))) := (Blk.new wr #[cb (W2 i m)] 5).cell 0
                  have BX : Hid (((ms' i).length + 1) * 1 ≤ 140737488355328) := by show _ ≤ _; rw [(hV.out.cur hlt).1]; omega
                  have MX : Hid ((ms' i).length + 1 ≤ 9223372036854775807) := by show _ ≤ _; rw [(hV.out.cur hlt).1]; omega
                  clear hV1
                  go_wp2_with (first
                    | (at_builtin; refine wpList_append_ro cb rfl (.tmp 212) (.tmp 219) 36 rfl 5 132 i5 (cb 0#8) 1 Try.u36 j1 hz j3 j4 rfl (hs' i) (ms' i) rfl SP.out wr.heap.size 1 (W2 i m) rfl X3.out rfl BX.out MX.out ?_
                       intro v' w' p1 p2 p3 p4
                       have T := Lib.hid (hV.out.app (Ext.of_alloc (w := wr) (.cells #[cb (W2 i m)] 5)) hlt (by decide) (by decide) p1 p2 p3 p4)
                       clear p1 p2 p3 p4 SP X3 BX MX hV hrun)
                    | fail)
                  go_roundw
                  case measure => simp only [intOf]; omega
                  case rel => exact ⟨m + 1, upd hs' i v', _, by omega, by go_num, (upd_self _ _ _).symm, T.out⟩
                · obtain rfl : m = 70 := by omega
                  obtain ⟨b, c, hv, _⟩ := (hV.out.rw.h i hlt).form
                  obtain ⟨sl, hsl⟩ : ∃ x, (ms' i).length = x := ⟨_, rfl⟩
                  rw [hsl] at hv
                  rw [hv]
                  have HV := Lib.hid hv
                  have OG : Hid (Own (wr.alloc (.cells #[.slice (some ⟨b, 0, none⟩) sl c] 36)) w22.heap.size 36 idv gv GL) := (Ext.of_alloc (w := wr) (.cells #[.slice (some ⟨b, 0, none⟩) sl c] 36)).own hV.out.own
                  have X4 : Hid ((wr.alloc (.cells #[.slice (some ⟨b, 0, none⟩) sl c] 36)).cell? ⟨wr.heap.size, 0, none⟩ = some (.slice (some ⟨b, 0, none⟩) sl c)) := (Blk.new wr #[.slice (some ⟨b, 0, none⟩) sl c] 36).cell 0
                  have BG : Hid ((GL.length + 1) * 24 ≤ 140737488355328) := by show _ ≤ _; rw [hV.out.gl]; omega
                  have MG : Hid (GL.length + 1 ≤ 9223372036854775807) := by show _ ≤ _; rw [hV.out.gl]; omega
                  have SG : Hid (w22.heap.size ≤ (wr.alloc (.cells #[.slice (some ⟨b, 0, none⟩) sl c] 36)).heap.size) := by
                    have h1 := hV.out.rw.only.size
                    show _ ≤ (wr.heap.push _).size
                    rw [Array.size_push]
                    omega
                  clear hv hsl
                  go_wp2_with (first
                    | (at_builtin; refine wpList_append_one idv rfl (.tmp 221) (.tmp 223) 24 rfl w22.heap.size 36 i36 (.slice none 0 0) 24 Try.u24 q1 q2 q3 q4 rfl gv GL rfl OG.out wr.heap.size 1 (.slice (some ⟨b, 0, none⟩) sl c) rfl X4.out rfl BG.out MG.out SG.out ?_
                       intro gv' w' p1 p2 p3
                       rw [← HV.out] at p1
                       have T := Lib.hid (hV.out.push (Ext.of_alloc (w := wr) (.cells #[.slice (some ⟨b, 0, none⟩) sl c] 36)) hlt (by decide) (by decide) p1 p2)
                       clear p1 p2 p3 OG X4 BG MG SG hV HV)
                    | fail)
                  go_roundw
                  case measure => simp only [intOf]; omega
                  case rel => exact ⟨i + 1, hs', ms', gv', _, by omega, by go_num, rfl, T.out⟩
            · obtain rfl : i = 5 := by omega
              rw [show ((5 : Nat) : Int) = 5 from rfl]
              obtain ⟨gg, cg, rfl, hgl, hgc⟩ := hG.out.cells (by decide)
              have HG := Lib.hid hG.out
              have HC := Lib.hid hgc
              clear hG hgc HT hi hlt
              have LB22 : Hid (∀ wx hs ls ms, RW w22 wx 132 5 NN vs hs ls ms → LentAt wx (ab + 1) S2) := fun wx hs ls ms h => h.blk L22.out (fun j hj e => (HBS.out j hj (ab + 1) e).2.2.2 rfl)
              have PD : Hid (∀ wx hs ls ms, RW w22 wx 132 5 NN vs hs ls ms → DX w wx g sb d2) := fun wx hs ls ms h => P22.out.rows h HRO.out (fun j hj x hx => ⟨(HBS.out j hj x hx).1, (HBS.out j hj x hx).2.1, (HBS.out j hj x hx).2.2.1⟩)
              go_wp2_with fail
              go_loopw [28] (fun iv wx => ∃ (i n' : Nat), i ≤ 5 ∧ iv = .int .i64 i ∧ wx = wr.drewN n') (fun iv _ => (5 - (intOf iv).toNat))
              case atStart => exact ⟨0, 0, by omega, rfl, rfl⟩
              case round =>
                obtain ⟨i, n', hi, rfl, rfl⟩ := hrel
                by_cases hlt : i < 5
                · have hlt' : (i : Int) < 5 := by omega
                  obtain ⟨b, c, hv, hc1, hc2, hf1⟩ := HG.out.cell1 i hlt
                  obtain ⟨b2, c2, hv2, hc3, hc4, hf2, hf3⟩ := HG.out.grow i hlt
                  have hca := HCL.out _ _ _ _ HG.out.rw i hlt
                  have hcg := HC.out i hlt
                  rw [hv] at hca
                  rw [hv2] at hcg
                  have HS1 := Lib.hid hf1
                  have HS2 := Lib.hid hf2
                  have HS3 := Lib.hid hf3
                  have hcm : (c : Int) ≤ 9223372036854775807 := by simp only [maxLen] at hc2; omega
                  have hcm2 : (c2 : Int) ≤ 9223372036854775807 := by simp only [maxLen] at hc4; omega
                  have hnn : (NN i : Int) ≤ 4194304 := by have := HNN.out i hlt; omega
                  clear hv hv2 hf1 hf2 hf3 hc1 hc2 hc3 hc4
                  go_wp2_with fail
                  go_loopw [30] (fun kv wx => ∃ (m n2 : Nat), m ≤ NN i ∧ kv = .int .i64 m ∧ wx = wr.drewN n2) (fun kv _ => (NN i - (intOf kv).toNat))
                  case atStart => exact ⟨0, n', by omega, rfl, rfl⟩
                  case round =>
                    obtain ⟨m, n2, hm, rfl, rfl⟩ := hrel
                    by_cases hlk : m < NN i
                    · have hlk' : (m : Int) < NN i := by omega
                      have hw1 : IntKind.i64.wrap (50 * (i : Int)) = 50 * (i : Int) := IntWalk.i64_in _ (by omega)
                      have hw2 : IntKind.i64.wrap (50 * (i : Int) + (m : Int)) = 50 * (i : Int) + (m : Int) := IntWalk.i64_in _ (by omega)
                      have hck := HS1.out m hlk
                      have hck2 := HS3.out m hlk
                      have hrun := W1_run i m
                      have hself : (W1 i m != W1 i m) = false := by simp
                      have hm70 : (m : Int) < NN i + 70 := by omega
                      go_wp2_with fail
                      go_quiet (fail)
                      go_wp2_with fail
                      go_roundw
                      case measure => simp only [intOf]; omega
                      case rel => exact ⟨m + 1, _, by omega, by go_num, rfl⟩
                    · obtain rfl : m = NN i := by omega
                      clear hlk hm
                      go_wp2_with fail
                      go_loopw [31] (fun kv wx => ∃ (m n3 : Nat), m ≤ 70 ∧ kv = .int .i64 m ∧ wx = wr.drewN n3) (fun kv _ => (70 - (intOf kv).toNat))
                      case atStart => exact ⟨0, n2, by omega, rfl, rfl⟩
                      case round =>
                        obtain ⟨m, n3, hm, rfl, rfl⟩ := hrel
                        by_cases hlk : m < 70
                        · have hlk' : (m : Int) < 70 := by omega
                          have hw1 : IntKind.i64.wrap ((NN i : Int) + (m : Int)) = (NN i : Int) + (m : Int) := IntWalk.i64_in _ (by omega)
                          have hw2 : IntKind.i64.wrap (100 + (i : Int)) = 100 + (i : Int) := IntWalk.i64_in _ (by omega)
                          have hw3 : IntKind.i64.wrap (5 * (m : Int)) = 5 * (m : Int) := IntWalk.i64_in _ (by omega)
                          have hw4 : IntKind.i64.wrap (100 + (i : Int) + 5 * (m : Int)) = 100 + (i : Int) + 5 * (m : Int) := IntWalk.i64_in _ (by omega)
                          have hck := HS2.out m hlk
                          have hrun := W2_run i m
                          have hself : (W2 i m != W2 i m) = false := by simp
                          have ht : ((NN i : Int) + (m : Int)).toNat = NN i + m := by omega
                          go_wp2_with fail
                          go_roundw
                          case measure => simp only [intOf]; omega
                          case rel => exact ⟨m + 1, _, by omega, by go_num, rfl⟩
                        · obtain rfl : m = 70 := by omega
                          rw [show ((70 : Nat) : Int) = 70 from rfl]
                          go_wp2_with fail
                          go_roundw
                          case measure => simp only [intOf]; omega
                          case rel => exact ⟨i + 1, n3, by omega, by go_num, rfl⟩
                · obtain rfl : i = 5 := by omega
                  rw [show ((5 : Nat) : Int) = 5 from rfl]
                  have PZ := Lib.hid ((PD.out _ _ _ _ HG.out.rw).drewN n')
                  have LZ := Lib.hid ((LB22.out _ _ _ _ HG.out.rw).ext ((Ext.refl wr).drewN n'))
                  clear HC
                  go_wp2_with (first
                    | (go_at_call 31; refine (PZ.out.image).mono ?_
                       rw [HS2.out]
                       rintro e w30 ⟨vz, rfl, h, x, o⟩
                       have P30 := Lib.hid h
                       have O30 := Lib.hid o.rd
                       have L30 := Lib.hid (LZ.out.ext x)
                       clear h x o)
                    | (go_at_call 34; refine (same_calls _ _ S2 S2 _ O30.out (by have := L30.out.rd; rw [F2.out.2.2.2.1] at this; exact this) (by rw [F2.out.2.2.2.1]; omega) (by rw [F2.out.2.2.2.1]; omega)).mono ?_
                       rw [decide_eq_true rfl]
                       rintro e w31 ⟨rfl, n31, h31⟩
                       have X31 : Hid (Ext w w31) := by rw [← h31]; exact P30.out.e.drewN n31
                       clear h31)
                    | fail)
                  go_ret
                  exact ⟨rfl, X31.out⟩
theorem diskOwn_walk' {w : World} (ia : Option Addr) (il ic : Nat) (da : Option Addr) (dl dc' : Nat) (img dat : List (BitVec 8)) (sector : Int)
    (hi : Rd w cb (.slice ia il ic) img) (hil : img.length = il) (hic : il ≤ ic) (him : ic ≤ maxLen) (hib : il ≤ 140737488351232) (hd : Rd w cb (.slice da dl dc') dat) (hdl : dat.length = dl) (hdb : dl ≤ 140737488351232) (hs : -9223372036854775808 ≤ sector ∧ sector ≤ 9223372036854775807) :
    Calls Try.prog 5 #[.slice ia il ic, ci sector, .slice da dl dc'] w fun e w' => e = .returned (.bool true) ∧ Below w.heap.size w w' := by
  by_cases hbad : img.length / 64 < 1 ∨ 65536 < img.length / 64 ∨ img.length ≠ img.length / 64 * 64
  · exact (own_bad _ _ img sector hi (by omega) hbad).mono fun e w' ⟨a, b⟩ => ⟨a, b.to⟩
  · obtain ⟨n, hn⟩ : ∃ n, il = 64 * n := ⟨il / 64, by omega⟩
    subst hn
    exact (own_good ia ic da dc' img dat sector n dl hi hil (by omega) (by omega) hic him hd hdl (by omega) hs).mono fun e w' ⟨a, b⟩ => ⟨a, b.to⟩
end Go.Proofs.Ytjcbmlpfpcpakaa
