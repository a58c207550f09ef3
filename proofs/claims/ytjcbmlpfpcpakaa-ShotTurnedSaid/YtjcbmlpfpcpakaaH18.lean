/- Layer 12 (shot): ShotTurned, the walk. -/
import Derived.Test.YtjcbmlpfpcpakaaH17
namespace Go.Proofs.Ytjcbmlpfpcpakaa
open Go Go.RowKit
set_option linter.unusedVariables false
set_option linter.unusedSimpArgs false
theorem two_saved {d0 d1 d2 : Dk} {fr sz : Nat} {o1 o2 : By} (s1 : Saved d0 d1 (slotN fr sz (0 + 1)) (0 + 1) o1) (s2 : Saved d1 d2 (slotN fr sz (0 + 1 + 1)) (0 + 1 + 1) o2) (h1 : o1.length ≤ 64 * (sz - 1)) (hz : 2 ≤ sz) (hn : fr + 2 * sz ≤ d0.n) : Holds d2 fr 1 o1 ∧ Holds d2 (fr + sz) 2 o2 := by
  have e1 : slotN fr sz (0 + 1) = fr := rfl
  have e2 : slotN fr sz (0 + 1 + 1) = fr + sz := rfl
  rw [e1] at s1
  rw [e2] at s2
  have hl := secsN_le h1
  have hn1 := s1.n
  refine ⟨⟨?_, fun i hi => ?_⟩, ⟨s2.hd, s2.bd⟩⟩
  · rw [s2.el _ (by omega) (Or.inl (by omega))]; exact s1.hd
  · rw [s2.el _ (by omega) (Or.inl (by omega))]; exact s1.bd i hi
set_option maxRecDepth 100000 in
set_option maxHeartbeats 2000000 in
theorem shotTurned_calls {w : World} (a b at0 : Int) (ha : -9223372036854775808 ≤ a ∧ a ≤ 9223372036854775807) (hb : -9223372036854775808 ≤ b ∧ b ≤ 9223372036854775807) (hat : -9223372036854775808 ≤ at0 ∧ at0 ≤ 9223372036854775807) (turn : BitVec 8) (v1 v2 : Value) (l1 l2 : By)
    (r1 : Rd w cb v1 l1) (c1 : ∀ a n c, v1 = .slice a n c → n ≤ c) (m1 : l1.length ≤ 140737488351232) (r2 : Rd w cb v2 l2) (c2 : ∀ a n c, v2 = .slice a n c → n ≤ c) (m2 : l2.length ≤ 140737488351232) :
    Calls Try.prog 13 #[ci a, ci b, v1, v2, ci at0, cb turn] w fun e w' => e = .returned (.bool true) ∧ Ext w w' := by
  obtain ⟨fr, hfr⟩ : ∃ n : Nat, a % 9 = n := ⟨(a % 9).toNat, by omega⟩
  obtain ⟨sz, hsz⟩ : ∃ n : Nat, b % 30 + 2 = n := ⟨(b % 30 + 2).toNat, by omega⟩
  have hf : fr < 9 := by omega
  have hz2 : 2 ≤ sz := by omega
  have hz32 : sz < 32 := by omega
  obtain ⟨N, hN⟩ : ∃ N, fr + 2 * sz + 3 = N := ⟨_, rfl⟩
  obtain ⟨d0, hd0⟩ : ∃ d, newD (fr + 2 * sz + 3) = d := ⟨_, rfl⟩
  obtain ⟨o1, ho1⟩ : ∃ q, fitL l1 sz = q := ⟨_, rfl⟩
  obtain ⟨o2, ho2⟩ : ∃ q, fitL l2 sz = q := ⟨_, rfl⟩
  have HSL := Lib.hid (fun w => slots_calls a b ha.1 ha.2 hb.1 hb.2 fr sz hfr hsz w)
  have HPL := Lib.hid (fun w => place12_calls a 9 ha.1 ha.2 (by omega) (by omega) w)
  have HF1 := Lib.hid (fun w1 (e : Ext w w1) => fit_calls v1 l1 sz w1 (e.rd r1) c1 m1 hz2 (by omega))
  have HF2 := Lib.hid (fun w1 (e : Ext w w1) => fit_calls v2 l2 sz w1 (e.rd r2) c2 m2 hz2 (by omega))
  have HL1 : Hid (o1.length ≤ 64 * (sz - 1)) := Lib.hid (by rw [← ho1]; exact fitL_len _ _)
  have HL2 : Hid (o2.length ≤ 64 * (sz - 1)) := Lib.hid (by rw [← ho2]; exact fitL_len _ _)
  have HC : Hid (Cl d0) := Lib.hid (by rw [← hd0]; exact newD_cl (by omega) (by omega))
  have HS : Hid (Sn d0 fr sz 0 [] []) := Lib.hid (by rw [← hd0]; exact newD_sn (by omega) (by omega))
  have HR0 : Hid (d0.R = []) := Lib.hid (by rw [← hd0]; rfl)
  have HDN : Hid (d0.n = N) := Lib.hid (by rw [← hd0, ← hN]; rfl)
  have HNN : Hid (fr + 2 * sz + 3 = N ∧ fr < 9 ∧ 2 ≤ sz ∧ sz < 32) := Lib.hid ⟨hN, hf, hz2, hz32⟩
  obtain ⟨M, hM⟩ : ∃ M, 64 * N = M := ⟨_, rfl⟩
  obtain ⟨at', hat'⟩ : ∃ n : Nat, at0 % (M : Int) = n := ⟨(at0 % (M : Int)).toNat, by have := Int.emod_nonneg at0 (show (M : Int) ≠ 0 by omega); omega⟩
  have hatM : at' < M := by have := Int.emod_lt_of_pos at0 (show (0 : Int) < M by omega); omega
  have HPA := Lib.hid (fun w => place12_calls at0 M hat.1 hat.2 (by omega) (by omega) w)
  rw [hat'] at HPA
  have HM : Hid (64 * N = M ∧ at' < M ∧ M ≤ 5000) := Lib.hid (by omega)
  rw [hd0] at HSL
  rw [hfr] at HPL
  rw [ho1] at HF1
  rw [ho2] at HF2
  obtain ⟨va1, vc1, rfl⟩ := r1.form
  obtain ⟨va2, vc2, rfl⟩ := r2.form
  clear hM hat' hatM hfr hsz hf hz2 hz32 hN hd0 ho1 ho2 r1 c1 m1 r2 c2 m2 ha hb hat
  go_enter Try.func13, Try.ntmps13
  go_upto_region 6 with (first
    | (go_at_call 45; refine (known12_calls _).mono ?_; rintro e w1 ⟨rfl, x1⟩; have X1 := Lib.hid x1; clear x1)
    | (go_at_call 53; refine (HSL.out _).mono ?_
       rintro e w2 ⟨o, rfl, p2, b2, h0o, x2⟩
       have P2 := Lib.hid p2
       have B2 := Lib.hid b2
       have X2 := Lib.hid (X1.out.trans x2)
       have H0 := Lib.hid h0o
       clear p2 b2 h0o x2 HSL)
    | fail)
  go_upto_region 8 with (first
    | (go_at_call 46; refine (HPL.out _).mono ?_; rintro e w9 ⟨rfl, rfl⟩; clear HPL)
    | (go_at_call 49; refine (HF1.out _ X2.out).mono ?_
       rintro e w3 ⟨u1, rfl, f1, x3⟩
       have P3 := Lib.hid (P2.out.ext x3)
       have B3 := Lib.hid (B2.out.ext x3)
       have X3 := Lib.hid (X2.out.trans x3)
       have R3 := Lib.hid (Ro5.of_own f1)
       clear f1 x3 HF1 P2 B2 X2)
    | (go_at_call 49; refine (HF2.out _ X3.out).mono ?_
       rintro e w4 ⟨u2, rfl, f2, x4⟩
       have P4 := Lib.hid (P3.out.ext x4)
       have B4 := Lib.hid (B3.out.ext x4)
       have X4 := Lib.hid (X3.out.trans x4)
       have R4 := Lib.hid (R3.out.ext x4)
       have S4 := Lib.hid (Ro5.of_own f2)
       have L34 := Lib.hid x4.size
       clear f2 x4 HF2 P3 B3 X3 R3)
    | fail)
  have h0o : w1.heap.size ≤ o := H0.out
  have HSV := Lib.hid (save_sn P4.out B4.out h0o HC.out HR0.out HS.out u1 o1 R4.out.rd R4.out.cap (fun b hb => (R4.out.bk b hb).2) HL1.out (by decide) HNN.out.2.2.1 (by have := HNN.out; omega) (by rw [HDN.out]; have := HNN.out; omega))
  have HG := Lib.hid P4.out.gb
  have HSB := Lib.hid P4.out.sbb
  clear h0o
  go_upto_region 10 with (first
    | (go_at_call 50; refine HSV.out.mono ?_
       rintro e w5 ⟨rfl, d1, sv1, p5, b5, k5, s5⟩
       have P5 := Lib.hid p5
       have B5 := Lib.hid b5
       have S5 := Lib.hid s5
       have V5 := Lib.hid sv1
       have R5 := Lib.hid (by obtain ⟨_, g1⟩ := HG.out; obtain ⟨_, g2⟩ := HSB.out; exact R4.out.kz k5 g1 g2 B4.out)
       have Q5 := Lib.hid (by obtain ⟨_, g1⟩ := HG.out; obtain ⟨_, g2⟩ := HSB.out; exact S4.out.kz k5 g1 g2 B4.out)
       have L45 := Lib.hid k5.1
       have hn5 : d1.n = N := by rw [sv1.n]; exact HDN.out
       have HN5 := Lib.hid hn5
       have HSV2 := Lib.hid (save_sn p5 b5 H0.out sv1.cl sv1.r s5 u2 o2 Q5.out.rd Q5.out.cap (fun b hb => (Q5.out.bk b hb).2) HL2.out (by decide) HNN.out.2.2.1 (by have := HNN.out; omega) (by rw [hn5]; have := HNN.out; omega))
       clear p5 b5 s5 sv1 k5 hn5 HSV R4 S4)
    | (go_at_call 47; refine (num12_calls 0 _).mono ?_; rintro e w9 ⟨rfl, rfl⟩)
    | (go_at_call 50; refine HSV2.out.mono ?_
       rintro e w6 ⟨rfl, d2, sv2, p6, b6, k6, s6⟩
       have P6 := Lib.hid p6
       have R6 := Lib.hid (by obtain ⟨_, g1⟩ := P5.out.gb; obtain ⟨_, g2⟩ := P5.out.sbb; exact R5.out.kz k6 g1 g2 B5.out)
       have Q6 := Lib.hid (by obtain ⟨_, g1⟩ := P5.out.gb; obtain ⟨_, g2⟩ := P5.out.sbb; exact Q5.out.kz k6 g1 g2 B5.out)
       have HH := Lib.hid (two_saved V5.out sv2 HL1.out HNN.out.2.2.1 (by rw [HDN.out]; have := HNN.out; omega))
       have HC6 := Lib.hid sv2.cl
       have HR6 := Lib.hid sv2.r
       have HN6 : Hid (d2.n = N) := Lib.hid (by rw [sv2.n]; exact HN5.out)
       have L46 := Lib.hid (Nat.le_trans L45.out k6.1)
       clear p6 b6 k6 s6 sv2 HSV2 R5 Q5 B5 P5)
    | fail)
  have hS6 : d2.S.length = M := by rw [HC6.out.ok.s, HN6.out]; exact HM.out.1
  have HS6 := Lib.hid hS6
  have hatM : at' < M := HM.out.2.1
  obtain ⟨old, hold⟩ : ∃ old, d2.S.getD at' 0#8 = old := ⟨_, rfl⟩
  have HOLD := Lib.hid hold
  clear hS6 hold
  go_upto_region 12 with (first
    | (go_at_call 31; refine P6.out.image.mono ?_
       rintro e w7 ⟨v, rfl, p7, x7, f7⟩
       obtain ⟨qa, qc, rfl, hq⟩ := f7.form
       obtain ⟨gi, rfl, hgi, _⟩ := hq 0 (by rw [HS6.out]; omega)
       rw [HS6.out] at f7 ⊢
       have I7 := Lib.hid (image_set f7 HS6.out.symm hatM (old ^^^ turn))
       have P7 := Lib.hid p7
       have R7 := Lib.hid (R6.out.ext x7)
       have Q7 := Lib.hid (Q6.out.ext x7)
       have G7 : Hid (w4.heap.size ≤ gi) := Lib.hid (Nat.le_trans L46.out hgi)
       have G7' : Hid (w1.heap.size ≤ gi) := Lib.hid (by have := P6.out.e.size; omega)
       clear p7 x7 f7 hq hgi P6 R6 Q6)
    | (go_at_call 46; refine (HPA.out _).mono ?_; rintro e w9 ⟨rfl, rfl⟩; clear HPA)
    | fail)
  have c7 := I7.out.2.2.1
  rw [HOLD.out] at c7
  have f7 := I7.out.2.2.2.1
  have hle := I7.out.1
  go_upto_region 13 with fail
  obtain ⟨S', hS'⟩ : ∃ S', d2.S.set at' (old ^^^ turn) = S' := ⟨_, rfl⟩
  have hSl : S'.length = 64 * N := by rw [← hS', List.length_set, HS6.out]; exact HM.out.1.symm
  have hrg := I7.out.2.2.2.2
  rw [hS'] at hrg
  obtain ⟨cur7, hcur7⟩ := I7.out.2.1
  have R8 := Lib.hid (R7.out.set ⟨gi, at', none⟩ (by show _ ≤ gi; have := L34.out; have := G7.out; omega) (cb (old ^^^ turn)))
  have Q8 := Lib.hid (Q7.out.set ⟨gi, at', none⟩ (by show _ ≤ gi; have := G7.out; omega) (cb (old ^^^ turn)))
  have X8 := Lib.hid (X1.out.trans (P7.out.setOther hcur7 (by decide) (by decide) (by decide) G7'.out at' (cb (old ^^^ turn))).e)
  have HCL := Lib.hid (loadD_cl HC6.out.ok (S := S') (by rw [hSl, HS6.out]; exact HM.out.1))
  have hop := turned_open (turn := turn) HC6.out HR6.out HH.out.1 HH.out.2 HL1.out HL2.out HNN.out.2.2.1 (by have := HNN.out; omega) (by rw [HN6.out]; have := HNN.out; omega) (by rw [HS6.out]; exact hatM)
  rw [HOLD.out, hS'] at hop
  have HOP := Lib.hid hop
  obtain ⟨gn, ln, hpr⟩ : ∃ gn ln, openP (loadD S') fr sz = (gn, ln) := ⟨_, _, rfl⟩
  have HPR := Lib.hid hpr
  obtain ⟨W8, hW8⟩ : ∃ W8, w7.setCell ⟨gi, at', none⟩ (cb (old ^^^ turn)) = W8 := ⟨_, rfl⟩
  rw [hW8] at hrg R8 Q8 X8
  have hle' : 64 * N ≤ qc := by have := HM.out.1; omega
  have HLD := Lib.hid (DX.load12 (n := N) (by have := HNN.out; omega) (by have := HNN.out; omega) hSl hrg hle')
  rw [HM.out.1] at HLD
  have HOO := Lib.hid (fun w9 (p : DX W8 w9 (W8.heap.size + 1) W8.heap.size (loadD S')) => open_ok p fr sz HCL.out.1.pow HNN.out.2.2.1 (by have := HNN.out; omega) (by rw [HCL.out.2, HN6.out]; have := HNN.out; omega))
  rw [hpr] at HOO
  clear hS' hSl hrg hcur7 hop hpr c7 f7 hle hle' I7 P7 R7 Q7 HOLD
  change Code.wp _ _ _ _ (w7.setCell ⟨gi, at', none⟩ (cb (old ^^^ turn)))
  rw [hW8]
  clear hW8
  go_upto_region 17 with (first
    | (go_at_call 36; refine HLD.out.mono ?_
       rintro e w9 ⟨rfl, p9, x9⟩
       have P9 := Lib.hid p9
       have R9 := Lib.hid (R8.out.ext x9)
       have Q9 := Lib.hid (Q8.out.ext x9)
       have X9 := Lib.hid (X8.out.trans x9)
       clear p9 x9 HLD R8 Q8 X8)
    | (go_at_call 47; refine (num12_calls 0 _).mono ?_; rintro e w99 ⟨rfl, rfl⟩)
    | (go_at_call 48; refine (HOO.out _ P9.out).mono ?_
       rintro e w10 ⟨sv, rfl, x10, b10, s10, _⟩
       have B10 := Lib.hid b10
       have R10 := Lib.hid (R9.out.ext x10)
       have Q10 := Lib.hid (Q9.out.ext x10)
       have X10 := Lib.hid (X9.out.trans x10)
       have S10 := Lib.hid s10.rd
       clear x10 b10 s10 HOO R9 Q9 X9 P9)
    | fail)
  obtain ⟨ua2, uc2, rfl⟩ := Q10.out.rd.form
  obtain ⟨n2, hn2⟩ : ∃ n, o2.length = n := ⟨_, rfl⟩
  have hn2' : (n2 : Int) ≤ 2000 := by have := HL2.out; have := HNN.out; omega
  have hfr : (fr : Int) < 9 := by have := HNN.out; omega
  have hsz : (sz : Int) < 32 := by have := HNN.out; omega
  rw [hn2]
  have HN2 := Lib.hid hn2
  clear hn2
  go_upto_region 19 with fail
  have hl1 : o1.length ≤ 9223372036854775807 := by have := HL1.out; have := HNN.out; omega
  have hl2 : o2.length ≤ 9223372036854775807 := by have := HL2.out; have := HNN.out; omega
  have hsec : secsN o2.length = (n2 + 63) / 64 := by rw [HN2.out]; rfl
  have HSEC := Lib.hid hsec
  have HLL := Lib.hid (And.intro hl1 hl2)
  clear hl1 hl2 hsec
  by_cases hcond : turn ≠ 0#8 ∧ 64 * (fr + sz) ≤ at' ∧ at' < 64 * (fr + sz) + 64 * (1 + secsN o2.length)
  · have hpr : (gn, ln) = (1, o1) := by rw [← HPR.out, HOP.out, if_pos hcond]
    injection hpr with e1 e2
    subst e1 e2
    have HG10 : Hid (Calls Try.prog 52 #[.pointer (some ⟨w9.heap.size + 1 + 1 + 1, 0, none⟩)] w10 fun e w' => e = .returned (ci 1) ∧ w10 = w') := Lib.hid (sgen_calls B10.out)
    have HSM : Hid (Calls Try.prog 51 #[sv, u1] w10 fun e w' => e = .returned (.bool true) ∧ ∃ n, w10.drewN n = w') := Lib.hid (by
      have h := same12_calls sv u1 ln ln w10 S10.out R10.out.rd HLL.out.1 HLL.out.1
      rw [decide_eq_true rfl] at h
      exact h)
    obtain ⟨t1, t2, t3⟩ := hcond
    rw [HSEC.out] at t3
    have ht : ¬ Bv turn = 0 := fun h => t1 (Bv_inj.1 (by rw [h]; rfl))
    have hb1 : (64 : Int) * ((fr : Int) + sz) ≤ at' := by omega
    have hb2 : (at' : Int) < 64 * ((fr : Int) + sz) + 64 * (1 + ((n2 : Int) + 63) / 64) := by omega
    clear t2 t3 HPR HOP B10 S10 R10 Q10
    have t1' : (turn != 0#8) = true := by simpa using t1
    clear t1
    go_wp2_with (first
      | (go_at_call 52; refine HG10.out.mono ?_; rintro e w99 ⟨rfl, rfl⟩)
      | (go_at_call 51; refine HSM.out.mono ?_; rintro e w99 ⟨rfl, n9, rfl⟩)
      | fail)
    go_ret
    exact ⟨rfl, X10.out.drewN _⟩
  · have hpr : (gn, ln) = (2, o2) := by rw [← HPR.out, HOP.out, if_neg hcond]
    injection hpr with e1 e2
    subst e1 e2
    have HG10 : Hid (Calls Try.prog 52 #[.pointer (some ⟨w9.heap.size + 1 + 1 + 1, 0, none⟩)] w10 fun e w' => e = .returned (ci 2) ∧ w10 = w') := Lib.hid (sgen_calls B10.out)
    have HSM : Hid (Calls Try.prog 51 #[sv, .slice ua2 n2 uc2] w10 fun e w' => e = .returned (.bool true) ∧ ∃ n, w10.drewN n = w') := Lib.hid (by
      have h := same12_calls sv (.slice ua2 ln.length uc2) ln ln w10 S10.out Q10.out.rd HLL.out.2 HLL.out.2
      rw [decide_eq_true rfl, HN2.out] at h
      exact h)
    by_cases t1 : turn = 0#8
    · subst t1
      clear hcond HPR HOP B10 S10 R10 Q10
      have ht : Bv 0#8 = 0 := rfl
      go_wp2_with (first
        | (go_at_call 52; refine HG10.out.mono ?_; rintro e w99 ⟨rfl, rfl⟩)
        | (go_at_call 51; refine HSM.out.mono ?_; rintro e w99 ⟨rfl, n9, rfl⟩)
        | fail)
      go_ret
      exact ⟨rfl, X10.out.drewN _⟩
    · have ht : ¬ Bv turn = 0 := fun h => t1 (Bv_inj.1 (by rw [h]; rfl))
      by_cases t2 : 64 * (fr + sz) ≤ at'
      · have t3 : ¬ at' < 64 * (fr + sz) + 64 * (1 + secsN ln.length) := fun h => hcond ⟨t1, t2, h⟩
        rw [HSEC.out] at t3
        have hb1 : (64 : Int) * ((fr : Int) + sz) ≤ at' := by omega
        have hb2 : ¬ (at' : Int) < 64 * ((fr : Int) + sz) + 64 * (1 + ((n2 : Int) + 63) / 64) := by omega
        clear t1 t2 t3 hcond HPR HOP B10 S10 R10 Q10
        go_wp2_with (first
          | (go_at_call 52; refine HG10.out.mono ?_; rintro e w99 ⟨rfl, rfl⟩)
          | (go_at_call 51; refine HSM.out.mono ?_; rintro e w99 ⟨rfl, n9, rfl⟩)
          | fail)
        all_goals go_ret
        all_goals exact ⟨rfl, X10.out.drewN _⟩
      · have hb1 : ¬ (64 : Int) * ((fr : Int) + sz) ≤ at' := by omega
        clear t1 t2 hcond HPR HOP B10 S10 R10 Q10
        go_wp2_with (first
          | (go_at_call 52; refine HG10.out.mono ?_; rintro e w99 ⟨rfl, rfl⟩)
          | (go_at_call 51; refine HSM.out.mono ?_; rintro e w99 ⟨rfl, n9, rfl⟩)
          | fail)
        all_goals go_ret
        all_goals exact ⟨rfl, X10.out.drewN _⟩
theorem shotTurned_walk' {w : World} (a b at0 : Int) (turn : BitVec 8) (ia : Option Addr) (il ic : Nat) (ja : Option Addr) (jl jc : Nat) (l1 l2 : By) (ha : -9223372036854775808 ≤ a ∧ a ≤ 9223372036854775807) (hb : -9223372036854775808 ≤ b ∧ b ≤ 9223372036854775807) (hat : -9223372036854775808 ≤ at0 ∧ at0 ≤ 9223372036854775807)
    (r1 : Rd w cb (.slice ia il ic) l1) (e1 : l1.length = il) (c1 : il ≤ ic) (n1 : il ≤ 140737488351232) (r2 : Rd w cb (.slice ja jl jc) l2) (e2 : l2.length = jl) (c2 : jl ≤ jc) (n2 : jl ≤ 140737488351232) :
    Calls Try.prog 13 #[ci a, ci b, .slice ia il ic, .slice ja jl jc, ci at0, .int .u8 (Bv turn)] w fun e w' => e = .returned (.bool true) ∧ Below w.heap.size w w' :=
  (shotTurned_calls a b at0 ha hb hat turn _ _ l1 l2 r1 (fun _ _ _ e => by injection e with _ q1 q2; omega) (by omega) r2 (fun _ _ _ e => by injection e with _ q1 q2; omega) (by omega)).mono fun e w' ⟨x, y⟩ => ⟨x, y.to⟩
end Go.Proofs.Ytjcbmlpfpcpakaa
