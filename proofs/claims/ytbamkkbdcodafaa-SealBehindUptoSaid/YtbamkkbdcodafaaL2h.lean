/- SealBehind: the walk of the law. -/
import Derived.Test.YtbamkkbdcodafaaS2m
import Derived.Test.YtbamkkbdcodafaaS2h
import Derived.Test.YtbamkkbdcodafaaS2e
import Derived.Test.YtbamkkbdcodafaaP2b
import Derived.Test.YtbamkkbdcodafaaL2e
namespace Go.Proofs.Ytbamkkbdcodafaa
open Go.RowKit
set_option linter.unusedVariables false

theorem not_xor32 (X : BitVec 32) : 0xFFFFFFFF#32 ^^^ ~~~X = X := by
  rw [show (0xFFFFFFFF#32) = BitVec.allOnes 32 from rfl, BitVec.allOnes_xor, BitVec.not_not]
theorem crc_joins (X : BitVec 32) (q : List (BitVec 8)) : stn (~~~X) (q.length : Int) ^^^ ~~~ tkn 0xFFFFFFFF#32 q = ~~~ tkn X q := by
  have h := tkn_xor q 0xFFFFFFFF#32 (~~~X)
  rw [not_xor32] at h
  rw [h, stn_eq, Int.toNat_natCast]
  rw [BitVec.not_xor_left, BitVec.xor_comm]
set_option maxHeartbeats 2000000 in
theorem behind_walk (sp sq : Value) (p q : List (BitVec 8)) (W : World) (hp : Rd W cb sp p) (hq : Rd W cb sq q) (hpm : p.length ≤ 70368744177664) (hqm : q.length ≤ 70368744177664) :
    Calls Try.prog 10 #[sp, sq] W fun e w' => e = .returned (.bool true) ∧ Ext W w' := by
  have hp1 := hp
  have hq1 := hq
  obtain ⟨ad, c, rfl, hat⟩ := hp1.at
  obtain ⟨ad2, c2, rfl, hat2⟩ := hq1.at
  clear hat hat2 hp1 hq1
  have H17 := Lib.hid (known_calls W)
  have HP := Lib.hid hp
  have HQ := Lib.hid hq
  have hm1 : (p.length : Int) ≤ 70368744177664 := by omega
  have hm2 : (q.length : Int) ≤ 70368744177664 := by omega
  have HPM := Lib.hid hpm
  have HQM := Lib.hid hqm
  clear hp hq hpm hqm
  obtain ⟨r, hr⟩ : ∃ r, p ++ q = r := ⟨_, rfl⟩
  obtain ⟨X, hX⟩ : ∃ x, tkn 0xFFFFFFFF#32 p = x := ⟨_, rfl⟩
  obtain ⟨Y, hY⟩ : ∃ x, tkn 0xFFFFFFFF#32 q = x := ⟨_, rfl⟩
  obtain ⟨Z, hZ⟩ : ∃ x, tkn X q = x := ⟨_, rfl⟩
  obtain ⟨A, hA⟩ : ∃ x, fnvl off0 p = x := ⟨_, rfl⟩
  obtain ⟨M, hM⟩ : ∃ x, fnvl A q = x := ⟨_, rfl⟩
  have HX := Lib.hid hX
  have HY := Lib.hid hY
  have HZ := Lib.hid hZ
  have HA : Hid (fnvs off0 [p] = A) := by show _ = _; rw [fnvs_one]; exact hA
  have HM : Hid (fnvs off0 [r] = M) := by show _ = _; rw [fnvs_one, ← hr, fnvl_append, hA]; exact hM
  have HM2 : Hid (fnvs off0 [p, q] = M) := by show _ = _; rw [fnvs_two, hA]; exact hM
  have HBk : Hid (bck M q = A) := by show _ = _; rw [← hM]; exact bck_fnvl _ _
  have HR : Hid (p ++ q = r) := hr
  have HRL : Hid ((p.length : Int) + q.length = r.length) := by show _ = _; rw [← hr]; simp
  have HZr : Hid (tkn 0xFFFFFFFF#32 r = Z) := by show _ = _; rw [← hr, tkn_append, hX]; exact hZ
  have HJ : Hid (stn (~~~X) (q.length : Int) ^^^ ~~~Y = ~~~Z) := by show _ = _; rw [← hY, ← hZ]; exact crc_joins X q
  clear hr hX hY hZ hA hM
  go_enter Try.func10, Try.ntmps10
  go_wp2_with (first
    | (go_at_call 17; refine H17.out.mono ?_; clear H17; rintro e w1 ⟨rfl, e1⟩
       have H18 := Lib.hid (joined_calls _ _ p q w1 (e1.rd HP.out) (e1.rd HQ.out) (by have := HPM.out; have := HQM.out; omega))
       rw [HR.out] at H18
       have E1 := Lib.hid e1
       clear e1)
    | (go_at_call 18; refine H18.out.mono ?_; clear H18; rintro e w2 ⟨bv, rfl, ho, e2⟩
       obtain ⟨qa, cc, rfl, hff⟩ := ho.form
       have E2 := Lib.hid (E1.out.trans e2)
       have HB := Lib.hid ho.rd
       clear hff ho e2
       have H19a := Lib.hid (crc_calls _ p w2 (E2.out.rd HP.out) (by have := HPM.out; omega))
       rw [HX.out] at H19a)
    | (go_at_call 19; refine H19a.out.mono ?_; clear H19a; rintro e w3 ⟨rfl, e3⟩
       have E3 := Lib.hid e3
       clear e3
       have H19b := Lib.hid (crc_calls _ q w3 ((E2.out.trans E3.out).rd HQ.out) (by have := HQM.out; omega))
       rw [HY.out] at H19b)
    | (go_at_call 19; refine H19b.out.mono ?_; clear H19b; rintro e w4 ⟨rfl, e4⟩
       have E4 := Lib.hid (E3.out.trans e4)
       clear e4
       have H19c := Lib.hid (crc_calls _ r w4 (E4.out.rd HB.out) (by have := HRL.out; have := HPM.out; have := HQM.out; omega))
       rw [HZr.out] at H19c)
    | (go_at_call 19; refine H19c.out.mono ?_; clear H19c; rintro e w5 ⟨rfl, e5⟩
       have E5 := Lib.hid (E4.out.trans e5)
       clear e5
       have H21 := Lib.hid (new_calls w5))
    | (go_at_call 21; refine H21.out.mono ?_; clear H21; rintro e w6 ⟨rfl, s6, e6, -⟩
       obtain ⟨g, hg⟩ : ∃ g, w5.heap.size = g := ⟨_, rfl⟩
       rw [hg] at s6
       rw [hg]
       have HG : Hid (w2.heap.size ≤ g) := by show _ ≤ _; rw [← hg]; exact E5.out.size
       have E6 := Lib.hid (E5.out.trans e6)
       clear e6 hg
       have H22a := Lib.hid (write_calls g _ 0 _ p w6 s6 ((E2.out.trans E6.out).rd HP.out) (by have := HPM.out; omega) (by omega) (by have := HPM.out; omega))
       rw [HX.out, Int.zero_add] at H22a
       clear s6)
    | (go_at_call 22; refine H22a.out.mono ?_; clear H22a; rintro e w7 ⟨rfl, s7, g7⟩
       have E7 := Lib.hid (E6.out.grown1 g7 HG.out)
       clear g7
       have H24a := Lib.hid (sum_calls g _ _ w7 s7)
       have H22b := Lib.hid (write_calls g _ _ _ q w7 s7 ((E2.out.trans E7.out).rd HQ.out) (by have := HQM.out; omega) (by omega) (by have := HPM.out; have := HQM.out; omega))
       rw [HZ.out, HRL.out] at H22b
       clear s7)
    | (go_at_call 24; refine H24a.out.mono ?_; clear H24a; rintro e w8 ⟨rfl, rfl⟩)
    | (go_at_call 22; refine H22b.out.mono ?_; clear H22b; rintro e w8 ⟨rfl, s8, g8⟩
       have E8 := Lib.hid (E7.out.grown1 g8 HG.out)
       clear g8
       have H14a := Lib.hid (fnv_calls _ [r] _ (Rds.one (E8.out.rd HB.out) (by have := HRL.out; have := HPM.out; have := HQM.out; omega)) (by simp))
       rw [HM.out] at H14a
       have e9 := Ext.of_alloc (w := w8) (.cells #[.slice qa r.length cc] 23)
       have E9 := Lib.hid (E8.out.trans e9)
       have S9 := Lib.hid (s8.ext e9)
       clear e9 s8)
    | (go_at_call 14; refine H14a.out.mono ?_; clear H14a; rintro e w9 ⟨rfl, h9⟩
       rw [h9] at E9 S9
       clear h9
       have H24b := Lib.hid (sum_calls g _ _ w9 S9.out)
       have H25 := Lib.hid (len_calls g _ _ w9 S9.out)
       have H31 := Lib.hid (join_calls (~~~X) (~~~Y) (q.length : Int) (by have := HQM.out; omega) w9)
       rw [HJ.out] at H31)
    | (go_at_call 24; refine H24b.out.mono ?_; clear H24b; rintro e w10 ⟨rfl, rfl⟩)
    | (go_at_call 25; refine H25.out.mono ?_; clear H25; rintro e w10 ⟨rfl, rfl⟩)
    | (go_at_call 31; refine H31.out.mono ?_; clear H31; rintro e w10 ⟨rfl, e10⟩
       have E10 := Lib.hid (E9.out.trans e10)
       clear e10
       have H14b := Lib.hid (fnv_calls _ [p, q] _ (Rds.two ((E2.out.trans E10.out).rd HP.out) (by have := HPM.out; omega) ((E2.out.trans E10.out).rd HQ.out) (by have := HQM.out; omega)) (by simp))
       rw [HM2.out] at H14b
       have E11 := Lib.hid (E10.out.alloc (.cells #[.slice ad p.length c, .slice ad2 q.length c2] 23)))
    | (go_at_call 14; refine H14b.out.mono ?_; clear H14b; rintro e w11 ⟨rfl, h11⟩
       rw [h11] at E11
       clear h11
       have H32a := Lib.hid (back_calls M _ q w11 ((E2.out.trans E11.out).rd HQ.out) (by have := HQM.out; omega))
       rw [HBk.out] at H32a
       have H14c := Lib.hid (fnv_calls _ [p] _ (Rds.one ((E2.out.trans E11.out).rd HP.out) (by have := HPM.out; omega)) (by simp))
       rw [HA.out] at H14c
       have E12 := Lib.hid (E11.out.alloc (.cells #[.slice ad p.length c] 23)))
    | (go_at_call 32; refine H32a.out.mono ?_; clear H32a; rintro e w12 ⟨rfl, rfl⟩)
    | (go_at_call 14; refine H14c.out.mono ?_; clear H14c; rintro e w12 ⟨rfl, h12⟩
       rw [h12] at E12
       clear h12
       have H14d := Lib.hid (fnv_calls _ [p] _ (Rds.one ((E2.out.trans E12.out).rd HP.out) (by have := HPM.out; omega)) (by simp))
       rw [HA.out] at H14d
       have E13 := Lib.hid (E12.out.alloc (.cells #[.slice ad p.length c] 23)))
    | (go_at_call 14; refine H14d.out.mono ?_; clear H14d; rintro e w13 ⟨rfl, h13⟩
       rw [h13] at E13
       clear h13
       have H32b := Lib.hid (back_calls A _ [] w13 Rd.nil (by simp))
       rw [bck_nil] at H32b
       have H14e := Lib.hid (fnv_calls _ [p] _ (Rds.one ((E2.out.trans E13.out).rd HP.out) (by have := HPM.out; omega)) (by simp))
       rw [HA.out] at H14e
       have E14 := Lib.hid (E13.out.alloc (.cells #[.slice ad p.length c] 23)))
    | (go_at_call 32; refine H32b.out.mono ?_; clear H32b; rintro e w14 ⟨rfl, rfl⟩)
    | (go_at_call 14; refine H14e.out.mono ?_; clear H14e; rintro e w14 ⟨rfl, h14⟩
       rw [h14] at E14
       clear h14)
    | fail)
  go_ret
  exact ⟨rfl, E2.out.trans E14.out⟩
theorem behind_walk' (sp sq : Value) (p q : List (BitVec 8)) (W : World) (hp : Rd W cb sp p) (hq : Rd W cb sq q) (hpm : p.length ≤ 1048576) (hqm : q.length ≤ 1048576) :
    Calls Try.prog 10 #[sp, sq] W fun e w' => e = .returned (.bool true) ∧ Below W.heap.size W w' :=
  (behind_walk sp sq p q W hp hq (by omega) (by omega)).mono fun e w' h => ⟨h.1, h.2.to⟩
end Go.Proofs.Ytbamkkbdcodafaa
