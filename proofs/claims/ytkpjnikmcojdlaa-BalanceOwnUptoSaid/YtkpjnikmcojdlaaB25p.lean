/- BalancePlans: the walk of the law. -/
import Derived.Test.YtkpjnikmcojdlaaB25o
import Derived.Deep.RegionHeld
namespace Go.Proofs.Ytkpjnikmcojdlaa
open Go.RowKit
set_option linter.unusedVariables false

def fewOf (n : Int) : Int := if 400 < n then 400 else n
theorem few_le (n : Int) : (fewOf n).toNat ≤ 400 := by unfold fewOf; split <;> omega
theorem few_bd (n : Int) (h : -9223372036854775808 ≤ n ∧ n ≤ 9223372036854775807) : -9223372036854775808 ≤ fewOf n ∧ fewOf n ≤ 9223372036854775807 := by unfold fewOf; split <;> omega
theorem few_calls (n : Int) (w : World) : Calls Try.prog 22 #[ci n] w fun e w' => e = .returned (ci (fewOf n)) ∧ w = w' := by
  unfold fewOf
  by_cases h : 400 < n
  · rw [if_pos h]
    have t : decide (400 < n) = true := decide_eq_true h
    clear h
    go_enter Try.func22, Try.ntmps22
    go_wp2_with fail
    go_ret
    exact ⟨rfl, rfl⟩
  · rw [if_neg h]
    have t : decide (400 < n) = false := decide_eq_false h
    clear h
    go_enter Try.func22, Try.ntmps22
    go_wp2_with fail
    go_ret
    exact ⟨rfl, rfl⟩
def resML (R : Option (List Mv)) : List Mv := R.getD []
def resMC (R : Option (List Mv)) : Int := if R.isSome then 0 else 250
theorem ResM.use {B : Nat} {R : Option (List Mv)} {e : Ending} {w' : World} (h : ResM B R e w') : ∃ v, e = .returned (.tuple #[v, ci (resMC R)]) ∧ RdM w' v (resML R) := by
  rcases h with ⟨rfl, he⟩ | ⟨P, v', rfl, he, ho⟩
  · exact ⟨_, he, Or.inl ⟨_, _, rfl, rfl, fun _ => rfl⟩⟩
  · exact ⟨v', he, ho.rd⟩
theorem resML_len {ld : List Nat} {ow : List Int} {s : Int} (n : Int) : (resML (planR ld ow s (fewOf n))).length ≤ 400 := by
  unfold planR resML
  split
  · exact Nat.le_trans (planF_len _ _ _ _) (few_le n)
  · exact Nat.zero_le _
attribute [irreducible] fewOf
set_option maxHeartbeats 2000000 in
theorem plans_walk (lv ov : Value) (l : List (BitVec 64)) (ow : List Int) (s n : Int) (W : World) (hl : Rd W cw lv l) (ho : Rd W ci ov ow) (hlm : l.length * 8 ≤ 140737488351232) (hom : ow.length * 8 ≤ 140737488351232) (hs : -9223372036854775808 ≤ s ∧ s ≤ 9223372036854775807) (hn : -9223372036854775808 ≤ n ∧ n ≤ 9223372036854775807) :
    Calls Try.prog 5 #[.agg #[lv, ov, ci s], ci n] W fun e w' => e = .returned (.bool true) ∧ Ext W w' := by
  have hl1 := hl
  have ho1 := ho
  obtain ⟨ad, c, rfl, hat⟩ := hl1.at
  obtain ⟨ad2, c2, rfl, hat2⟩ := ho1.at
  clear hat hat2 hl1 ho1
  have HLM := Lib.hid hlm
  have HOM := Lib.hid hom
  have HL := Lib.hid hl
  have HO := Lib.hid ho
  have e0 := Ext.of_alloc (w := W) (.cells #[.slice ad l.length c, .slice ad2 ow.length c2, ci s] 35)
  have E0 := Lib.hid e0
  have z0 := World.cell?_alloc_new W #[.slice ad l.length c, .slice ad2 ow.length c2, ci s] 35
  obtain ⟨w0, hw0⟩ : ∃ x, W.alloc (.cells #[.slice ad l.length c, .slice ad2 ow.length c2, ci s] 35) = x := ⟨_, rfl⟩
  rw [hw0] at E0 z0
  have Z0 : Hid (w0.cell? ⟨W.heap.size, 0, none⟩ = some (.slice ad l.length c)) := z0 0
  have Z1 : Hid (w0.cell? ⟨W.heap.size, 1, none⟩ = some (.slice ad2 ow.length c2)) := z0 1
  have Z2 : Hid (w0.cell? ⟨W.heap.size, 2, none⟩ = some (ci s)) := z0 2
  have HW0 := Lib.hid hw0
  have H18 := Lib.hid (fun (w : World) (e : Ext w0 w) => floats_calls (.slice ad l.length c) l w ((E0.out.trans e).rd HL.out) HLM.out)
  have H12 := Lib.hid (fun (w : World) (e : Ext w0 w) => ints_calls (.slice ad2 ow.length c2) ow w ((E0.out.trans e).rd HO.out) HOM.out)
  obtain ⟨R, hR⟩ : ∃ R, planR (bitsOf l) ow s (fewOf n) = R := ⟨_, rfl⟩
  have HR := Lib.hid hR
  have hxl := resML_len (ow := ow) (s := s) (ld := bitsOf l) n
  rw [hR] at hxl
  have HXL := Lib.hid hxl
  have HFW := Lib.hid (few_bd n hn)
  have HPB : Hid (rightB (bitsOf l) ow s = true → (planF (bitsOf l) s.toNat (fewOf n).toNat ow).length ≤ 400) := fun _ => Nat.le_trans (planF_len _ _ _ _) (few_le n)
  have H22 := Lib.hid (few_calls n W)
  have H22b := Lib.hid (fun w => few_calls n w)
  clear hl ho hlm hom hs hn e0 z0 hw0 hR hxl H22
  obtain ⟨C, hC⟩ : ∃ c, resMC R = c := ⟨_, rfl⟩
  obtain ⟨X, hX⟩ : ∃ c, resML R = c := ⟨_, rfl⟩
  have HC := Lib.hid hC
  have HX := Lib.hid hX
  clear hC hX
  go_enter Try.func5, Try.ntmps5
  go_wp2_with (first | (go_at_call 22; refine (H22b.out _).mono ?_; rintro e w9 ⟨rfl, rfl⟩) | fail)
  rw [HW0.out]
  generalize hfw : fewOf n = N at *
  generalize W.heap.size = bx at *
  have K0 : w0.cell? ⟨bx, 0, none⟩ = some (.slice ad l.length c) ∧ w0.cell? ⟨bx, 1, none⟩ = some (.slice ad2 ow.length c2) ∧ w0.cell? ⟨bx, 2, none⟩ = some (ci s) := ⟨Z0.out, Z1.out, Z2.out⟩
  go_region_held (fun w' => w'.cell? ⟨bx, 0, none⟩ = some (.slice ad l.length c) ∧ w'.cell? ⟨bx, 1, none⟩ = some (.slice ad2 ow.length c2) ∧ w'.cell? ⟨bx, 2, none⟩ = some (ci s)) (first | exact K2 | exact K1 | exact K0)
    (first
      | (go_at_call 18; refine (H18.out w0.drew (Ext.refl w0).drew).mono ?_; rintro e w1 ⟨g, cc, rfl, -, -, -, -, hrow, e1⟩
         have E1 := Lib.hid ((Ext.refl w0).drew.trans e1)
         have ROW := Lib.hid hrow
         have K1 : w1.cell? ⟨bx, 0, none⟩ = some (.slice ad l.length c) ∧ w1.cell? ⟨bx, 1, none⟩ = some (.slice ad2 ow.length c2) ∧ w1.cell? ⟨bx, 2, none⟩ = some (ci s) := ⟨E1.out.cell K0.1, E1.out.cell K0.2.1, E1.out.cell K0.2.2⟩
         clear hrow e1)
      | (go_at_call 23; refine (rplan_calls _ _ (bitsOf l) ow s N w1 (by have h := ROW.out.rd (n := l.length) (c := cc) (by rw [bitsOf_len]); exact h) ((E0.out.trans E1.out).rd HO.out) (bits_lt l) (by rw [bitsOf_len]; have := HLM.out; omega) (by have := HOM.out; omega) HFW.out HPB.out).mono ?_
         rintro e w2 ⟨hres, e2⟩
         obtain ⟨xv, rfl, hx⟩ := hres.use
         have E2 := Lib.hid (E1.out.trans e2)
         have XV := Lib.hid hx
         have K2 : w2.cell? ⟨bx, 0, none⟩ = some (.slice ad l.length c) ∧ w2.cell? ⟨bx, 1, none⟩ = some (.slice ad2 ow.length c2) ∧ w2.cell? ⟨bx, 2, none⟩ = some (ci s) := ⟨E2.out.cell K0.1, E2.out.cell K0.2.1, E2.out.cell K0.2.2⟩
         clear hres hx e2))
  rw [HR.out, HX.out] at XV
  rw [HR.out, HC.out]
  clear ROW
  go_wp2_with fail
  have KB := K2
  clear K1 K2
  have EB := (Ext.refl w0).trans (E2.out.drew)
  go_region_held (fun w' => w'.cell? ⟨bx, 0, none⟩ = some (.slice ad l.length c) ∧ w'.cell? ⟨bx, 1, none⟩ = some (.slice ad2 ow.length c2) ∧ w'.cell? ⟨bx, 2, none⟩ = some (ci s)) (first | exact KD | exact KC | exact KB)
    (first
      | (go_at_call 18; refine (H18.out _ EC).mono ?_; rintro e w4 ⟨gf, cf', rfl, hf1, hf2, -, -, hrowf, e4⟩
         have ED := EC.trans e4
         have ROWF := Lib.hid hrowf
         have CF := Lib.hid (And.intro hf1 hf2)
         have ROWI := Lib.hid (ROWI0.out.ext e4)
         have EX := Lib.hid (EX0.out.trans e4)
         have KD : w4.cell? ⟨bx, 0, none⟩ = some (.slice ad l.length c) ∧ w4.cell? ⟨bx, 1, none⟩ = some (.slice ad2 ow.length c2) ∧ w4.cell? ⟨bx, 2, none⟩ = some (ci s) := ⟨ED.cell K0.1, ED.cell K0.2.1, ED.cell K0.2.2⟩
         clear hrowf e4 hf1 hf2)
      | (go_at_call 12; refine (H12.out _ EC).mono ?_; rintro e w4 ⟨gi, ci', rfl, hi1, hi2, -, -, hrowi, e4⟩
         have ED := EC.trans e4
         have ROWI := Lib.hid hrowi
         have CI := Lib.hid (And.intro hi1 hi2)
         have ROWF := Lib.hid (ROWF0.out.ext e4)
         have EX := Lib.hid (EX0.out.trans e4)
         have KD : w4.cell? ⟨bx, 0, none⟩ = some (.slice ad l.length c) ∧ w4.cell? ⟨bx, 1, none⟩ = some (.slice ad2 ow.length c2) ∧ w4.cell? ⟨bx, 2, none⟩ = some (ci s) := ⟨ED.cell K0.1, ED.cell K0.2.1, ED.cell K0.2.2⟩
         clear hrowi e4 hi1 hi2)
      | (go_at_call 18; refine (H18.out _ EB).mono ?_; rintro e w3 ⟨gf, cf', rfl, hf1, hf2, -, -, hrowf, e3⟩
         have EC := EB.trans e3
         have ROWF0 := Lib.hid hrowf
         have CF := Lib.hid (And.intro hf1 hf2)
         have EX0 := Lib.hid ((Ext.refl w2).drew.trans e3)
         have KC : w3.cell? ⟨bx, 0, none⟩ = some (.slice ad l.length c) ∧ w3.cell? ⟨bx, 1, none⟩ = some (.slice ad2 ow.length c2) ∧ w3.cell? ⟨bx, 2, none⟩ = some (ci s) := ⟨EC.cell K0.1, EC.cell K0.2.1, EC.cell K0.2.2⟩
         clear hrowf e3 hf1 hf2)
      | (go_at_call 12; refine (H12.out _ EB).mono ?_; rintro e w3 ⟨gi, ci', rfl, hi1, hi2, -, -, hrowi, e3⟩
         have EC := EB.trans e3
         have ROWI0 := Lib.hid hrowi
         have CI := Lib.hid (And.intro hi1 hi2)
         have EX0 := Lib.hid ((Ext.refl w2).drew.trans e3)
         have KC : w3.cell? ⟨bx, 0, none⟩ = some (.slice ad l.length c) ∧ w3.cell? ⟨bx, 1, none⟩ = some (.slice ad2 ow.length c2) ∧ w3.cell? ⟨bx, 2, none⟩ = some (ci s) := ⟨EC.cell K0.1, EC.cell K0.2.1, EC.cell K0.2.2⟩
         clear hrowi e3 hi1 hi2))
  all_goals
    have ER := Lib.hid (E0.out.trans ED)
    have b2 : w4.cell? ⟨bx, 2, none⟩ = some (ci s) := KD.2.2
    have RF : Hid (Rd w4 cf (.slice (some ⟨gf, 0, none⟩) l.length cf') (bitsOf l)) := ROWF.out.rd (by rw [bitsOf_len])
    have RI : Hid (Rd w4 ci (.slice (some ⟨gi, 0, none⟩) ow.length ci') ow) := ROWI.out.rd rfl
    have H24 := Lib.hid (plan_calls _ _ (bitsOf l) ow s N w4 RF.out RI.out (bits_lt l) (by rw [bitsOf_len]; have := HLM.out; omega) (by have := HOM.out; omega) HFW.out HPB.out)
    rw [HR.out] at H24
    have KE := Lib.hid KD
    clear KD KB ED EC EB
    go_wp2_with (first
      | (go_at_call 24; refine H24.out.mono ?_; clear H24; rintro e w5 ⟨hres, e5⟩
         obtain ⟨yv, rfl, hy⟩ := hres.use
         rw [HC.out]
         rw [HX.out] at hy
         have YV := Lib.hid hy
         have E5 := Lib.hid e5
         have b0 := e5.cell KE.out.1
         have b1 := e5.cell KE.out.2.1
         have H20 := Lib.hid (keptFloats_calls gf cf' _ l w5 (ROWF.out.ext e5) CF.out.1 CF.out.2 ((ER.out.trans e5).rd HL.out))
         clear hres hy e5)
      | (go_at_call 20; refine H20.out.mono ?_; clear H20; rintro e w6 ⟨rfl, k6, h6⟩
         have E6 := Lib.hid (E5.out.trans (ext_drewN' h6))
         have F6 := Lib.hid (ext_drewN' h6)
         have b1' := (ext_drewN' h6).cell b1
         have H14 := Lib.hid (keptInts_calls gi ci' _ ow w6 (ROWI.out.ext E6.out) CI.out.1 CI.out.2 ((ER.out.trans E6.out).rd HO.out))
         clear h6)
      | (go_at_call 14; refine H14.out.mono ?_; clear H14; rintro e w7 ⟨rfl, k7, h7⟩
         have E7 := Lib.hid (E6.out.trans (ext_drewN' h7))
         have F7 := Lib.hid (F6.out.trans (ext_drewN' h7))
         have H15 := Lib.hid (sameMoves_calls xv yv X w7 (XV.out.ext (EX.out.trans E7.out)) (YV.out.ext F7.out) (by have := HXL.out; rw [HX.out] at this; omega))
         clear h7)
      | (go_at_call 15; refine H15.out.mono ?_; clear H15; rintro e w8 ⟨rfl, k8, h8⟩
         have E8 := Lib.hid (E7.out.trans (ext_drewN' h8))
         clear h8)
      | fail)
    go_ret
    exact ⟨rfl, ER.out.trans E8.out⟩
theorem plans_walk' (lv ov : Value) (l : List (BitVec 64)) (ow : List Int) (s n : Int) (W : World) (hl : Rd W cw lv l) (ho : Rd W ci ov ow) (hlm : l.length * 8 ≤ 140737488351232) (hom : ow.length * 8 ≤ 140737488351232) (hs : -9223372036854775808 ≤ s ∧ s ≤ 9223372036854775807) (hn : -9223372036854775808 ≤ n ∧ n ≤ 9223372036854775807) :
    Calls Try.prog 5 #[.agg #[lv, ov, ci s], ci n] W fun e w' => e = .returned (.bool true) ∧ Below W.heap.size W w' :=
  (plans_walk lv ov l ow s n W hl ho hlm hom hs hn).mono fun e w' h => ⟨h.1, h.2.to⟩
end Go.Proofs.Ytkpjnikmcojdlaa
