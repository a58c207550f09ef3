/- Layer 25 (balance): that the program is awake; the fullest server. -/
import Derived.Test.YtkpjnikmcojdlaaP25b
import Derived.Test.YtkpjnikmcojdlaaB25p
import Derived.Deep.DeepCutAuto
namespace Go.Proofs.Ytkpjnikmcojdlaa
open Go.RowKit
set_option linter.unusedVariables false

def awL : List Nat := [4617315517961601024, 4613937818241073152, 4611686018427387904]
def awO : List Int := [0, 0, 1]
theorem vL : V cf awL = #[cf 4617315517961601024, cf 4613937818241073152, cf 4611686018427387904] := by simp [V, awL]
theorem vO : V ci awO = #[ci 0, ci 0, ci 1] := by simp [V, awO]
theorem aw_sums : sumsR awL awO 2 = some [4620693217682128896, 4611686018427387904] := by kernel_rfl
theorem aw_right : rightB awL awO 2 = true := by kernel_rfl
theorem aw_plan9 : planF awL 2 9 awO = [(1, 0, 1)] := by kernel_rfl
theorem aw_none : rightB awL awO 0 = false := by kernel_rfl
theorem rd_mk {α : Type} {w w' : World} {f : α → Value} {g T n : Nat} {l : List α} (h : Blk w g (V f l) T) (e : Ext w w') (hn : n = l.length) (h0 : 0 < l.length) : Rd w' f (.slice (some ⟨g, 0, none⟩) n n) l := by
  subst hn
  refine Or.inr ⟨g, 0, _, _, rfl, rfl, h0, fun i hi => ?_⟩
  rw [Nat.zero_add, (h.ext e).cell, V_get, List.getElem?_eq_getElem hi]
  rfl
theorem rd_pair (w : World) (a b : Nat) : Rd (w.alloc (.cells #[cf a, cf b] 48)) cf (.slice (some ⟨w.heap.size, 0, none⟩) 2 2) [a, b] := by
  have h := Blk.new w (V cf [a, b]) 48
  have e : V cf [a, b] = #[cf a, cf b] := by simp [V]
  rw [e] at h
  rw [← e] at h
  have h2 := rd_mk h (Ext.refl _) rfl (by simp)
  rw [e] at h2
  exact h2
set_option maxHeartbeats 1000000 in
theorem awake_calls (w : World) : Calls Try.prog 25 #[] w fun e w' => e = .returned (.bool true) ∧ Ext w w' := by
  obtain ⟨w1, hw1⟩ : ∃ x, (w.alloc (.cells #[cf 4617315517961601024, cf 4613937818241073152, cf 4611686018427387904] 48)).alloc (.cells #[ci 0, ci 0, ci 1] 3) = x := ⟨_, rfl⟩
  have X1 : Hid (Ext w w1) := by rw [← hw1]; exact Ext.of_alloc2 _ _
  have RL : Hid (∀ w', Ext w1 w' → Rd w' cf (.slice (some ⟨w.heap.size, 0, none⟩) 3 3) awL) := fun w' e => by
    have hb : Blk w1 w.heap.size (V cf awL) 48 := by rw [← hw1, vL]; exact (Blk.new w _ 48).alloc _
    exact rd_mk hb e rfl (by decide)
  have RO : Hid (∀ w', Ext w1 w' → Rd w' ci (.slice (some ⟨w.heap.size + 1, 0, none⟩) 3 3) awO) := fun w' e => by
    have hb := Blk.new (w.alloc (.cells #[cf 4617315517961601024, cf 4613937818241073152, cf 4611686018427387904] 48)) (V ci awO) 3
    rw [World.size_alloc] at hb
    have hb' : Blk w1 (w.heap.size + 1) (V ci awO) 3 := by rw [← hw1, vO]; rw [vO] at hb; exact hb
    exact rd_mk hb' e rfl (by decide)
  have HB : Hid (∀ x ∈ awL, x < 18446744073709551616) := fun x hx => by
    simp [awL] at hx
    omega
  have S1 := Lib.hid (bsums_calls _ _ awL awO 2 w1 (RL.out w1 (Ext.refl _)) (RO.out w1 (Ext.refl _)) HB.out (by decide) (by decide))
  rw [aw_sums] at S1
  have hp9 : ∀ w', Ext w1 w' → Calls Try.prog 24 #[.slice (some ⟨w.heap.size, 0, none⟩) 3 3, .slice (some ⟨w.heap.size + 1, 0, none⟩) 3 3, ci 2, ci 9] w' fun e w'' => ResM w'.heap.size (some [(1, 0, 1)]) e w'' ∧ Ext w' w'' := fun w' e => by
    have h := plan_calls _ _ awL awO 2 9 w' (RL.out w' e) (RO.out w' e) HB.out (by decide) (by decide) (by omega) (fun _ => by rw [show planF awL (2 : Int).toNat (9 : Int).toNat awO = [(1, 0, 1)] from aw_plan9]; decide)
    have e2 : planR awL awO 2 9 = some [(1, 0, 1)] := by
      unfold planR
      rw [aw_right, if_pos rfl]
      exact congrArg some aw_plan9
    rw [e2] at h
    exact h
  have hp0 : ∀ w', Ext w1 w' → Calls Try.prog 24 #[.slice (some ⟨w.heap.size, 0, none⟩) 3 3, .slice (some ⟨w.heap.size + 1, 0, none⟩) 3 3, ci 0, ci 9] w' fun e w'' => ResM w'.heap.size none e w'' ∧ Ext w' w'' := fun w' e => by
    have h := plan_calls _ _ awL awO 0 9 w' (RL.out w' e) (RO.out w' e) HB.out (by decide) (by decide) (by omega) (fun h => by rw [aw_none] at h; cases h)
    have e2 : planR awL awO 0 9 = none := by
      unfold planR
      rw [aw_none]; rfl
    rw [e2] at h
    exact h
  have HP9 := Lib.hid hp9
  have HP0 := Lib.hid hp0
  have HW1 := Lib.hid hw1
  clear hp9 hp0 hw1
  go_enter Try.func25, Try.ntmps25
  go_upto_region 2 with fail
  rw [HW1.out]
  have HX := Lib.hid (Ext.refl w1)
  go_wp2_with (first
    | (go_at_call 19; refine S1.out.mono ?_; clear S1; rintro e w2 ⟨hres, e2⟩
       have hr : Hid (∃ v, e = .returned (.tuple #[v, ci 0]) ∧ Rd w2 cf v [4620693217682128896, 4611686018427387904]) := by
         rcases hres with ⟨h, _⟩ | ⟨L, v, h1, h2, h3⟩
         · cases h
         · cases h1; exact ⟨v, h2, h3.rd⟩
       obtain ⟨sv, he, hrd⟩ := hr.out
       subst he
       have RS := Lib.hid hrd
       have E2 := Lib.hid e2
       have P2 := Lib.hid (HP9.out w2 e2)
       clear hres hr hrd e2 HP9)
    | (go_at_call 24; refine P2.out.mono ?_; clear P2; rintro e w3 ⟨hres, e3⟩
       have hr : Hid (∃ v, e = .returned (.tuple #[v, ci 0]) ∧ RdM w3 v [(1, 0, 1)]) := by
         rcases hres with ⟨h, _⟩ | ⟨L, v, h1, h2, h3⟩
         · cases h
         · cases h1; exact ⟨v, h2, h3.rd⟩
       obtain ⟨pv, he, hrd⟩ := hr.out
       subst he
       have RP := Lib.hid hrd
       have F3 := Lib.hid e3
       have E3 := Lib.hid (E2.out.trans e3)
       have P3 := Lib.hid (HP0.out w3 E3.out)
       clear hres hr hrd e3 HP0)
    | (go_at_call 24; refine P3.out.mono ?_; clear P3; rintro e w4 ⟨hres, e4⟩
       have he : e = .returned (.tuple #[.slice none 0 0, ci 250]) := by
         rcases hres with ⟨_, h⟩ | ⟨L, v, h1, _⟩
         · exact h
         · cases h1
       subst he
       have E4 := Lib.hid (E3.out.trans e4)
       have G4 := Lib.hid (F3.out.trans e4)
       have F4 := Lib.hid e4
       clear hres e4)
    | (go_at_call 21; refine (sameFloats_calls _ _ [4620693217682128896, 4611686018427387904] _ ((G4.out.trans (Ext.of_alloc _)).rd RS.out) (rd_pair _ _ _) (by decide)).mono ?_
       rintro e w5 ⟨rfl, k5, h5⟩
       have E5 := Lib.hid (show Ext w4 w5 by rw [← h5]; exact (Ext.of_alloc _).drewN k5)
       clear h5)
    | (go_at_call 15; refine (sameMoves_calls _ _ [(1, 0, 1)] _ (RP.out.ext ((F4.out.trans E5.out).trans (Ext.of_alloc _))) (lent_one _ (1, 0, 1)) (by decide)).mono ?_
       rintro e w6 ⟨rfl, k6, h6⟩
       have E6 := Lib.hid (show Ext w5 w6 by rw [← h6]; exact (Ext.of_alloc _).drewN k6)
       clear h6)
    | fail)
  go_ret
  exact ⟨rfl, ((X1.out.trans E4.out).trans E5.out).trans E6.out⟩
theorem fullest_calls (sv : Value) (S : List Nat) (w : World) (hs : Rd w cf sv S) (hg : ∀ x ∈ S, good x) (hm : S.length ≤ 8) :
    Calls Try.prog 26 #[sv] w fun e w' => e = .returned (ci (fullOf S)) ∧ ∃ n, w.drewN n = w' := by
  have hm' : (S.length : Int) ≤ 8 := by omega
  obtain ⟨ad, c, rfl, hat⟩ := hs.at
  have HA := Lib.hid hat
  have HG := Lib.hid hg
  have HF : Hid (fullTo S S.length = fullOf S) := rfl
  clear hs hg hat
  go_enter Try.func26, Try.ntmps26
  go_wp2_with fail
  go_loopw [3, 4] (fun fv iv wr => ∃ (k d : Nat), k ≤ S.length ∧ iv = .int .i64 k ∧ fv = ci (fullTo S k) ∧ wr = w.drewN d) (fun _ iv _ => (S.length - (intOf iv).toNat))
  case atStart => exact ⟨0, 0, by omega, rfl, rfl, rfl⟩
  case round =>
    obtain ⟨k, d, hk, rfl, rfl, rfl⟩ := hrel
    by_cases hlt : k < S.length
    · have hfk : fullTo S k < S.length := by have := (fullTo_spec S k).1; omega
      have hsx := fullTo_succ S k
      unfold fstep at hsx
      obtain ⟨j, hj⟩ : ∃ j, fullTo S k = j := ⟨_, rfl⟩
      rw [hj] at hfk hsx ⊢
      have ho := ord_gt (HG.out _ (getD_mem S k hlt)) (HG.out _ (getD_mem S j hfk))
      obtain ⟨b, o, rfl, hc⟩ := HA.out k hlt
      obtain ⟨b', o', he, hc2⟩ := HA.out j hfk
      injection he with he
      injection he with e1 e2 _
      subst e1 e2
      rw [← getD_eq 0 hlt] at hc
      rw [← getD_eq 0 hfk] at hc2
      generalize S.getD k 0 = x at *
      generalize S.getD j 0 = y at *
      have hji : (j : Int) < S.length := by omega
      have HS := Lib.hid hsx
      clear hsx hj
      by_cases hxy : y < x
      · rw [decide_eq_true hxy] at ho
        have HS2 : Hid (fullTo S (k + 1) = k) := by show _ = _; rw [HS.out, if_pos hxy]
        clear hxy
        go_wp2_with fail
        go_quiet (fail)
        go_wp2_with fail
        go_roundw
        case measure => simp only [intOf]; omega
        case rel => exact ⟨k + 1, _, by omega, by go_num, by rw [HS2.out], rfl⟩
      · rw [decide_eq_false hxy] at ho
        have HS2 : Hid (fullTo S (k + 1) = j) := by show _ = _; rw [HS.out, if_neg hxy]
        clear hxy
        go_wp2_with fail
        go_quiet (fail)
        go_wp2_with fail
        go_roundw
        case measure => simp only [intOf]; omega
        case rel => exact ⟨k + 1, _, by omega, by go_num, by rw [HS2.out], rfl⟩
    · obtain rfl : S.length = k := by omega
      rw [HF.out]
      clear hk hlt
      go_wp2_with fail
      go_ret
      exact ⟨rfl, _, rfl⟩
end Go.Proofs.Ytkpjnikmcojdlaa
