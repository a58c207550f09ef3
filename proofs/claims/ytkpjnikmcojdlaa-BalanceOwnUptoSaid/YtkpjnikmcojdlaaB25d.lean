/- Layer 25 (balance): the owners behind moves: both. -/
import Derived.Test.YtkpjnikmcojdlaaB25c
namespace Go.Proofs.Ytkpjnikmcojdlaa
open Go.RowKit
set_option linter.unusedVariables false

def okMove (s : Int) (now : List Int) (m : Mv) : Prop := 0 ≤ m.1 ∧ m.1 < now.length ∧ now.getD m.1.toNat 0 = m.2.1 ∧ 0 ≤ m.2.2 ∧ m.2.2 < s ∧ m.2.2 ≠ m.2.1
instance (s : Int) (now : List Int) (m : Mv) : Decidable (okMove s now m) := by unfold okMove; exact inferInstance
def applyAll (s : Int) : List Int → List Mv → Option (List Int)
  | now, [] => some now
  | now, m :: r => if okMove s now m then applyAll s (now.set m.1.toNat m.2.2) r else none
theorem applyAll_nil (s : Int) (now : List Int) : applyAll s now [] = some now := rfl
theorem applyAll_cons (s : Int) (now : List Int) (m : Mv) (r : List Mv) : applyAll s now (m :: r) = if okMove s now m then applyAll s (now.set m.1.toNat m.2.2) r else none := rfl
attribute [irreducible] applyAll
def applied (l : List Int) (s : Int) (ms : List Mv) : Option (List Int) := if crowd l s = true then applyAll s l ms else none
def Res (B : Nat) (R : Option (List Int)) (e : Ending) (w' : World) : Prop :=
  (R = none ∧ e = .returned (.tuple #[.slice none 0 0, .int .i64 250])) ∨ ∃ L v', R = some L ∧ e = .returned (.tuple #[v', .int .i64 0]) ∧ Own w' B 3 ci v' L
set_option maxHeartbeats 2000000 in
theorem apply_calls (sv : Value) (l : List Int) (s : Int) (mv : Value) (ms : List Mv) (w : World) (hl : Rd w ci sv l) (hm : l.length * 8 ≤ 140737488351232) (hs : -9223372036854775808 ≤ s ∧ s ≤ 9223372036854775807) (hms : RdM w mv ms) (hmm : ms.length * 24 ≤ 140737488351232) :
    Calls Try.prog 13 #[sv, ci s, mv] w fun e w' => Res w.heap.size (applied l s ms) e w' ∧ Ext w w' := by
  have hm' : (l.length : Int) ≤ 17592186043904 := by omega
  have hmm' : (ms.length : Int) ≤ 5864062014634 := by omega
  have H33 := Lib.hid (crowd_calls sv l s w hl (by omega))
  have HL := Lib.hid hl
  have HM := Lib.hid hm
  have HMS := Lib.hid hms
  obtain ⟨ad, c, rfl, hat'⟩ := hms.at
  have HAT := Lib.hid (fun (w' : World) (e : Ext w w') => (hms.ext e).at)
  clear hms hl hm hmm hat'
  unfold applied
  obtain ⟨cr, hcr⟩ : ∃ b, crowd l s = b := ⟨_, rfl⟩
  rw [hcr] at H33 ⊢
  clear hcr
  cases cr with
  | false =>
    go_enter Try.func13, Try.ntmps13
    go_wp2_with (first
      | (go_at_call 33; refine H33.out.mono ?_; clear H33; rintro e w1 ⟨rfl, e1⟩; have E1 := Lib.hid e1; clear e1)
      | fail)
    go_ret2
    exact ⟨Or.inl ⟨rfl, rfl⟩, E1.out⟩
  | true =>
    obtain ⟨R, hR⟩ : ∃ R, applyAll s l ms = R := ⟨_, rfl⟩
    have HR0 := Lib.hid hR
    rw [hR]
    clear hR
    rw [if_pos rfl]
    go_enter Try.func13, Try.ntmps13
    go_wp2_with (first
      | (go_at_call 33; refine H33.out.mono ?_; clear H33; rintro e w1 ⟨rfl, e1⟩
         have E1 := Lib.hid e1
         have H34 := Lib.hid (clone_calls sv l w1 (e1.rd HL.out) HM.out)
         clear e1)
      | (go_at_call 34; refine H34.out.mono ?_; clear H34; rintro e w2 ⟨v', rfl, ho, e2⟩
         have O2 := Lib.hid (ho.mono E1.out.size)
         have E2 := Lib.hid (E1.out.trans e2)
         obtain ⟨qa, cc, rfl, -⟩ := ho.form
         clear ho e2)
      | fail)
    go_loopw [19] (fun iv wr => ∃ (k : Nat) (L : List Int), k ≤ ms.length ∧ iv = .int .i64 k ∧ Hid (Own wr w.heap.size 3 ci (.slice qa l.length cc) L ∧ Ext w wr ∧ L.length = l.length ∧ applyAll s L (ms.drop k) = R)) (fun iv _ => (ms.length - (intOf iv).toNat))
    case atStart => exact ⟨0, l, by omega, rfl, O2.out, E2.out, rfl, by rw [List.drop_zero]; exact HR0.out⟩
    case round =>
      clear HR0 O2 E2
      obtain ⟨k, L, hk, rfl, hT⟩ := hrel
      by_cases hlt : k < ms.length
      · obtain ⟨ad2, c2, hv, hcells⟩ := HAT.out wr hT.out.2.1
        injection hv with hv1 hv2 hv3
        subst hv1
        obtain ⟨b, o, rfl, a0, a1, a2⟩ := hcells k hlt
        have hstep := hT.out.2.2.2
        rw [List.drop_eq_getElem_cons hlt, applyAll_cons] at hstep
        have hLl := hT.out.2.2.1
        clear hcells hv2 hv3
        generalize ms[k] = m at *
        obtain ⟨x, f, t⟩ := m
        simp only at a0 a1 a2
        have HST := Lib.hid hstep
        have HLL := Lib.hid hLl
        clear hstep hLl
        have EX := Lib.hid (hT.out.2.1.alloc (.cells #[ci x, ci f, ci t] 29))
        have bad : Hid (¬ okMove s L (x, f, t) → R = none) := fun h => by
          have := HST.out
          rw [if_neg h] at this
          exact this.symm
        by_cases h1 : x < 0
        · have d1 : decide (x < 0) = true := decide_eq_true h1
          have hb := Lib.hid (bad.out (fun h => by have := h.1; omega))
          clear h1
          go_wp2_with fail
          go_quiet (fail)
          go_wp2_with fail
          go_ret2
          exact ⟨Or.inl ⟨hb.out, rfl⟩, EX.out.drewN _⟩
        · have d1 : decide (x < 0) = false := decide_eq_false h1
          by_cases h2 : (l.length : Int) ≤ x
          · have d2 : decide ((l.length : Int) ≤ x) = true := decide_eq_true h2
            have hb := Lib.hid (bad.out (fun h => by have := h.2.1; simp only at this; rw [HLL.out] at this; omega))
            clear h1 h2
            go_wp2_with fail
            go_quiet (fail)
            go_wp2_with fail
            go_ret2
            exact ⟨Or.inl ⟨hb.out, rfl⟩, EX.out.drewN _⟩
          · have d2 : decide ((l.length : Int) ≤ x) = false := decide_eq_false h2
            obtain ⟨j, rfl⟩ : ∃ j : Nat, x = (j : Int) := ⟨x.toNat, by omega⟩
            have hj : j < l.length := by omega
            have hjL : j < L.length := by rw [HLL.out]; exact hj
            obtain ⟨qa2, cc2, hv, hform⟩ := hT.out.1.form
            injection hv with hv1 hv2 hv3
            subst hv1
            obtain ⟨g, rfl, hgB, hgs, hcj, hfj, hset⟩ := hform j hjL
            have hgd : L.getD j 0 = L[j] := by rw [List.getD_eq_getElem?_getD, List.getElem?_eq_getElem hjL]; rfl
            have hcj' : (wr.alloc (.cells #[ci j, ci f, ci t] 29)).cell? ⟨g, j, none⟩ = some (ci L[j]) := by rw [World.cell?_alloc_lt _ _ _ hgs]; exact hcj
            have HSET := Lib.hid hset
            have HGD := Lib.hid hgd
            clear h1 h2 hform hset hv2 hv3 hgd
            generalize L[j] = y at *
            clear hjL
            have bad2 : Hid (¬ (y = f ∧ 0 ≤ t ∧ t < s ∧ t ≠ f) → R = none) := fun h => bad.out (fun h' => h (by
              obtain ⟨_, _, h3, h4⟩ := h'
              simp only [Int.toNat_natCast] at h3 h4
              rw [HGD.out] at h3
              exact ⟨h3, h4⟩))
            by_cases h3 : y = f
            · have d3 : (y != f) = false := by simp [h3]
              by_cases h4 : t = f
              · have d4 : (t == f) = true := by simp [h4]
                have hb := Lib.hid (bad2.out (fun h => h.2.2.2 h4))
                clear h3 h4
                go_wp2_with fail
                go_quiet (fail)
                go_wp2_with fail
                go_ret2
                exact ⟨Or.inl ⟨hb.out, rfl⟩, EX.out.drewN _⟩
              · have d4 : (t == f) = false := by simp [h4]
                by_cases h5 : t < 0
                · have d5 : decide (t < 0) = true := decide_eq_true h5
                  have hb := Lib.hid (bad2.out (fun h => by have := h.2.1; omega))
                  clear h3 h4 h5
                  go_wp2_with fail
                  go_quiet (fail)
                  go_wp2_with fail
                  go_ret2
                  exact ⟨Or.inl ⟨hb.out, rfl⟩, EX.out.drewN _⟩
                · have d5 : decide (t < 0) = false := decide_eq_false h5
                  by_cases h6 : s ≤ t
                  · have d6 : decide (s ≤ t) = true := decide_eq_true h6
                    have hb := Lib.hid (bad2.out (fun h => by have := h.2.2.1; omega))
                    clear h3 h4 h5 h6
                    go_wp2_with fail
                    go_quiet (fail)
                    go_wp2_with fail
                    go_ret2
                    exact ⟨Or.inl ⟨hb.out, rfl⟩, EX.out.drewN _⟩
                  · have d6 : decide (s ≤ t) = false := decide_eq_false h6
                    have hgo : Hid (applyAll s (L.set j t) (ms.drop (k + 1)) = R) := by
                      show _ = _
                      have := HST.out
                      rw [if_pos ⟨by simp only; omega, by simp only; rw [HLL.out]; omega, by simp only [Int.toNat_natCast]; rw [HGD.out]; exact h3, by simp only; omega, by simp only; omega, h4⟩] at this
                      simpa using this
                    clear h3 h4 h5 h6
                    go_wp2_with fail
                    go_quiet (fail)
                    go_wp2_with fail
                    go_roundw
                    case measure => simp only [intOf]; omega
                    case rel => exact ⟨k + 1, L.set j t, by omega, by go_num, (HSET.out t).alloc.drewN, ((hT.out.2.1.set hgB _).alloc _).drewN _, by rw [List.length_set]; exact HLL.out, hgo.out⟩
            · have d3 : (y != f) = true := by simp [h3]
              have hb := Lib.hid (bad2.out (fun h => h3 h.1))
              clear h3
              go_wp2_with fail
              go_quiet (fail)
              go_wp2_with fail
              go_ret2
              exact ⟨Or.inl ⟨hb.out, rfl⟩, EX.out.drewN _⟩
      · obtain rfl : ms.length = k := by omega
        have hR := hT.out.2.2.2
        rw [List.drop_length, applyAll_nil] at hR
        have HR := Lib.hid hR
        clear hk hlt hR
        go_wp2_with fail
        go_ret2
        exact ⟨Or.inr ⟨L, _, HR.out.symm, rfl, hT.out.1⟩, hT.out.2.1⟩
end Go.Proofs.Ytkpjnikmcojdlaa
