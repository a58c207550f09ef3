/- Layer 25 (balance): plans, by both. -/
import Derived.Test.YtkpjnikmcojdlaaB25n
import Derived.Test.YtkpjnikmcojdlaaB25f
namespace Go.Proofs.Ytkpjnikmcojdlaa
open Go.RowKit
set_option linter.unusedVariables false

noncomputable def planR (ld : List Nat) (ow : List Int) (s most : Int) : Option (List Mv) := if rightB ld ow s = true then some (planF ld s.toNat most.toNat ow) else none
def ResM (B : Nat) (R : Option (List Mv)) (e : Ending) (w' : World) : Prop :=
  (R = none ∧ e = .returned (.tuple #[.slice none 0 0, ci 250])) ∨ ∃ P v', R = some P ∧ e = .returned (.tuple #[v', ci 0]) ∧ OwnM w' B v' P
theorem Rt.step {ld : List Nat} {O : List Int} {n i t : Nat} (h : Rt ld O (n : Int)) (ht : t < n) : Rt ld (O.set i (t : Int)) (n : Int) :=
  ⟨by rw [List.length_set]; exact h.len, by rw [List.length_set]; exact h.many, h.lo, h.hi, h.nn, fun o ho => by
    rcases List.mem_or_eq_of_mem_set ho with h1 | h1
    · exact h.own o h1
    · subst h1; unfold stranger; simp; omega⟩
theorem OwnM.kept {w w' : World} {B : Nat} {v : Value} {l : List Mv} {row : Option Nat} (h : OwnM w B v l) (hg : w.grownBy w' row) (hne : v.ownBlock = none ∨ v.ownBlock ≠ row) : OwnM w' B v l := World.ownsRow.kept h hg hne
theorem ownM_other {α : Type} {w : World} {B B' : Nat} {T : TypeId} {f : α → Value} {v v' : Value} {l : List α} {m : List Mv} (h : OwnM w B v m) (h' : Own w B' T f v' l) (ht : T ≠ 29) : v.ownBlock = none ∨ v.ownBlock ≠ v'.ownBlock := by
  obtain ⟨h1, ⟨rfl, h0⟩ | ⟨g, cap, cur, rfl, hB, hg, _⟩⟩ := h
  · exact Or.inl rfl
  · exact Or.inr (h'.type (show Blk w g cur 29 from hg) ht)
theorem own_otherM {α : Type} {w : World} {B B' : Nat} {T : TypeId} {f : α → Value} {v v' : Value} {l : List α} {m : List Mv} (h : OwnM w B v m) (h' : Own w B' T f v' l) (ht : T ≠ 29) : v'.ownBlock = none ∨ v'.ownBlock ≠ v.ownBlock := by
  rcases ownM_other h h' ht with h1 | h1
  · cases hv : v'.ownBlock with
    | none => exact Or.inl rfl
    | some k => right; rw [h1]; intro e; cases e
  · exact Or.inr (Ne.symm h1)
theorem OwnM.form {w : World} {B : Nat} {v : Value} {l : List Mv} (h : OwnM w B v l) : ∃ a c, v = .slice a l.length c := by
  obtain ⟨h1, ⟨rfl, h0⟩ | ⟨g, cap, cur, rfl, _⟩⟩ := h
  · exact ⟨none, 0, by rw [h0]⟩
  · exact ⟨_, _, rfl⟩
theorem OwnM.lt {w : World} {B : Nat} {v : Value} {l : List Mv} (h : OwnM w B v l) : ∀ k, v.ownBlock = some k → B ≤ k ∧ k < w.heap.size := World.ownsRow.lt h
def lenV : Value → Nat
  | .slice _ n _ => n
  | _ => 0
set_option maxHeartbeats 4000000 in
set_option maxRecDepth 100000 in
theorem plan_calls (lv ov : Value) (ld : List Nat) (ow : List Int) (s most : Int) (w : World) (hl : Rd w cf lv ld) (ho : Rd w ci ov ow) (hb : ∀ x ∈ ld, x < 18446744073709551616) (hlm : ld.length ≤ 17592186043904) (hom : ow.length ≤ 17592186043904) (hmo : -9223372036854775808 ≤ most ∧ most ≤ 9223372036854775807) (hp : rightB ld ow s = true → (planF ld s.toNat most.toNat ow).length ≤ 400) :
    Calls Try.prog 24 #[lv, ov, ci s, ci most] w fun e w' => ResM w.heap.size (planR ld ow s most) e w' ∧ Ext w w' := by
  have H38 := Lib.hid (right_calls lv ov ld ow s w hl ho hb (by omega) (by omega))
  have HL := Lib.hid hl
  have HO := Lib.hid ho
  have HB := Lib.hid hb
  have HOM := Lib.hid hom
  unfold planR
  cases hr : rightB ld ow s with
  | false =>
    rw [hr] at H38
    clear hl ho hb hp
    go_enter Try.func24, Try.ntmps24
    go_wp2_with (first | (go_at_call 38; refine H38.out.mono ?_; clear H38; rintro e w1 ⟨rfl, e1⟩; have E1 := Lib.hid e1; clear e1) | fail)
    go_ret2
    exact ⟨Or.inl ⟨by simp, rfl⟩, E1.out⟩
  | true =>
    rw [hr] at H38
    have rt := right_rt hb hr
    obtain ⟨n, rfl⟩ : ∃ n : Nat, s = (n : Int) := ⟨s.toNat, by have := rt.lo; omega⟩
    have hp' := hp hr
    rw [Int.toNat_natCast] at hp'
    simp only [if_true, Int.toNat_natCast]
    obtain ⟨F, hF⟩ : ∃ F, planF ld n most.toNat ow = F := ⟨_, rfl⟩
    rw [hF] at hp' ⊢
    have HF := Lib.hid hF
    have HP := Lib.hid hp'
    have RT := Lib.hid rt
    clear hl ho hb hp hr rt hF hp'
    go_enter Try.func24, Try.ntmps24
    go_wp2_with (first
      | (go_at_call 38; refine H38.out.mono ?_; clear H38; rintro e w1 ⟨rfl, e1⟩
         have E1 := Lib.hid e1
         have H34 := Lib.hid (clone_calls ov ow w1 (e1.rd HO.out) (by have := HOM.out; omega))
         clear e1)
      | (go_at_call 34; refine H34.out.mono ?_; clear H34; rintro e w2 ⟨nv, rfl, o2, e2⟩
         have T2 : Hid (Own w2 w.heap.size 3 ci nv ow ∧ Ext w w2) := ⟨o2.mono E1.out.size, E1.out.trans e2⟩
         clear o2 e2 E1)
      | fail)
    go_loopw [11, 12, 13] (fun pv0 _ _ wr => ∃ (P : List Mv) (O : List Int) (pv : Value), pv = pv0 ∧ P.length ≤ 400 ∧ Hid (OwnM wr w.heap.size pv P ∧ Own wr w.heap.size 3 ci nv O ∧ Ext w wr ∧ Rt ld O (n : Int) ∧ P ++ planF ld n (most.toNat - P.length) O = F)) (fun pv0 _ _ _ => most.toNat - lenV pv0)
    case atStart => exact ⟨[], ow, _, rfl, by simp, OwnM.nil, T2.out.1, T2.out.2, RT.out, by rw [List.nil_append]; exact HF.out⟩
    case round =>
      clear T2 HF RT
      obtain ⟨P, O, pv, rfl, hP, hT⟩ := hrel
      obtain ⟨pa, pc, rfl⟩ := hT.out.1.form
      by_cases hlt : (P.length : Int) < most
      · have t1 : decide ((P.length : Int) < most) = true := decide_eq_true hlt
        have N1 := Lib.hid (next_calls lv nv ld O n w wr hT.out.2.2.1 HL.out hT.out.2.1 hT.out.2.2.2.1)
        cases hm : nextM ld O n with
        | none =>
          rw [hm] at N1
          have HE : Hid (P = F) := by
            show _ = _
            have h := hT.out.2.2.2.2
            rw [planF_none _ hm, List.append_nil] at h
            exact h
          have N2 : Hid (Calls Try.prog 42 #[lv, nv, ci n] wr fun e w' => e = .returned (.tuple #[.agg #[ci 0, ci 0, ci 0], .bool false]) ∧ Own w' w.heap.size 3 ci nv O ∧ Ext w w' ∧ wr.grownBy w' nv.ownBlock) := N1.out
          clear hm hlt N1
          go_wp2_with (first
            | (go_at_call 42; refine N2.out.mono ?_; clear N2; rintro e w3 ⟨rfl, o3, e3, g3⟩
               have P3 : Hid (OwnM w3 w.heap.size (.slice pa P.length pc) P ∧ Ext w w3) := ⟨hT.out.1.kept g3 (ownM_other hT.out.1 hT.out.2.1 (by decide)), e3⟩
               clear o3 e3 g3)
            | fail)
          go_ret2
          exact ⟨Or.inr ⟨F, _, rfl, rfl, by rw [← HE.out]; exact P3.out.1.ext (Ext.of_alloc _)⟩, P3.out.2.trans (Ext.of_alloc _)⟩
        | some m =>
          rw [hm] at N1
          obtain ⟨h1, h2, h3, h4, h5⟩ := nextM_ok hm
          obtain ⟨F2, hF2⟩ : ∃ x, planF ld n (most.toNat - (P.length + 1)) (O.set m.1 (m.2 : Int)) = x := ⟨_, rfl⟩
          obtain ⟨f, hf⟩ : ∃ f, fullOf (sumsOf ld O n) = f := ⟨_, rfl⟩
          have HE : Hid (P ++ mvOf f m :: F2 = F) := by
            show _ = _
            have h := hT.out.2.2.2.2
            rw [show most.toNat - P.length = (most.toNat - (P.length + 1)) + 1 by omega, planF_some _ hm, hF2, hf] at h
            exact h
          have HPL : Hid (P.length + 1 ≤ 400) := by
            show _ ≤ _
            have := HP.out
            rw [← HE.out, List.length_append, List.length_cons] at this
            omega
          have HF2 := Lib.hid hF2
          have RT2 := Lib.hid (hT.out.2.2.2.1.step h3 (i := m.1))
          rw [hf] at N1
          have N2 : Hid (Calls Try.prog 42 #[lv, nv, ci n] wr fun e w' => e = .returned (.tuple #[.agg #[ci m.1, ci f, ci m.2], .bool true]) ∧ Own w' w.heap.size 3 ci nv O ∧ Ext w w' ∧ wr.grownBy w' nv.ownBlock) := N1.out
          have HM1 := Lib.hid h1
          have hLP : Hid ((P.length : Int) < most) := hlt
          clear hm h1 h2 h3 h4 h5 hf hF2 N1 hlt
          go_wp2_with (first
            | (go_at_call 42; refine N2.out.mono ?_; clear N2; rintro e w3 ⟨rfl, o3, e3, g3⟩
               have x4 : Ext w3 ((w3.alloc (.cells #[ci m.1, ci f, ci m.2] 29)).alloc (.cells #[ci m.1, ci f, ci m.2] 29)) := Ext.of_alloc2 _ _
               have p3 := hT.out.1.kept g3 (ownM_other hT.out.1 hT.out.2.1 (by decide))
               have P4 := Lib.hid (p3.ext x4)
               have O4 := Lib.hid (x4.own o3)
               have E4 := Lib.hid (e3.trans x4)
               have HLT := Lib.hid (fun k hk => (p3.lt k hk).2)
               have B4 : Hid (Blk ((w3.alloc (.cells #[ci m.1, ci f, ci m.2] 29)).alloc (.cells #[ci m.1, ci f, ci m.2] 29)) w3.heap.size #[ci m.1, ci f, ci m.2] 29) := (Blk.new w3 _ _).alloc _
               have R4 : Hid (RdM ((w3.alloc (.cells #[ci m.1, ci f, ci m.2] 29)).alloc (.cells #[ci m.1, ci f, ci m.2] 29)) (.slice (some ⟨w3.heap.size + 1, 0, none⟩) 1 1) [mvOf f m]) := by
                 have h := lent_one (w3.alloc (.cells #[ci m.1, ci f, ci m.2] 29)) (mvOf f m)
                 rw [World.size_alloc] at h
                 exact h
               have BY : Hid ((P.length + [mvOf f m].length) * 24 ≤ 140737488355328) := by show _ ≤ _; have := HPL.out; simp; omega
               have SZ := Lib.hid E4.out.size
               clear x4 p3 o3 e3 g3)
            | (at_builtin; refine wpList_append_moves rfl (.tmp 34) (.tmp 36) rfl w.heap.size _ P rfl P4.out _ [mvOf f m] rfl R4.out BY.out SZ.out ?_
               intro pv' w5 o5 g5 hb5
               have O5 := Lib.hid (O4.out.kept g5 (own_otherM P4.out O4.out (by decide)))
               have E5 := Lib.hid (E4.out.grown g5 (fun k hk => (P4.out.lt k hk).1))
               have B5 := Lib.hid (B4.out.grown g5 (fun e => by have := HLT.out _ e.symm; omega))
               have P5 := Lib.hid o5
               obtain ⟨qa, cc, rfl, hform⟩ := O5.out.form
               obtain ⟨og, rfl, hB, hgl, hcg, hfg, hset⟩ := hform m.1 HM1.out
               have c0 : w5.cell? ⟨w3.heap.size, 0, none⟩ = some (ci m.1) := B5.out.cell 0
               have c2 : w5.cell? ⟨w3.heap.size, 2, none⟩ = some (ci m.2) := B5.out.cell 2
               have O6 := Lib.hid (hset (m.2 : Int))
               have E6 := Lib.hid (E5.out.set (p := ⟨og, m.1, none⟩) hB (ci (m.2 : Int)))
               have P6 := Lib.hid (P5.out.kept (grown_set w5 og m.1 (ci (m.2 : Int))) (ownM_other P5.out O5.out (by decide)))
               have HMI : (m.1 : Int) < O.length := by have := HM1.out; omega
               have HMN := HM1.out
               clear hform hset o5 g5 hb5 P4 R4 O4 E4 B4 BY SZ HLT)
            | fail)
          obtain ⟨pa', pc', rfl⟩ := P5.out.form
          refine ⟨⟨P ++ [mvOf f m], O.set m.1 (m.2 : Int), _, rfl, by rw [List.length_append]; exact HPL.out, P6.out, O6.out, E6.out, RT2.out, ?_⟩, ?_⟩
          · rw [List.length_append, List.length_singleton, HF2.out, List.append_assoc]
            exact HE.out
          · have := hLP.out
            simp only [lenV, List.length_append, List.length_singleton]
            omega
      · have t1 : decide ((P.length : Int) < most) = false := decide_eq_false hlt
        have HE : Hid (P = F) := by
          show _ = _
          have h := hT.out.2.2.2.2
          rw [show most.toNat - P.length = 0 by omega, planF_zero, List.append_nil] at h
          exact h
        clear hlt
        go_wp2_with fail
        go_ret2
        exact ⟨Or.inr ⟨F, _, rfl, rfl, by rw [← HE.out]; exact hT.out.1⟩, hT.out.2.2.1⟩
set_option maxHeartbeats 4000000 in
set_option maxRecDepth 100000 in
theorem rplan_calls (lv ov : Value) (ld : List Nat) (ow : List Int) (s most : Int) (w : World) (hl : Rd w cf lv ld) (ho : Rd w ci ov ow) (hb : ∀ x ∈ ld, x < 18446744073709551616) (hlm : ld.length ≤ 17592186043904) (hom : ow.length ≤ 17592186043904) (hmo : -9223372036854775808 ≤ most ∧ most ≤ 9223372036854775807) (hp : rightB ld ow s = true → (planF ld s.toNat most.toNat ow).length ≤ 400) :
    Calls Try.prog 23 #[lv, ov, ci s, ci most] w fun e w' => ResM w.heap.size (planR ld ow s most) e w' ∧ Ext w w' := by
  have H38 := Lib.hid (rright_calls lv ov ld ow s w hl ho hb (by omega) (by omega))
  have HL := Lib.hid hl
  have HO := Lib.hid ho
  have HB := Lib.hid hb
  have HOM := Lib.hid hom
  unfold planR
  cases hr : rightB ld ow s with
  | false =>
    rw [hr] at H38
    clear hl ho hb hp
    go_enter Try.func23, Try.ntmps23
    go_wp2_with (first | (go_at_call 35; refine H38.out.mono ?_; clear H38; rintro e w1 ⟨rfl, rfl⟩) | fail)
    go_ret2
    exact ⟨Or.inl ⟨by simp, rfl⟩, Ext.refl _⟩
  | true =>
    rw [hr] at H38
    have rt := right_rt hb hr
    obtain ⟨n, rfl⟩ : ∃ n : Nat, s = (n : Int) := ⟨s.toNat, by have := rt.lo; omega⟩
    have hp' := hp hr
    rw [Int.toNat_natCast] at hp'
    simp only [if_true, Int.toNat_natCast]
    obtain ⟨F, hF⟩ : ∃ F, planF ld n most.toNat ow = F := ⟨_, rfl⟩
    rw [hF] at hp' ⊢
    have HF := Lib.hid hF
    have HP := Lib.hid hp'
    have RT := Lib.hid rt
    obtain ⟨i3, j1, j2, j3, j4⟩ := info_parts Try.info3
    have hz : i3.zero = some (ci 0) := j2
    have O0 : Hid (Own w w.heap.size 3 ci (.slice none 0 0) []) := Own.nil
    have hom64 : ow.length ≤ 64 := rt.many
    have BB : Hid ((([] : List Int).length + ow.length) * 8 ≤ 140737488355328) := by show _ ≤ _; simp; omega
    have MM : Hid ((([] : List Int).length + ow.length) ≤ 9223372036854775807) := by show _ ≤ _; simp; omega
    clear hl ho hb hp hr rt hF hp'
    go_enter Try.func23, Try.ntmps23
    go_wp2_with (first
      | (go_at_call 35; refine H38.out.mono ?_; clear H38; rintro e w1 ⟨rfl, rfl⟩)
      | (at_builtin; refine wpList_append_rd ci ci_one rfl (.tmp 19) (.tmp 20) 22 rfl w.heap.size 3 i3 0 8 Try.u22 j1 hz j3 j4 rfl (.slice none 0 0) [] rfl O0.out _ ow rfl HO.out BB.out MM.out (Nat.le_refl _) ?_
         intro nv w2 o1 g1
         rw [List.nil_append] at o1
         have T2 : Hid (Own w2 w.heap.size 3 ci nv ow ∧ Ext w w2) := ⟨o1, (Ext.refl w).grown g1 (fun k hk => by cases hk)⟩
         clear o1 g1)
      | fail)
    go_loopw [11, 12, 13] (fun pv0 _ _ wr => ∃ (P : List Mv) (O : List Int) (pv : Value), pv = pv0 ∧ P.length ≤ 400 ∧ Hid (OwnM wr w.heap.size pv P ∧ Own wr w.heap.size 3 ci nv O ∧ Ext w wr ∧ Rt ld O (n : Int) ∧ P ++ planF ld n (most.toNat - P.length) O = F)) (fun pv0 _ _ _ => most.toNat - lenV pv0)
    case atStart => exact ⟨[], ow, _, rfl, by simp, OwnM.nil, T2.out.1, T2.out.2, RT.out, by rw [List.nil_append]; exact HF.out⟩
    case round =>
      clear T2 HF RT
      obtain ⟨P, O, pv, rfl, hP, hT⟩ := hrel
      obtain ⟨pa, pc, rfl⟩ := hT.out.1.form
      by_cases hlt : (P.length : Int) < most
      · have t1 : decide ((P.length : Int) < most) = true := decide_eq_true hlt
        have N1 := Lib.hid (best_calls lv nv ld O n wr (hT.out.2.2.1.rd HL.out) hT.out.2.1.rd hT.out.2.2.2.1)
        cases hm : nextM ld O n with
        | none =>
          rw [hm] at N1
          have HE : Hid (P = F) := by
            show _ = _
            have h := hT.out.2.2.2.2
            rw [planF_none _ hm, List.append_nil] at h
            exact h
          have N2 : Hid (Calls Try.prog 41 #[lv, nv, ci n] wr fun e w' => e = .returned (.tuple #[.agg #[ci 0, ci 0, ci 0], .bool false]) ∧ Ext wr w') := N1.out
          clear hm hlt N1
          go_wp2_with (first
            | (go_at_call 41; refine N2.out.mono ?_; clear N2; rintro e w3 ⟨rfl, e3⟩
               have P3 : Hid (OwnM w3 w.heap.size (.slice pa P.length pc) P ∧ Ext w w3) := ⟨hT.out.1.ext e3, hT.out.2.2.1.trans e3⟩
               clear e3)
            | fail)
          go_ret2
          exact ⟨Or.inr ⟨F, _, rfl, rfl, by rw [← HE.out]; exact P3.out.1.ext (Ext.of_alloc _)⟩, P3.out.2.trans (Ext.of_alloc _)⟩
        | some m =>
          rw [hm] at N1
          obtain ⟨h1, h2, h3, h4, h5⟩ := nextM_ok hm
          obtain ⟨F2, hF2⟩ : ∃ x, planF ld n (most.toNat - (P.length + 1)) (O.set m.1 (m.2 : Int)) = x := ⟨_, rfl⟩
          obtain ⟨f, hf⟩ : ∃ f, fullOf (sumsOf ld O n) = f := ⟨_, rfl⟩
          have HE : Hid (P ++ mvOf f m :: F2 = F) := by
            show _ = _
            have h := hT.out.2.2.2.2
            rw [show most.toNat - P.length = (most.toNat - (P.length + 1)) + 1 by omega, planF_some _ hm, hF2, hf] at h
            exact h
          have HPL : Hid (P.length + 1 ≤ 400) := by
            show _ ≤ _
            have := HP.out
            rw [← HE.out, List.length_append, List.length_cons] at this
            omega
          have HF2 := Lib.hid hF2
          have RT2 := Lib.hid (hT.out.2.2.2.1.step h3 (i := m.1))
          rw [hf] at N1
          have N2 : Hid (Calls Try.prog 41 #[lv, nv, ci n] wr fun e w' => e = .returned (.tuple #[.agg #[ci m.1, ci f, ci m.2], .bool true]) ∧ Ext wr w') := N1.out
          have HM1 := Lib.hid h1
          have hLP : Hid ((P.length : Int) < most) := hlt
          clear hm h1 h2 h3 h4 h5 hf hF2 N1 hlt
          go_wp2_with (first
            | (go_at_call 41; refine N2.out.mono ?_; clear N2; rintro e w3 ⟨rfl, e3'⟩
               have o3 := e3'.own hT.out.2.1
               have e3 := hT.out.2.2.1.trans e3'
               have x4 : Ext w3 ((w3.alloc (.cells #[ci m.1, ci f, ci m.2] 29)).alloc (.cells #[ci m.1, ci f, ci m.2] 29)) := Ext.of_alloc2 _ _
               have p3 := hT.out.1.ext e3'
               have P4 := Lib.hid (p3.ext x4)
               have O4 := Lib.hid (x4.own o3)
               have E4 := Lib.hid (e3.trans x4)
               have HLT := Lib.hid (fun k hk => (p3.lt k hk).2)
               have B4 : Hid (Blk ((w3.alloc (.cells #[ci m.1, ci f, ci m.2] 29)).alloc (.cells #[ci m.1, ci f, ci m.2] 29)) w3.heap.size #[ci m.1, ci f, ci m.2] 29) := (Blk.new w3 _ _).alloc _
               have R4 : Hid (RdM ((w3.alloc (.cells #[ci m.1, ci f, ci m.2] 29)).alloc (.cells #[ci m.1, ci f, ci m.2] 29)) (.slice (some ⟨w3.heap.size + 1, 0, none⟩) 1 1) [mvOf f m]) := by
                 have h := lent_one (w3.alloc (.cells #[ci m.1, ci f, ci m.2] 29)) (mvOf f m)
                 rw [World.size_alloc] at h
                 exact h
               have BY : Hid ((P.length + [mvOf f m].length) * 24 ≤ 140737488355328) := by show _ ≤ _; have := HPL.out; simp; omega
               have SZ := Lib.hid E4.out.size
               clear x4 p3 o3 e3 e3')
            | (at_builtin; refine wpList_append_moves rfl (.tmp 35) (.tmp 37) rfl w.heap.size _ P rfl P4.out _ [mvOf f m] rfl R4.out BY.out SZ.out ?_
               intro pv' w5 o5 g5 hb5
               have O5 := Lib.hid (O4.out.kept g5 (own_otherM P4.out O4.out (by decide)))
               have E5 := Lib.hid (E4.out.grown g5 (fun k hk => (P4.out.lt k hk).1))
               have B5 := Lib.hid (B4.out.grown g5 (fun e => by have := HLT.out _ e.symm; omega))
               have P5 := Lib.hid o5
               obtain ⟨qa, cc, rfl, hform⟩ := O5.out.form
               obtain ⟨og, rfl, hB, hgl, hcg, hfg, hset⟩ := hform m.1 HM1.out
               have c0 : w5.cell? ⟨w3.heap.size, 0, none⟩ = some (ci m.1) := B5.out.cell 0
               have c2 : w5.cell? ⟨w3.heap.size, 2, none⟩ = some (ci m.2) := B5.out.cell 2
               have O6 := Lib.hid (hset (m.2 : Int))
               have E6 := Lib.hid (E5.out.set (p := ⟨og, m.1, none⟩) hB (ci (m.2 : Int)))
               have P6 := Lib.hid (P5.out.kept (grown_set w5 og m.1 (ci (m.2 : Int))) (ownM_other P5.out O5.out (by decide)))
               have HMI : (m.1 : Int) < O.length := by have := HM1.out; omega
               have HMN := HM1.out
               clear hform hset o5 g5 hb5 P4 R4 O4 E4 B4 BY SZ HLT)
            | fail)
          obtain ⟨pa', pc', rfl⟩ := P5.out.form
          refine ⟨⟨P ++ [mvOf f m], O.set m.1 (m.2 : Int), _, rfl, by rw [List.length_append]; exact HPL.out, P6.out, O6.out, E6.out, RT2.out, ?_⟩, ?_⟩
          · rw [List.length_append, List.length_singleton, HF2.out, List.append_assoc]
            exact HE.out
          · have := hLP.out
            simp only [lenV, List.length_append, List.length_singleton]
            omega
      · have t1 : decide ((P.length : Int) < most) = false := decide_eq_false hlt
        have HE : Hid (P = F) := by
          show _ = _
          have h := hT.out.2.2.2.2
          rw [show most.toNat - P.length = 0 by omega, planF_zero, List.append_nil] at h
          exact h
        clear hlt
        go_wp2_with fail
        go_ret2
        exact ⟨Or.inr ⟨F, _, rfl, rfl, by rw [← HE.out]; exact hT.out.1⟩, hT.out.2.2.1⟩
end Go.Proofs.Ytkpjnikmcojdlaa
