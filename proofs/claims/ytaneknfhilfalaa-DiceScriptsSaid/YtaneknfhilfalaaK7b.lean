/- Layer 7 (dice): the document's sums and picks; weights that were lent. -/
import Derived.Test.YtaneknfhilfalaaK7a
import Derived.Test.YtaneknfhilfalaaL7f
namespace Go.Proofs.Ytaneknfhilfalaa
open Go.RowKit
set_option linter.unusedVariables false

def prefs : Nat → List Nat → List Nat
  | _, [] => []
  | S, x :: r => fadd S x :: prefs (fadd S x) r
theorem prefs_nil (S : Nat) : prefs S [] = [] := rfl
theorem prefs_cons (S x : Nat) (r : List Nat) : prefs S (x :: r) = fadd S x :: prefs (fadd S x) r := rfl
theorem prefs_len : ∀ (ws : List Nat) (S : Nat), (prefs S ws).length = ws.length
  | [], _ => rfl
  | x :: r, S => by rw [prefs_cons, List.length_cons, List.length_cons, prefs_len r]
theorem prefs_last : ∀ (ws : List Nat) (S T : Nat), ws ≠ [] → chk S ws = some T → (prefs S ws).getLast? = some T
  | [], _, _, h, _ => absurd rfl h
  | [x], S, T, _, h => by
    rw [chk_cons] at h
    split at h
    · rw [chk_nil] at h; cases h; rw [prefs_cons, prefs_nil]; rfl
    · cases h
  | x :: y :: r, S, T, _, h => by
    rw [chk_cons] at h
    split at h
    · have := prefs_last (y :: r) (fadd S x) T (by simp) h
      rw [prefs_cons, prefs_cons, List.getLast?_cons_cons, ← prefs_cons]; exact this
    · cases h
theorem prefs_good : ∀ (ws : List Nat) (S : Nat), good S → (∀ x ∈ ws, nn x) → ∀ z ∈ prefs S ws, good z
  | [], _, _, _, z, h => by cases h
  | x :: r, S, hS, hn, z, h => by
    rw [prefs_cons] at h
    have hx := fadd_good hS (hn x (by simp))
    rcases List.mem_cons.1 h with rfl | h
    · exact hx
    · exact prefs_good r _ hx (fun y hy => hn y (by simp [hy])) z h
attribute [irreducible] prefs
theorem order_zero_eq : (FloatKind.f64.format.order 0 0 != some .eq) = false := by kernel_rfl
set_option maxHeartbeats 1000000 in
theorem rsums_calls (wv : Value) (ws : List Nat) (w : World) (hw : Rd w cf wv ws) (hb : ∀ x ∈ ws, x < 18446744073709551616) (hm : ws.length * 8 ≤ 140737488351232) :
    Calls Try.prog 51 #[wv] w fun e w' => ((rt ws = false ∧ e = .returned (.tuple #[.slice none 0 0, .bool false])) ∨ (rt ws = true ∧ ∃ v, e = .returned (.tuple #[v, .bool true]) ∧ Own w' w.heap.size 37 cf v (prefs 0 ws))) ∧ Ext w w' := by
  obtain ⟨i37, j1, j2, j3, j4⟩ := info_parts Try.info37
  have hz : i37.zero = some (cf 0) := j2
  have hm' : (ws.length : Int) ≤ 17592186043904 := by omega
  have HM := Lib.hid hm
  obtain ⟨ad, c, rfl, hat⟩ := hw.at
  have HA := Lib.hid hat
  have HB := Lib.hid hb
  obtain ⟨P, hP⟩ : ∃ P, rt ws = P := ⟨_, rfl⟩
  have HP := Lib.hid hP
  rw [hP]
  clear hw hat hb hm hP
  obtain ⟨C, hC⟩ : ∃ C, chk 0 ws = C := ⟨_, rfl⟩
  have HC := Lib.hid hC
  have HP1 : Hid (C = none → P = false) := fun h => by rw [← HP.out]; unfold rt; rw [hC, h]
  have HP2 : Hid (∀ T, C = some T → P = totB T) := fun T h => by rw [← HP.out]; unfold rt; rw [hC, h]
  clear hC HP
  go_enter Try.func51, Try.ntmps51
  go_wp2_with fail
  go_loopw [4, 5, 6, 7] (fun nv y i _ wr => ∃ (k z : Nat) (v4 : Value) (L : List Nat), k ≤ ws.length ∧ v4 = nv ∧ i = .int .i64 k ∧ y = cf z ∧ Hid (good z ∧ chk z (ws.drop k) = C ∧ Own wr w.heap.size 37 cf v4 L ∧ Ext w wr ∧ L ++ prefs z (ws.drop k) = prefs 0 ws ∧ L.length = k)) (fun _ _ i _ _ => ws.length - (intOf i).toNat)
  case atStart => exact ⟨0, 0, _, [], by omega, rfl, rfl, rfl, ⟨zero_good, by rw [List.drop_zero]; exact HC.out, Own.nil, Ext.refl _, by rw [List.drop_zero, List.nil_append], rfl⟩⟩
  case round =>
    clear HC
    obtain ⟨k, z, v4, L, hk, rfl, rfl, rfl, hT⟩ := hrel
    by_cases hlt : k < ws.length
    · obtain ⟨b1, o1, rfl, hc'⟩ := HA.out k hlt
      have hc := hT.out.2.2.2.1.cell hc'
      have hst := hT.out.2.1
      have hpr := hT.out.2.2.2.2.1
      rw [dropcons hlt, chk_cons] at hst
      rw [dropcons hlt, prefs_cons] at hpr
      have hxb := HB.out ws[k] (List.getElem_mem _)
      generalize ws[k] = x at *
      have HST := Lib.hid hst
      have HXB := Lib.hid hxb
      have HPR := Lib.hid hpr
      clear hst hxb hpr hc'
      cases hl : geB x with
      | false =>
        have hp := Lib.hid (HP1.out (by have := HST.out; rw [geB_of HXB.out hl] at this; simpa using this.symm))
        have HX := Lib.hid hT.out.2.2.2.1
        rw [geB_eq] at hl
        clear hT
        go_wp2_with fail
        go_ret2
        exact ⟨Or.inl ⟨hp.out, rfl⟩, HX.out⟩
      | true =>
        by_cases hn : num x
        · have hs := fun w => run_float_arith (P := Try.prog) w .sub 37 .f64 _ _ _ (sub_num hn)
          have ho := order_zero
          obtain ⟨ha, hgz⟩ := fadd_eq hT.out.1 (geB_good HXB.out hl)
          have hadd := fun w => run_float_arith (P := Try.prog) w .add 37 .f64 _ _ _ ha
          have hnx : Hid (chk (fadd z x) (ws.drop (k + 1)) = C) := by
            show _ = _
            have := HST.out
            rw [show okB x = true by unfold okB; rw [ord_nn (geB_good HXB.out hl), (fin_num HXB.out).2 hn]; rfl] at this
            simpa using this
          have HGZ := Lib.hid hgz
          rw [geB_eq] at hl
          generalize fadd z x = y at *
          have O1 := Lib.hid ((Ext.of_alloc (w := wr) (.cells #[cf y] 37)).own hT.out.2.2.1)
          have X1 : Hid ((wr.alloc (.cells #[cf y] 37)).cell? ⟨wr.heap.size, 0, none⟩ = some (cf y)) := by show _ = _; rw [World.cell?_alloc_new]; rfl
          have S1 := Lib.hid ((hT.out.2.2.2.1.alloc (.cells #[cf y] 37)).size)
          have HL := Lib.hid hT.out.2.2.2.2.2
          have B1 : Hid ((L.length + 1) * 8 ≤ 140737488355328) := by show _ ≤ _; rw [HL.out]; have := HM.out; omega
          have M1 : Hid (L.length + 1 ≤ 9223372036854775807) := by show _ ≤ _; rw [HL.out]; have := HM.out; omega
          clear hn ha hgz HST
          go_wp2_with (first
            | (at_builtin; refine wpList_append_one cf rfl (.tmp 30) (.tmp 32) 48 rfl w.heap.size 37 i37 (cf 0) 8 Try.u48 j1 hz j3 j4 rfl _ L rfl O1.out wr.heap.size 1 _ rfl X1.out rfl B1.out M1.out S1.out ?_
               intro nv' w3 ho3 hg3 hb3
               have P3 := Lib.hid (And.intro ho3 ((hT.out.2.2.2.1.alloc (.cells #[cf y] 37)).grown hg3 (fun k hk => (O1.out.lt k hk).1)))
               clear ho3 hg3 hb3 O1 X1 S1 B1 M1)
            | fail)
          go_roundw
          case measure => simp only [intOf]; omega
          case rel => exact ⟨k + 1, y, _, L ++ [y], by omega, rfl, by go_num, rfl, HGZ.out, hnx.out, P3.out.1, P3.out.2, by rw [List.append_assoc]; exact HPR.out, by rw [List.length_append, HL.out]; rfl⟩
        · obtain ⟨q, hq, hrun⟩ := run_sub_nan (P := Try.prog) 37 x x (sub_none HXB.out hn) wr
          have ho := nan_order hq
          have hp := Lib.hid (HP1.out (by
            have := HST.out
            rw [show okB x = false by
              unfold okB
              cases hf : fin64 x with
              | true => exact absurd ((fin_num HXB.out).1 hf) hn
              | false => simp] at this
            simpa using this.symm))
          have HX := Lib.hid hT.out.2.2.2.1
          rw [geB_eq] at hl
          clear hn hq hT
          go_wp2_with fail
          go_ret2
          exact ⟨Or.inl ⟨hp.out, rfl⟩, HX.out.drew⟩
    · obtain rfl : ws.length = k := by omega
      have hCz : Hid (C = some z) := by show _ = _; have := hT.out.2.1; rw [List.drop_length, chk_nil] at this; exact this.symm
      have hp := Lib.hid (HP2.out z hCz.out)
      have hgz := hT.out.1
      have HX := Lib.hid hT.out.2.2.2.1
      have HO : Hid (Own wr w.heap.size 37 cf v4 (prefs 0 ws)) := by
        have h1 := hT.out.2.2.1
        have h2 := hT.out.2.2.2.2.1
        rw [List.drop_length, prefs_nil, List.append_nil] at h2
        rw [h2] at h1; exact h1
      clear hT hk hlt
      cases he : (FloatKind.f64.format.order z 0 == some .eq) with
      | true =>
        have hp2 : Hid (P = false) := by show _ = _; rw [hp.out]; unfold totB; rw [he]; rfl
        clear hgz
        go_wp2_with fail
        go_ret2
        exact ⟨Or.inl ⟨hp2.out, rfl⟩, HX.out⟩
      | false =>
        by_cases hn : num z
        · have hs := fun w => run_float_arith (P := Try.prog) w .sub 37 .f64 _ _ _ (sub_num hn)
          have ho := order_zero
          have hp2 : Hid (P = true) := by show _ = _; rw [hp.out]; unfold totB; rw [he, (fin_num (good_lt hgz)).2 hn]; rfl
          clear hn hgz
          go_wp2_with fail
          go_ret2
          exact ⟨Or.inr ⟨hp2.out, _, rfl, HO.out⟩, HX.out⟩
        · obtain ⟨q, hq, hrun⟩ := run_sub_nan (P := Try.prog) 37 z z (sub_none (good_lt hgz) hn) wr
          have ho := nan_order hq
          have hp2 : Hid (P = false) := by
            show _ = _
            rw [hp.out]
            unfold totB
            cases hf : fin64 z with
            | true => exact absurd ((fin_num (good_lt hgz)).1 hf) hn
            | false => simp
          clear hn hq hgz
          go_wp2_with fail
          go_ret2
          exact ⟨Or.inl ⟨hp2.out, rfl⟩, HX.out.drew⟩
end Go.Proofs.Ytaneknfhilfalaa
