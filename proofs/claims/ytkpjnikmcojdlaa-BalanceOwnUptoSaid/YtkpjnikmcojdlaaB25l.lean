/- Layer 25 (balance): a server's load, the greatest load and its place, what a move leaves. -/
import Derived.Test.YtkpjnikmcojdlaaP25a
import Derived.Test.YtkpjnikmcojdlaaB25k
namespace Go.Proofs.Ytkpjnikmcojdlaa
open Go.RowKit
set_option linter.unusedVariables false

theorem of_calls (lv ov : Value) (ld : List Nat) (ow : List Int) (v : Int) (w : World) (hl : Rd w cf lv ld) (ho : Rd w ci ov ow) (hlen : ld.length = ow.length) (hnn : ∀ x ∈ ld, nn x) (hlm : ld.length ≤ 9223372036854775807) :
    Calls Try.prog 50 #[lv, ov, ci v] w fun e w' => (e = .returned (cf (ldS v 0 ld ow)) ∧ good (ldS v 0 ld ow)) ∧ w = w' := by
  have hlm' : (ld.length : Int) ≤ 9223372036854775807 := by omega
  have hom' : (ow.length : Int) ≤ 9223372036854775807 := by omega
  obtain ⟨ad, c, rfl, hat⟩ := hl.at
  obtain ⟨ad2, c2, rfl, hat2⟩ := ho.at
  have HA := Lib.hid hat
  have HA2 := Lib.hid hat2
  have HN := Lib.hid hnn
  have H1 := Lib.hid hlen
  have hlen' : (ow.length : Int) = ld.length := by omega
  clear hl ho hat hat2 hnn hlm hlen
  obtain ⟨R, hR⟩ : ∃ R, ldS v 0 ld ow = R := ⟨_, rfl⟩
  have HR := Lib.hid hR
  rw [hR]
  clear hR
  go_enter Try.func50, Try.ntmps50
  go_wp2_with fail
  go_loop [7, 8, 9, 12] (fun y _ _ i => ∃ (k z : Nat), k ≤ ow.length ∧ i = .int .i64 k ∧ y = cf z ∧ Hid (good z ∧ ldS v z (ld.drop k) (ow.drop k) = R)) (fun _ _ _ i => ow.length - (intOf i).toNat)
  case atStart => exact ⟨0, 0, by omega, rfl, rfl, ⟨by unfold good inf64; omega, by rw [List.drop_zero, List.drop_zero]; exact HR.out⟩⟩
  case round =>
    clear HR
    obtain ⟨k, z, hk, rfl, rfl, hT⟩ := hrel
    by_cases hlt2 : k < ow.length
    · have hlt : k < ld.length := by rw [H1.out]; exact hlt2
      obtain ⟨b, o, rfl, hc⟩ := HA.out k hlt
      obtain ⟨b2, o2, rfl, hc2⟩ := HA2.out k hlt2
      have hst := hT.out.2
      rw [dropcons hlt, dropcons hlt2, ldS_cons] at hst
      have hxn := HN.out ld[k] (List.getElem_mem _)
      generalize ld[k] = x at *
      generalize ow[k] = y at *
      have HST := Lib.hid hst
      clear hst
      by_cases h5 : y = v
      · have t5 : (y == v) = true := by simp [h5]
        obtain ⟨ha, hgz⟩ := fadd_eq hT.out.1 hxn
        have hadd := fun w => run_float_arith (P := Try.prog) w .add 48 .f64 _ _ _ ha
        have hn : Hid (ldS v (fadd z x) (ld.drop (k + 1)) (ow.drop (k + 1)) = R) := by
          show _ = _
          have := HST.out
          rw [if_pos h5] at this
          exact this
        have HGZ := Lib.hid hgz
        have hkl : (k : Int) < ld.length := by omega
        clear h5 ha hgz hxn
        go_wp2_with fail
        go_round
        case measure => simp only [intOf]; omega
        case rel => exact ⟨k + 1, _, by omega, by go_num, rfl, HGZ.out, hn.out⟩
      · have t5 : (y == v) = false := by simp [h5]
        have hn : Hid (ldS v z (ld.drop (k + 1)) (ow.drop (k + 1)) = R) := by
          show _ = _
          have := HST.out
          rw [if_neg h5] at this
          exact this
        clear h5 hxn
        go_wp2_with fail
        go_round
        case measure => simp only [intOf]; omega
        case rel => exact ⟨k + 1, _, by omega, by go_num, rfl, hT.out.1, hn.out⟩
    · obtain rfl : ow.length = k := by omega
      have hn : Hid (z = R) := by
        show _ = _
        have := hT.out.2
        rw [List.drop_of_length_le (by rw [H1.out]; exact Nat.le_refl _), ldS_nil] at this
        exact this
      go_wp2_with fail
      go_ret
      exact ⟨⟨by rw [← hn.out]; rfl, by rw [← hn.out]; exact hT.out.1⟩, rfl⟩
theorem getD_eq {α : Type} {l : List α} {k : Nat} (d : α) (h : k < l.length) : l.getD k d = l[k] := by rw [List.getD_eq_getElem?_getD, List.getElem?_eq_getElem h]; rfl
theorem max_calls (sv : Value) (S : List Nat) (w : World) (hs : Rd w cf sv S) (hg : ∀ x ∈ S, good x) (h0 : 0 < S.length) (hm : S.length ≤ 9223372036854775807) :
    Calls Try.prog 49 #[sv] w fun e w' => (∃ m, e = .returned (cf m) ∧ good m ∧ (∀ i, i < S.length → S.getD i 0 ≤ m) ∧ ∃ i, i < S.length ∧ S.getD i 0 = m) ∧ w = w' := by
  have hm' : (S.length : Int) ≤ 9223372036854775807 := by omega
  have h0' : (1 : Int) ≤ S.length := by omega
  obtain ⟨ad, c, rfl, hat⟩ := hs.at
  have HA := Lib.hid hat
  have HG := Lib.hid hg
  have H0 := Lib.hid h0
  obtain ⟨b0, o0, rfl, hc0⟩ := hat 0 h0
  have hg0 := hg S[0] (List.getElem_mem _)
  have hS0 : S.getD 0 0 = S[0] := getD_eq 0 h0
  have t0 : decide ((S.length : Int) < 1) = false := decide_eq_false (by omega)
  generalize S[0] = x0 at *
  have HG0 := Lib.hid hg0
  have HS0 := Lib.hid hS0
  have HS1 : Hid (∀ i, i < 1 → S.getD i 0 ≤ x0) := fun i hi => by
    have h0 : i = 0 := by omega
    rw [h0, hS0]; exact Nat.le_refl _
  clear hs hg h0 hat hg0 hS0
  have hc0' : w.cell? ⟨b0, o0, none⟩ = some (cf x0) := hc0
  clear hc0
  go_enter Try.func49, Try.ntmps49
  go_wp2_with fail
  go_loop [3, 4] (fun y i => ∃ (k z : Nat), 1 ≤ k ∧ k ≤ S.length ∧ i = .int .i64 k ∧ y = cf z ∧ Hid (good z ∧ (∀ i, i < k → S.getD i 0 ≤ z) ∧ ∃ i, i < k ∧ S.getD i 0 = z)) (fun _ i => S.length - (intOf i).toNat)
  case atStart => exact ⟨1, x0, by omega, by omega, rfl, rfl, HG0.out, HS1.out, 0, by omega, HS0.out⟩
  case round =>
    obtain ⟨k, z, hk1, hk, rfl, rfl, hT⟩ := hrel
    by_cases hlt : k < S.length
    · obtain ⟨b, o, he, hc⟩ := HA.out k hlt
      injection he with he
      injection he with e1 e2 _
      subst e1 e2
      have hgx := HG.out S[k] (List.getElem_mem _)
      have hSk : S.getD k 0 = S[k] := getD_eq 0 hlt
      generalize S[k] = x at *
      have hmx := fun (ts : Array TypeId) (t : TypeId) (w : World) => run_max_good (P := Try.prog) ts t hT.out.1 hgx w
      have HN : Hid (good (max z x) ∧ (∀ i, i < k + 1 → S.getD i 0 ≤ max z x) ∧ ∃ i, i < k + 1 ∧ S.getD i 0 = max z x) := by
        refine ⟨good_max hT.out.1 hgx, fun i hi => ?_, ?_⟩
        · rcases Nat.lt_or_eq_of_le (Nat.le_of_lt_succ hi) with h | h
          · have := hT.out.2.1 i h; omega
          · subst h; rw [hSk]; omega
        · rcases Nat.le_total x z with h | h
          · obtain ⟨i, h1, h2⟩ := hT.out.2.2
            exact ⟨i, by omega, by rw [h2]; omega⟩
          · exact ⟨k, by omega, by rw [hSk]; omega⟩
      generalize max z x = y at *
      clear hgx hSk
      go_wp2_with fail
      go_round
      case measure => simp only [intOf]; omega
      case rel => exact ⟨k + 1, y, by omega, by omega, by go_num, rfl, HN.out⟩
    · obtain rfl : S.length = k := by omega
      go_wp2_with fail
      go_ret
      exact ⟨⟨z, rfl, hT.out⟩, rfl⟩
theorem index_calls' (sv : Value) (S : List Nat) (m : Nat) (w : World) (hs : Rd w cf sv S) (hg : ∀ x ∈ S, good x) (hgm : good m) (h0 : ∃ i, i < S.length ∧ S.getD i 0 = m) (h1 : ∀ i, i < S.length → S.getD i 0 ≤ m) (hm : S.length ≤ 9223372036854775807) :
    Calls Try.prog 48 #[sv, cf m] w fun e w' => e = .returned (ci (fullOf S)) ∧ w = w' := by
  have hm' : (S.length : Int) ≤ 9223372036854775807 := by omega
  obtain ⟨ad, c, rfl, hat⟩ := hs.at
  have HA := Lib.hid hat
  have HG := Lib.hid hg
  have H0 := Lib.hid h0
  have H1 := Lib.hid h1
  have HGM := Lib.hid hgm
  clear hs hg hat h0 h1 hgm
  go_enter Try.func48, Try.ntmps48
  go_wp2_with fail
  go_loop [5, 8] (fun _ i => ∃ (k : Nat), k ≤ S.length ∧ i = .int .i64 k ∧ Hid (∀ i, i < k → S.getD i 0 ≠ m)) (fun _ i => S.length - (intOf i).toNat)
  case atStart => exact ⟨0, by omega, rfl, fun i hi => by omega⟩
  case round =>
    obtain ⟨k, hk, rfl, hT⟩ := hrel
    by_cases hlt : k < S.length
    · obtain ⟨b, o, rfl, hc⟩ := HA.out k hlt
      have hgx := HG.out S[k] (List.getElem_mem _)
      have hSk : S.getD k 0 = S[k] := getD_eq 0 hlt
      generalize S[k] = x at *
      have ho := ord_eq HGM.out hgx
      by_cases he : m = x
      · rw [decide_eq_true he] at ho
        have HF := Lib.hid (fullOf_unique hlt H1.out (by rw [hSk, he]) hT.out)
        clear he hgx hSk
        go_wp2_with fail
        go_ret
        exact ⟨by rw [← HF.out]; rfl, rfl⟩
      · rw [decide_eq_false he] at ho
        have HT : Hid (∀ i, i < k + 1 → S.getD i 0 ≠ m) := fun i hi => by
          rcases Nat.lt_or_eq_of_le (Nat.le_of_lt_succ hi) with h | h
          · exact hT.out i h
          · subst h; rw [hSk]; exact fun e => he e.symm
        clear he hgx hSk
        go_wp2_with fail
        go_round
        case measure => simp only [intOf]; omega
        case rel => exact ⟨k + 1, by omega, by go_num, HT.out⟩
    · obtain rfl : S.length = k := by omega
      exfalso
      obtain ⟨i, h1, h2⟩ := H0.out
      exact hT.out i h1 h2
theorem leaves_calls (lv ov : Value) (ld : List Nat) (ow : List Int) (f i t : Nat) (w : World) (hl : Rd w cf lv ld) (ho : Rd w ci ov ow) (hlen : ld.length = ow.length) (hnn : ∀ x ∈ ld, nn x) (hi : i < ow.length) (hf : ow[i] = (f : Int)) (hom : ow.length ≤ 64) :
    Calls Try.prog 47 #[lv, ov, ci i, ci t] w fun e w' => (e = .returned (cf (leftOf ld ow f i t)) ∧ good (leftOf ld ow f i t)) ∧ Ext w w' := by
  obtain ⟨i3, j1, j2, j3, j4⟩ := info_parts Try.info3
  have hz : i3.zero = some (ci 0) := j2
  obtain ⟨ad2, c2, rfl, hat2⟩ := ho.at
  have HL := Lib.hid hl
  have HO := Lib.hid ho
  have HLEN := Lib.hid hlen
  have HNN := Lib.hid hnn
  have HOM := Lib.hid hom
  obtain ⟨b2, o2, rfl, hc⟩ := hat2 i hi
  rw [hf] at hc
  have HI := Lib.hid hi
  have hi' : (i : Int) < ow.length := by omega
  have hom' : (ow.length : Int) ≤ 64 := by omega
  have BB : Hid ((([] : List Int).length + ow.length) * 8 ≤ 140737488355328) := by show _ ≤ _; simp; omega
  have MM : Hid ((([] : List Int).length + ow.length) ≤ 9223372036854775807) := by show _ ≤ _; simp; omega
  have O0 : Hid (Own w w.heap.size 3 ci (.slice none 0 0) []) := Own.nil
  obtain ⟨x, hx⟩ : ∃ x, ldS (f : Int) 0 ld (ow.set i (t : Int)) = x := ⟨_, rfl⟩
  obtain ⟨y, hy⟩ : ∃ x, ldS (t : Int) 0 ld (ow.set i (t : Int)) = x := ⟨_, rfl⟩
  have HR : Hid (leftOf ld ow f i t = max x y) := by show _ = _; rw [← hx, ← hy]; rfl
  have HX := Lib.hid hx
  have HY := Lib.hid hy
  rw [HR.out]
  clear hl ho hat2 hlen hnn hf hi hom hx hy HR
  go_enter Try.func47, Try.ntmps47
  go_wp2_with (first
    | (at_builtin; refine wpList_append_rd ci ci_one rfl (.tmp 13) (.tmp 14) 22 rfl w.heap.size 3 i3 0 8 Try.u22 j1 hz j3 j4 rfl (.slice none 0 0) [] rfl O0.out _ ow rfl HO.out BB.out MM.out (Nat.le_refl _) ?_
       intro tv w1 o1 g1
       rw [List.nil_append] at o1
       have X1 := Lib.hid ((Ext.refl w).grown g1 (fun k hk => by cases hk))
       have hc1 : w1.cell? ⟨b2, o2 + i, none⟩ = some (ci f) := X1.out.cell hc
       obtain ⟨qa, cc, rfl, hform⟩ := o1.form
       obtain ⟨g, rfl, hB, hgl, hcg, hfg, hset⟩ := hform i HI.out
       have O2 := Lib.hid (hset (t : Int))
       have X2 := Lib.hid (X1.out.set (p := ⟨g, i, none⟩) hB (ci t))
       generalize ow[i]'HI.out = yy at hcg
       have L1 := Lib.hid (load_calls lv (.slice (some ⟨g, 0, none⟩) ow.length cc) ld (ow.set i (t : Int)) f _ (X2.out.rd HL.out) O2.out.rd (by rw [List.length_set]; exact HLEN.out) HNN.out (by have := HLEN.out; have := HOM.out; omega))
       have L2 := Lib.hid (load_calls lv (.slice (some ⟨g, 0, none⟩) ow.length cc) ld (ow.set i (t : Int)) t _ (X2.out.rd HL.out) O2.out.rd (by rw [List.length_set]; exact HLEN.out) HNN.out (by have := HLEN.out; have := HOM.out; omega))
       rw [HX.out] at L1
       rw [HY.out] at L2
       clear hform hset o1 g1 hc)
    | (go_at_call 36; refine L1.out.mono ?_; clear L1; rintro e w3 ⟨⟨rfl, q1⟩, rfl⟩
       have Q1 := Lib.hid q1
       clear q1)
    | (go_at_call 36; refine L2.out.mono ?_; clear L2; rintro e w3 ⟨⟨rfl, q1⟩, rfl⟩
       have Q2 := Lib.hid q1
       have hgt := ord_gt Q1.out Q2.out
       clear q1)
    | fail)
  · rename_i hxy
    have HM : max x y = x := by omega
    go_ret
    exact ⟨⟨by rw [HM]; rfl, by rw [HM]; exact Q1.out⟩, X2.out⟩
  · rename_i hxy
    have HM : max x y = y := by omega
    go_ret
    exact ⟨⟨by rw [HM]; rfl, by rw [HM]; exact Q2.out⟩, X2.out⟩
end Go.Proofs.Ytkpjnikmcojdlaa
