/- Layer 25 (balance): loads from the greatest down; one row of loads ahead of another. -/
import Derived.Test.YtkpjnikmcojdlaaB25s
import Derived.Test.YtkpjnikmcojdlaaP25d
namespace Go.Proofs.Ytkpjnikmcojdlaa
open Go.RowKit
set_option linter.unusedVariables false

theorem ahead_calls (sa sb : Value) (a b : List Nat) (w : World) (ha : Rd w cf sa a) (hb : Rd w cf sb b) (hga : ∀ x ∈ a, good x) (hgb : ∀ x ∈ b, good x) (hla : a.length ≤ 8) (hlb : b.length ≤ 8) :
    Calls Try.prog 27 #[sa, sb] w fun e w' => e = .returned (.bool (aheadF a b)) ∧ ∃ n, w.drewN n = w' := by
  have hla' : (a.length : Int) ≤ 8 := by omega
  have hlb' : (b.length : Int) ≤ 8 := by omega
  obtain ⟨ad, c, rfl, hat⟩ := ha.at
  obtain ⟨ad2, c2, rfl, hat2⟩ := hb.at
  have HA := Lib.hid hat
  have HB := Lib.hid hat2
  have HGA := Lib.hid hga
  have HGB := Lib.hid hgb
  obtain ⟨R, hR⟩ : ∃ R, aheadF a b = R := ⟨_, rfl⟩
  have HR := Lib.hid hR
  rw [hR]
  clear ha hb hga hgb hat hat2 hR hla hlb
  go_enter Try.func27, Try.ntmps27
  go_wp2_with fail
  go_loopw [5] (fun iv wr => ∃ (k d : Nat), k ≤ a.length ∧ k ≤ b.length ∧ iv = .int .i64 k ∧ wr = w.drewN d ∧ Hid (aheadF (a.drop k) (b.drop k) = R)) (fun iv _ => (a.length - (intOf iv).toNat))
  case atStart => exact ⟨0, 0, by omega, by omega, rfl, rfl, by rw [List.drop_zero, List.drop_zero]; exact HR.out⟩
  case round =>
    clear HR
    obtain ⟨k, d, hk, hk2, rfl, rfl, hT⟩ := hrel
    by_cases h1 : k < a.length
    · by_cases h2 : k < b.length
      · obtain ⟨b1, o1, rfl, hc1⟩ := HA.out k h1
        obtain ⟨b2, o2, rfl, hc2⟩ := HB.out k h2
        have hst := hT.out
        rw [dropcons h1, dropcons h2, aheadF_cons] at hst
        have hgx := HGA.out a[k] (List.getElem_mem _)
        have hgy := HGB.out b[k] (List.getElem_mem _)
        generalize a[k] = x at *
        generalize b[k] = y at *
        have hon := ord_ne hgx hgy
        have hol := ord_lt hgx hgy
        have HST := Lib.hid hst
        clear hst hgx hgy hT
        by_cases hxy : x = y
        · rw [decide_eq_false (p := x ≠ y) (by omega)] at hon
          have HS : Hid (aheadF (a.drop (k + 1)) (b.drop (k + 1)) = R) := by show _ = _; have := HST.out; rw [if_pos hxy] at this; exact this
          clear hol hxy HST
          go_wp2_with fail
          go_quiet (fail)
          go_wp2_with fail
          go_roundw
          case measure => simp only [intOf]; omega
          case rel => exact ⟨k + 1, _, by omega, by omega, by go_num, rfl, HS.out⟩
        · rw [decide_eq_true (p := x ≠ y) (by omega)] at hon
          have HS : Hid (decide (x < y) = R) := by show _ = _; have := HST.out; rw [if_neg hxy] at this; exact this
          rw [HS.out] at hol
          clear hxy HST HS
          go_wp2_with fail
          go_quiet (fail)
          go_wp2_with fail
          go_quiet (fail)
          go_wp2_with fail
          go_ret
          exact ⟨rfl, _, (by rw [World.drewN_drewN, World.drewN_drewN] : _ = _)⟩
      · obtain rfl : k = b.length := by omega
        have hR : Hid (R = false) := by show _ = _; have := hT.out; rw [List.drop_length, aheadF_nil'] at this; exact this.symm
        go_wp2_with fail
        go_ret
        exact ⟨by rw [hR.out]; rfl, _, rfl⟩
    · obtain rfl : k = a.length := by omega
      have hR : Hid (R = false) := by show _ = _; have := hT.out; rw [List.drop_length, aheadF_nil] at this; exact this.symm
      go_wp2_with fail
      go_ret
      exact ⟨by rw [hR.out]; rfl, _, rfl⟩
theorem Rd.take {α : Type} {w : World} {f : α → Value} {a : Option Addr} {n c K : Nat} {l : List α} (h : Rd w f (.slice a n c) l) (hK : K ≤ n) : Rd w f (.slice a K c) (l.take K) := by
  rcases h with ⟨ao, c', e, rfl, h0⟩ | ⟨b, off, c', n', e, hn, hp, hc⟩
  · injection e with e1 e2 e3
    subst e1 e2 e3
    have : K = 0 := by omega
    subst this
    exact Or.inl ⟨_, _, rfl, by simp, h0⟩
  · injection e with e1 e2 e3
    subst e1 e2 e3
    rcases Nat.eq_zero_or_pos K with h0 | h0
    · subst h0
      exact Or.inl ⟨_, _, rfl, by simp, fun h => by cases h⟩
    · refine Or.inr ⟨b, off, c, K, rfl, by rw [List.length_take]; omega, h0, fun i hi => ?_⟩
      rw [List.length_take] at hi
      rw [hc i (by omega), List.getElem_take]
theorem Rd.drop_any {α : Type} {w : World} {f : α → Value} {a : Option Addr} {n c K : Nat} {l : List α} (h : Rd w f (.slice a n c) l) (hK : K ≤ n) : Rd w f (.slice (a.map fun x => x.add K) (n - K) (c - K)) (l.drop K) := by
  rcases h with ⟨ao, c', e, rfl, h0⟩ | ⟨b, off, c', n', e, hn, hp, hc⟩
  · injection e with e1 e2 e3
    subst e1 e2 e3
    cases a with
    | none =>
      have := h0 rfl
      exact Or.inl ⟨_, _, by rw [Nat.zero_sub], by simp, fun _ => by omega⟩
    | some x => exact Or.inl ⟨_, _, by rw [Nat.zero_sub], by simp, fun h => by cases h⟩
  · injection e with e1 e2 e3
    subst e1 e2 e3
    have e4 : (some (⟨b, off, none⟩ : Addr)).map (fun x => x.add K) = some ⟨b, off + K, none⟩ := by simp [Addr.add]
    rw [e4]
    rcases Nat.lt_or_ge K n with h0 | h0
    · refine Or.inr ⟨b, off + K, _, n - K, rfl, by rw [List.length_drop]; omega, by omega, fun i hi => ?_⟩
      rw [List.length_drop] at hi
      rw [Nat.add_assoc, hc (K + i) (by omega), List.getElem_drop]
    · exact Or.inl ⟨_, _, by rw [show n - K = 0 by omega], List.drop_eq_nil_of_le (by omega), fun h => by cases h⟩
theorem Rd.drop_end {α : Type} {w : World} {f : α → Value} {a : Option Addr} {n K : Nat} {l : List α} (hn : l.length = n) (hK : n ≤ K) : Rd w f (.slice a (n - K) 0) (l.drop K) :=
  Or.inl ⟨a, 0, by rw [show n - K = 0 by omega], List.drop_eq_nil_of_le (by omega), fun _ => rfl⟩
theorem Own.form' {α : Type} {w : World} {B : Nat} {T : TypeId} {f : α → Value} {v : Value} {l : List α} (h : Own w B T f v l) : ∃ a c, v = .slice a l.length c ∧ l.length ≤ c ∧ c ≤ maxLen := by
  obtain ⟨h1, ⟨rfl, h0⟩ | ⟨g, cap, cur, rfl, _, _, hle, hmx, _⟩⟩ := h
  · exact ⟨none, 0, by rw [h0], by omega, by unfold maxLen; omega⟩
  · exact ⟨_, _, rfl, hle, hmx⟩
set_option maxHeartbeats 4000000 in
theorem falling_calls (sv : Value) (S : List Nat) (w : World) (hs : Rd w cf sv S) (hg : ∀ x ∈ S, good x) (hm : S.length ≤ 8) :
    Calls Try.prog 28 #[sv] w fun e w' => ∃ v, e = .returned v ∧ Own w' w.heap.size 48 cf v (fallTo [] S) ∧ Ext w w' := by
  obtain ⟨i48, j1, j2, j3, j4⟩ := info_parts Try.info48
  have hz : i48.zero = some (cf 0) := j2
  have hm' : (S.length : Int) ≤ 8 := by omega
  obtain ⟨ad, c, rfl, hat⟩ := hs.at
  have HA := Lib.hid hat
  have HG := Lib.hid hg
  have HM := Lib.hid hm
  obtain ⟨R, hR⟩ : ∃ R, fallTo [] S = R := ⟨_, rfl⟩
  have HR := Lib.hid hR
  rw [hR]
  clear hs hg hat hR hm
  go_enter Try.func28, Try.ntmps28
  go_wp2_with fail
  go_loopw [3, 4, 5, 6] (fun ov0 iv _ _ wr => ∃ (i : Nat) (ov : Value) (out : List Nat), i ≤ S.length ∧ ov = ov0 ∧ iv = .int .i64 i ∧ Hid (Own wr w.heap.size 48 cf ov out ∧ Ext w wr ∧ (∀ x ∈ out, good x) ∧ out.length = i ∧ fallTo out (S.drop i) = R)) (fun _ iv _ _ _ => (S.length - (intOf iv).toNat))
  case atStart => exact ⟨0, _, [], by omega, rfl, rfl, Own.nil, Ext.refl _, fun x h => (by cases h), rfl, by rw [List.drop_zero]; exact HR.out⟩
  case round =>
    clear HR
    obtain ⟨i, ov, out, hi, rfl, rfl, hT⟩ := hrel
    by_cases hlt : i < S.length
    · obtain ⟨b1, o1, rfl, hc1'⟩ := HA.out i hlt
      have hc1 := hT.out.2.1.cell hc1'
      have hst := hT.out.2.2.2.2
      rw [dropcons hlt, fallTo_cons] at hst
      have hgx := HG.out S[i] (List.getElem_mem _)
      generalize S[i] = x at *
      have HST := Lib.hid hst
      have HGX := Lib.hid hgx
      have O1 := Lib.hid hT.out.1
      have E1 := Lib.hid hT.out.2.1
      have HGO := Lib.hid hT.out.2.2.1
      have HOL := Lib.hid hT.out.2.2.2.1
      obtain ⟨pa, pc, rfl, hpc1, hpc2⟩ := hT.out.1.form'
      have hpc3 : (out.length : Int) ≤ pc := by omega
      have hpc4 : (pc : Int) ≤ 9223372036854775807 := by unfold maxLen at hpc2; omega
      have hol : (out.length : Int) ≤ 8 := by have := HOL.out; omega
      obtain ⟨K, hK⟩ : ∃ K, kF x out = K := ⟨_, rfl⟩
      have hKl : K ≤ out.length := by rw [← hK]; exact kF_le x out
      have HK1 : Hid (∀ k, k < K → x ≤ out.getD k 0) := fun k hk => kF_lt out k (by rw [hK]; exact hk)
      have HK2 : Hid (K < out.length → out.getD K 0 < x) := fun h => by have := kF_at (x := x) out (by rw [hK]; exact h); rw [hK] at this; exact this
      have HINS : Hid (insF x out = out.take K ++ [x] ++ out.drop K) := by show _ = _; rw [insF_eq, hK, List.append_assoc]; rfl
      have HKL := Lib.hid hKl
      have BB : Hid ((([] : List Nat).length + (out.take K).length) * 8 ≤ 140737488355328) := by show _ ≤ _; rw [List.length_take]; simp; omega
      have MM : Hid ((([] : List Nat).length + (out.take K).length) ≤ 9223372036854775807) := by show _ ≤ _; rw [List.length_take]; simp; omega
      have BB2 : Hid (((out.take K).length + 1) * 8 ≤ 140737488355328) := by show _ ≤ _; rw [List.length_take]; omega
      have MM2 : Hid ((out.take K).length + 1 ≤ 9223372036854775807) := by show _ ≤ _; rw [List.length_take]; omega
      have BB3 : Hid (((out.take K ++ [x]).length + (out.drop K).length) * 8 ≤ 140737488355328) := by show _ ≤ _; rw [List.length_append, List.length_take, List.length_drop]; simp; omega
      have MM3 : Hid ((out.take K ++ [x]).length + (out.drop K).length ≤ 9223372036854775807) := by show _ ≤ _; rw [List.length_append, List.length_take, List.length_drop]; simp; omega
      have HGI : Hid (∀ z ∈ insF x out, good z) := fun z hz => by
        rcases insF_mem hz with rfl | hz
        · exact HGX.out
        · exact HGO.out z hz
      have hKi : (K : Int) ≤ out.length := by omega
      clear hst hgx hT hpc1 hpc2 hK hc1'
      go_wp2_with fail
      go_loopw [5] (fun kv wx => ∃ (k d : Nat), k ≤ K ∧ kv = .int .i64 k ∧ wx = wr.drewN d) (fun kv _ => (K - (intOf kv).toNat))
      case atStart => exact ⟨0, 0, by omega, rfl, rfl⟩
      case round =>
        obtain ⟨k, d, hk, rfl, rfl⟩ := hrel
        have hki : (k : Int) ≤ 8 := by omega
        by_cases hkl : k < out.length
        · obtain ⟨qb, qo, he, hco⟩ := rd_at O1.out.rd hkl
          subst he
          rw [← getD_eq 0 hkl] at hco
          have hgo : good (out.getD k 0) := HGO.out _ (getD_mem out k hkl)
          have ho := ord_ge hgo HGX.out
          by_cases hkK : k < K
          · rw [decide_eq_true (HK1.out k hkK)] at ho
            generalize out.getD k 0 = y at *
            clear hgo
            go_wp2_with fail
            go_quiet (fail)
            go_wp2_with fail
            go_roundw
            case measure => simp only [intOf]; omega
            case rel => exact ⟨k + 1, _, by omega, by go_num, rfl⟩
          · obtain rfl : k = K := by omega
            rw [decide_eq_false (by have := HK2.out hkl; omega)] at ho
            generalize out.getD k 0 = y at *
            clear hgo hkK
            go_wp2_with fail
            go_quiet (fail)
            obtain ⟨wz, hwz⟩ : ∃ x, (wr.drewN d).drewN nq = x := ⟨_, rfl⟩
            have xz : Ext wr wz := by rw [← hwz]; exact ((Ext.refl wr).drewN _).drewN _
            rw [hwz]
            have EZ := Lib.hid (E1.out.trans xz)
            have hc9 := xz.cell hc1
            have ON : Hid (Own wz wz.heap.size 48 cf (.slice none 0 0) []) := Own.nil
            have RT := Lib.hid ((xz.rd O1.out.rd).take HKL.out)
            have hpk : ¬ pc = k := by omega
            skip
            · have RD : Hid (Rd wz cf (.slice (some ⟨qb, qo + k, none⟩) (out.length - k) (pc - k)) (out.drop k)) := by
                have h := (xz.rd O1.out.rd).drop_any HKL.out
                have e4 : (some (⟨qb, qo, none⟩ : Addr)).map (fun x => x.add k) = some ⟨qb, qo + k, none⟩ := by simp [Addr.add]
                rw [e4] at h
                exact h
              have hpk2 : ¬ (pc : Int) = (k : Int) := by omega
              clear hwz xz hc1
              go_wp2_with (first
                | (at_builtin; refine wpList_append_rd cf cf_one rfl (.tmp 30) (.tmp 33) 36 rfl wz.heap.size 48 i48 0 8 Try.u36 j1 hz j3 j4 rfl (.slice none 0 0) [] rfl ON.out _ (out.take k) rfl RT.out BB.out MM.out (Nat.le_refl _) ?_
                   intro nv w3 o3 g3
                   rw [List.nil_append] at o3
                   have x3 := (Ext.refl wz).grown g3 (fun k hk => by cases hk)
                   have x4 := Ext.of_alloc (w := w3) (.cells #[cf x] 48)
                   have hc3 := x3.cell hc9
                   have X3 := Lib.hid (x3.trans x4)
                   have O3 := Lib.hid (x4.own o3)
                   have C3 : Hid ((w3.alloc (.cells #[cf x] 48)).cell? ⟨w3.heap.size, 0, none⟩ = some (cf x)) := by show _ = _; rw [World.cell?_alloc_new]; rfl
                   have S3 := Lib.hid X3.out.size
                   clear x3 x4 o3 g3 ON RT BB MM)
                | (at_builtin; refine wpList_append_one cf rfl (.tmp 35) (.tmp 40) 36 rfl wz.heap.size 48 i48 (cf 0) 8 Try.u36 j1 hz j3 j4 rfl _ (out.take k) rfl O3.out w3.heap.size 1 _ rfl C3.out rfl BB2.out MM2.out S3.out ?_
                   intro nv2 w5 o5 g5 b5
                   have X5 := Lib.hid (X3.out.grown g5 (fun k hk => (O3.out.lt k hk).1))
                   have O5 := Lib.hid o5
                   have S5 := Lib.hid X5.out.size
                   have R5 := Lib.hid (X5.out.rd RD.out)
                   clear o5 g5 b5 X3 O3 C3 S3 BB2 MM2)
                | (at_builtin; refine wpList_append_rd cf cf_one rfl (.tmp 42) (.tmp 45) 36 rfl wz.heap.size 48 i48 0 8 Try.u36 j1 hz j3 j4 rfl _ (out.take k ++ [x]) rfl O5.out _ (out.drop k) rfl R5.out BB3.out MM3.out S5.out ?_
                   intro nv3 w7 o7 g7
                   have X7 := Lib.hid (X5.out.grown g7 (fun k hk => (O5.out.lt k hk).1))
                   have O7 := Lib.hid (o7.mono EZ.out.size)
                   clear o7 g7 X5 O5 S5 R5)
                | fail)
              go_roundw
              case measure => simp only [intOf]; omega
              case rel => exact ⟨i + 1, _, _, by omega, rfl, by go_num, by rw [HINS.out]; exact O7.out, EZ.out.trans X7.out, HGI.out, by rw [insF_len, HOL.out], HST.out⟩
        · obtain rfl : k = K := by omega
          have hkl2 : k = out.length := by omega
          have hg0 : decide ((k : Int) < (out.length : Int)) = false := decide_eq_false (by omega)
          clear hkl2
          go_wp2_with fail
          go_quiet (fail)
          obtain ⟨wz, hwz⟩ : ∃ x, (wr.drewN d).drewN nq = x := ⟨_, rfl⟩
          have xz : Ext wr wz := by rw [← hwz]; exact ((Ext.refl wr).drewN _).drewN _
          rw [hwz]
          have EZ := Lib.hid (E1.out.trans xz)
          have hc9 := xz.cell hc1
          have ON : Hid (Own wz wz.heap.size 48 cf (.slice none 0 0) []) := Own.nil
          have RT := Lib.hid ((xz.rd O1.out.rd).take HKL.out)
          by_cases hpk : pc = k
          · have RD : Hid (Rd wz cf (.slice pa (out.length - k) 0) (out.drop k)) := Rd.drop_end rfl (by omega)
            clear hwz xz hc1
            have hpk' := hpk.symm
            clear hpk
            subst hpk'
            go_wp2_with (first
              | (at_builtin; refine wpList_append_rd cf cf_one rfl (.tmp 30) (.tmp 33) 36 rfl wz.heap.size 48 i48 0 8 Try.u36 j1 hz j3 j4 rfl (.slice none 0 0) [] rfl ON.out _ (out.take k) rfl RT.out BB.out MM.out (Nat.le_refl _) ?_
                 intro nv w3 o3 g3
                 rw [List.nil_append] at o3
                 have x3 := (Ext.refl wz).grown g3 (fun k hk => by cases hk)
                 have x4 := Ext.of_alloc (w := w3) (.cells #[cf x] 48)
                 have hc3 := x3.cell hc9
                 have X3 := Lib.hid (x3.trans x4)
                 have O3 := Lib.hid (x4.own o3)
                 have C3 : Hid ((w3.alloc (.cells #[cf x] 48)).cell? ⟨w3.heap.size, 0, none⟩ = some (cf x)) := by show _ = _; rw [World.cell?_alloc_new]; rfl
                 have S3 := Lib.hid X3.out.size
                 clear x3 x4 o3 g3 ON RT BB MM)
              | (at_builtin; refine wpList_append_one cf rfl (.tmp 35) (.tmp 40) 36 rfl wz.heap.size 48 i48 (cf 0) 8 Try.u36 j1 hz j3 j4 rfl _ (out.take k) rfl O3.out w3.heap.size 1 _ rfl C3.out rfl BB2.out MM2.out S3.out ?_
                 intro nv2 w5 o5 g5 b5
                 have X5 := Lib.hid (X3.out.grown g5 (fun k hk => (O3.out.lt k hk).1))
                 have O5 := Lib.hid o5
                 have S5 := Lib.hid X5.out.size
                 have R5 := Lib.hid (X5.out.rd RD.out)
                 clear o5 g5 b5 X3 O3 C3 S3 BB2 MM2)
              | (at_builtin; refine wpList_append_rd cf cf_one rfl (.tmp 42) (.tmp 45) 36 rfl wz.heap.size 48 i48 0 8 Try.u36 j1 hz j3 j4 rfl _ (out.take k ++ [x]) rfl O5.out _ (out.drop k) rfl R5.out BB3.out MM3.out S5.out ?_
                 intro nv3 w7 o7 g7
                 have X7 := Lib.hid (X5.out.grown g7 (fun k hk => (O5.out.lt k hk).1))
                 have O7 := Lib.hid (o7.mono EZ.out.size)
                 clear o7 g7 X5 O5 S5 R5)
              | fail)
            go_roundw
            case measure => simp only [intOf]; omega
            case rel => exact ⟨i + 1, _, _, by omega, rfl, by go_num, by rw [HINS.out]; exact O7.out, EZ.out.trans X7.out, HGI.out, by rw [insF_len, HOL.out], HST.out⟩
          · have RD := Lib.hid ((xz.rd O1.out.rd).drop_any HKL.out)
            have hpk2 : ¬ (pc : Int) = (k : Int) := by omega
            clear hwz xz hc1
            go_wp2_with (first
              | (at_builtin; refine wpList_append_rd cf cf_one rfl (.tmp 30) (.tmp 33) 36 rfl wz.heap.size 48 i48 0 8 Try.u36 j1 hz j3 j4 rfl (.slice none 0 0) [] rfl ON.out _ (out.take k) rfl RT.out BB.out MM.out (Nat.le_refl _) ?_
                 intro nv w3 o3 g3
                 rw [List.nil_append] at o3
                 have x3 := (Ext.refl wz).grown g3 (fun k hk => by cases hk)
                 have x4 := Ext.of_alloc (w := w3) (.cells #[cf x] 48)
                 have hc3 := x3.cell hc9
                 have X3 := Lib.hid (x3.trans x4)
                 have O3 := Lib.hid (x4.own o3)
                 have C3 : Hid ((w3.alloc (.cells #[cf x] 48)).cell? ⟨w3.heap.size, 0, none⟩ = some (cf x)) := by show _ = _; rw [World.cell?_alloc_new]; rfl
                 have S3 := Lib.hid X3.out.size
                 clear x3 x4 o3 g3 ON RT BB MM)
              | (at_builtin; refine wpList_append_one cf rfl (.tmp 35) (.tmp 40) 36 rfl wz.heap.size 48 i48 (cf 0) 8 Try.u36 j1 hz j3 j4 rfl _ (out.take k) rfl O3.out w3.heap.size 1 _ rfl C3.out rfl BB2.out MM2.out S3.out ?_
                 intro nv2 w5 o5 g5 b5
                 have X5 := Lib.hid (X3.out.grown g5 (fun k hk => (O3.out.lt k hk).1))
                 have O5 := Lib.hid o5
                 have S5 := Lib.hid X5.out.size
                 have R5 := Lib.hid (X5.out.rd RD.out)
                 clear o5 g5 b5 X3 O3 C3 S3 BB2 MM2)
              | (at_builtin; refine wpList_append_rd cf cf_one rfl (.tmp 42) (.tmp 45) 36 rfl wz.heap.size 48 i48 0 8 Try.u36 j1 hz j3 j4 rfl _ (out.take k ++ [x]) rfl O5.out _ (out.drop k) rfl R5.out BB3.out MM3.out S5.out ?_
                 intro nv3 w7 o7 g7
                 have X7 := Lib.hid (X5.out.grown g7 (fun k hk => (O5.out.lt k hk).1))
                 have O7 := Lib.hid (o7.mono EZ.out.size)
                 clear o7 g7 X5 O5 S5 R5)
              | fail)
            go_roundw
            case measure => simp only [intOf]; omega
            case rel => exact ⟨i + 1, _, _, by omega, rfl, by go_num, by rw [HINS.out]; exact O7.out, EZ.out.trans X7.out, HGI.out, by rw [insF_len, HOL.out], HST.out⟩
    · obtain rfl : S.length = i := by omega
      have hRR : Hid (out = R) := by show _ = _; have := hT.out.2.2.2.2; rw [List.drop_length, fallTo_nil] at this; exact this
      go_wp2_with fail
      go_ret
      exact ⟨_, rfl, by rw [← hRR.out]; exact hT.out.1, hT.out.2.1⟩
end Go.Proofs.Ytkpjnikmcojdlaa
