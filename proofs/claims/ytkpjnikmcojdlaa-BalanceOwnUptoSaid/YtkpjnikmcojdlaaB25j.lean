/- Layer 25 (balance): the loads of all servers: both. -/
import Derived.Test.YtkpjnikmcojdlaaB25i
namespace Go.Proofs.Ytkpjnikmcojdlaa
open Go.RowKit
set_option linter.unusedVariables false

theorem rest_all (s : Int) : ∀ (l : List Nat) (y : Nat) (q : List Int), l.length = q.length → rest s y l q = true → (∀ x ∈ l, gb x = true) ∧ ∀ o ∈ q, stranger s o = false
  | [], y, [], _, _ => ⟨fun x hx => by (cases hx), fun o ho => by (cases ho)⟩
  | [], y, o :: q, h, _ => by simp at h
  | x :: r, y, [], h, _ => by simp at h
  | x :: r, y, o :: q, h, ha => by
    rw [rest_cons] at ha
    split at ha
    · rename_i hc
      rw [Bool.and_eq_true] at hc
      have ih := rest_all s r _ q (by simpa using h) ha
      refine ⟨fun z hz => ?_, fun p hp => ?_⟩
      · rcases List.mem_cons.1 hz with rfl | hz
        · exact hc.1
        · exact ih.1 z hz
      · rcases List.mem_cons.1 hp with rfl | hp
        · simpa using hc.2
        · exact ih.2 p hp
    · cases ha
structure Rt (ld : List Nat) (ow : List Int) (s : Int) : Prop where
  len : ld.length = ow.length
  many : ow.length ≤ 64
  lo : 0 < s
  hi : s ≤ 8
  nn : ∀ x ∈ ld, nn x
  own : ∀ o ∈ ow, stranger s o = false
theorem right_rt {ld : List Nat} {ow : List Int} {s : Int} (hb : ∀ x ∈ ld, x < 18446744073709551616) (h : rightB ld ow s = true) : Rt ld ow s := by
  unfold rightB at h
  simp only [Bool.and_eq_true, decide_eq_true_iff] at h
  obtain ⟨h1, h2, h3, h4, h5⟩ := h
  have ha := rest_all s ld 0 ow h1 h5
  exact ⟨h1, h2, h3, h4, fun x hx => gb_nn (hb x hx) (ha.1 x hx), ha.2⟩
def sumsOf (ld : List Nat) (ow : List Int) (n : Nat) : List Nat := (List.range n).map fun j : Nat => ldS (j : Int) 0 ld ow
theorem sumsOf_len (ld : List Nat) (ow : List Int) (n : Nat) : (sumsOf ld ow n).length = n := by unfold sumsOf; simp
theorem sumsOf_succ (ld : List Nat) (ow : List Int) (n : Nat) : sumsOf ld ow (n + 1) = sumsOf ld ow n ++ [ldS (n : Int) 0 ld ow] := by unfold sumsOf; rw [List.range_succ, List.map_append]; rfl
def sumsR (ld : List Nat) (ow : List Int) (s : Int) : Option (List Nat) := if rightB ld ow s = true then some (sumsOf ld ow s.toNat) else none
def ResF (B : Nat) (R : Option (List Nat)) (e : Ending) (w' : World) : Prop :=
  (R = none ∧ e = .returned (.tuple #[.slice none 0 0, .int .i64 250])) ∨ ∃ L v', R = some L ∧ e = .returned (.tuple #[v', .int .i64 0]) ∧ Own w' B 48 cf v' L
set_option maxHeartbeats 1000000 in
theorem rsums_calls (lv ov : Value) (ld : List Nat) (ow : List Int) (s : Int) (w : World) (hl : Rd w cf lv ld) (ho : Rd w ci ov ow) (hb : ∀ x ∈ ld, x < 18446744073709551616) (hlm : ld.length ≤ 9223372036854775807) (hom : ow.length ≤ 9223372036854775807) :
    Calls Try.prog 17 #[lv, ov, ci s] w fun e w' => ResF w.heap.size (sumsR ld ow s) e w' ∧ Ext w w' := by
  obtain ⟨i48, j1, j2, j3, j4⟩ := info_parts Try.info48
  have hz : i48.zero = some (cf 0) := j2
  have H35 := Lib.hid (rright_calls lv ov ld ow s w hl ho hb hlm hom)
  have HL := Lib.hid hl
  have HO := Lib.hid ho
  have HRT := Lib.hid (fun h => right_rt (s := s) (ow := ow) hb h)
  have HLM := Lib.hid hlm
  obtain ⟨R, hR⟩ : ∃ R, sumsR ld ow s = R := ⟨_, rfl⟩
  have HR := Lib.hid hR
  rw [hR]
  clear hl ho hb hlm hom hR
  obtain ⟨rb, hrb⟩ : ∃ b, rightB ld ow s = b := ⟨_, rfl⟩
  have HRB := Lib.hid hrb
  rw [hrb] at H35
  clear hrb
  cases rb with
  | false =>
    have hn : Hid (R = none) := by show _ = _; rw [← HR.out]; unfold sumsR; rw [HRB.out]; rfl
    go_enter Try.func17, Try.ntmps17
    go_wp2_with (first | (go_at_call 35; refine H35.out.mono ?_; clear H35; rintro e w1 ⟨rfl, rfl⟩) | fail)
    go_ret2
    exact ⟨Or.inl ⟨hn.out, rfl⟩, Ext.refl _⟩
  | true =>
    have RT := Lib.hid (HRT.out HRB.out)
    obtain ⟨n, rfl⟩ : ∃ n : Nat, s = (n : Int) := ⟨s.toNat, by have := RT.out.lo; omega⟩
    have hn8 : (n : Int) ≤ 8 := RT.out.hi
    have hsome : Hid (R = some (sumsOf ld ow n)) := by show _ = _; rw [← HR.out]; unfold sumsR; rw [HRB.out]; rfl
    clear HRT HR HRB
    go_enter Try.func17, Try.ntmps17
    go_wp2_with (first | (go_at_call 35; refine H35.out.mono ?_; clear H35; rintro e w1 ⟨rfl, rfl⟩) | fail)
    go_loopw [8, 9] (fun nv iv wr => ∃ (k : Nat), k ≤ n ∧ iv = .int .i64 k ∧ Hid (Own wr w.heap.size 48 cf nv (sumsOf ld ow k) ∧ Ext w wr)) (fun _ iv _ => (n - (intOf iv).toNat))
    case atStart => exact ⟨0, by omega, rfl, Own.nil, Ext.refl _⟩
    case round =>
      obtain ⟨k, hk, rfl, hT⟩ := hrel
      by_cases hlt : k < n
      · have H36 := Lib.hid (load_calls lv ov ld ow (k : Int) wr (hT.out.2.rd HL.out) (hT.out.2.rd HO.out) RT.out.len RT.out.nn HLM.out)
        have hsu := Lib.hid (sumsOf_succ ld ow k)
        obtain ⟨x, hx⟩ : ∃ x, ldS (k : Int) 0 ld ow = x := ⟨_, rfl⟩
        rw [hx] at H36 hsu
        clear hx
        have O1 := Lib.hid ((Ext.of_alloc (w := wr) (.cells #[cf x] 48)).own hT.out.1)
        have X1 : Hid ((wr.alloc (.cells #[cf x] 48)).cell? ⟨wr.heap.size, 0, none⟩ = some (cf x)) := by show _ = _; rw [World.cell?_alloc_new]; rfl
        have S1 := Lib.hid ((hT.out.2.alloc (.cells #[cf x] 48)).size)
        have B1 : Hid (((sumsOf ld ow k).length + 1) * 8 ≤ 140737488355328) := by show _ ≤ _; rw [sumsOf_len]; omega
        have M1 : Hid ((sumsOf ld ow k).length + 1 ≤ 9223372036854775807) := by show _ ≤ _; rw [sumsOf_len]; omega
        go_wp2_with (first
          | (go_at_call 36; refine H36.out.mono ?_; clear H36; rintro e w1 ⟨⟨rfl, -⟩, rfl⟩)
          | (at_builtin; refine wpList_append_one cf rfl (.tmp 20) (.tmp 25) 36 rfl w.heap.size 48 i48 (cf 0) 8 Try.u36 j1 hz j3 j4 rfl _ (sumsOf ld ow k) rfl O1.out wr.heap.size 1 _ rfl X1.out rfl B1.out M1.out S1.out ?_
             intro nv' w3 ho3 hg3 hb3
             have P3 := Lib.hid (And.intro ho3 ((hT.out.2.alloc (.cells #[cf x] 48)).grown hg3 (fun k hk => (O1.out.lt k hk).1)))
             clear ho3 hg3 hb3 O1 X1 S1 B1 M1)
          | fail)
        go_roundw
        case measure => simp only [intOf]; omega
        case rel => exact ⟨k + 1, by omega, by go_num, by rw [hsu.out]; exact P3.out⟩
      · obtain rfl : n = k := by omega
        go_wp2_with fail
        go_ret2
        exact ⟨Or.inr ⟨_, _, hsome.out, rfl, hT.out.1⟩, hT.out.2⟩
set_option maxHeartbeats 1000000 in
theorem sums_calls (lv ov : Value) (ld : List Nat) (ow : List Int) (n : Nat) (w : World) (hl : Rd w cf lv ld) (ho : Rd w ci ov ow) (rt : Rt ld ow (n : Int)) (hlm : ld.length ≤ 9223372036854775807) :
    Calls Try.prog 39 #[lv, ov, ci n] w fun e w' => ∃ v', e = .returned v' ∧ Own w' w.heap.size 48 cf v' (sumsOf ld ow n) ∧ Ext w w' := by
  obtain ⟨i48, j1, j2, j3, j4⟩ := info_parts Try.info48
  have hz : i48.zero = some (cf 0) := j2
  have hn8 : (n : Int) ≤ 8 := rt.hi
  have hom' : (ow.length : Int) ≤ 64 := by have := rt.many; omega
  have hmk : ∀ w : World, (Instr.makeSlice 36 (.int .i64 (n : Int)) (.int .i64 (n : Int))).run Try.prog w = .ok (.slice (some ⟨w.heap.size, 0, none⟩) n n) (w.alloc (.cells (V cf (List.replicate n 0)) 48)) :=
    fun w => run_make_one (P := Try.prog) cf 0 36 48 i48 8 Try.u36 j1 hz j3 j4 rfl n n (by omega) (by omega) (by omega) w
  obtain ⟨ad, c, rfl, hat⟩ := hl.at
  obtain ⟨ad2, c2, rfl, hat2⟩ := ho.at
  have HL := Lib.hid hl
  have HA := Lib.hid hat
  have HA2 := Lib.hid hat2
  have RT := Lib.hid rt
  have O0 : Hid (Own (w.alloc (.cells (V cf (List.replicate n 0)) 48)) w.heap.size 48 cf (.slice (some ⟨w.heap.size, 0, none⟩) n n) (List.replicate n 0)) := by
    refine ⟨by simp, Or.inr ⟨w.heap.size, n, V cf (List.replicate n 0), by simp, Nat.le_refl _, heap_alloc_new w _, by simp, by unfold maxLen; omega, by simp [V], ?_⟩⟩
    rw [V_toList, List.take_of_length_le (by simp)]
  clear hl ho hat hat2 rt hlm
  go_enter Try.func39, Try.ntmps39
  go_wp2_with fail
  go_loopw [8, 9, 14] (fun _ _ iv wr => ∃ (k : Nat) (M : List Nat), k ≤ ow.length ∧ iv = .int .i64 k ∧ Hid (Own wr w.heap.size 48 cf (.slice (some ⟨w.heap.size, 0, none⟩) n n) M ∧ Ext w wr ∧ M.length = n ∧ (∀ x ∈ M, good x) ∧ ∀ (j : Nat) (hj : j < M.length), ldS (j : Int) M[j] (ld.drop k) (ow.drop k) = ldS (j : Int) 0 ld ow)) (fun _ _ iv _ => (ow.length - (intOf iv).toNat))
  case atStart => exact ⟨0, List.replicate n 0, by omega, rfl, O0.out, Ext.of_alloc _, by simp, fun x hx => by rw [(List.mem_replicate.1 hx).2]; unfold good inf64; omega, fun j hj => by simp⟩
  case round =>
    clear O0
    obtain ⟨k, M, hk, rfl, hT⟩ := hrel
    by_cases hlt2 : k < ow.length
    · have hlt : k < ld.length := by rw [RT.out.len]; exact hlt2
      obtain ⟨b, o, rfl, hc'⟩ := HA.out k hlt
      obtain ⟨b2, o2, rfl, hc2'⟩ := HA2.out k hlt2
      have hc := hT.out.2.1.cell hc'
      have hc2 := hT.out.2.1.cell hc2'
      have hst := RT.out.own ow[k] (List.getElem_mem _)
      have hxn := RT.out.nn ld[k] (List.getElem_mem _)
      have hall : ∀ (j : Nat) (hj : j < M.length), ldS (j : Int) (if ow[k] = (j : Int) then fadd M[j] ld[k] else M[j]) (ld.drop (k + 1)) (ow.drop (k + 1)) = ldS (j : Int) 0 ld ow := fun j hj => by
        have h := hT.out.2.2.2.2 j hj
        rw [dropcons hlt, dropcons hlt2, ldS_cons] at h
        exact h
      have HALL := Lib.hid hall
      have hkl : (k : Int) < ld.length := by omega
      generalize ld[k] = x at *
      generalize ow[k] = y at *
      obtain ⟨j, rfl⟩ : ∃ j : Nat, y = (j : Int) := ⟨y.toNat, by unfold stranger at hst; simp at hst; omega⟩
      have hj : j < n := by unfold stranger at hst; simp at hst; omega
      have hjM : j < M.length := by rw [hT.out.2.2.1]; exact hj
      obtain ⟨qa2, cc2, hv, hform⟩ := hT.out.1.form
      injection hv with hv1 hv2 hv3
      subst hv1
      obtain ⟨g, hgg, hgB, hgs, hcj, hfj, hset⟩ := hform j hjM
      injection hgg with hgg
      injection hgg with hgg _ _
      subst hgg
      obtain ⟨ha, hgz⟩ := fadd_eq (hT.out.2.2.2.1 M[j] (List.getElem_mem _)) hxn
      have hadd := fun w => run_float_arith (P := Try.prog) w .add 48 .f64 _ _ _ ha
      have HSET := Lib.hid (hset (fadd M[j] x))
      have HGZ := Lib.hid hgz
      have hnew : Hid (∀ (i : Nat) (hi : i < (M.set j (fadd M[j] x)).length), ldS (i : Int) (M.set j (fadd M[j] x))[i] (ld.drop (k + 1)) (ow.drop (k + 1)) = ldS (i : Int) 0 ld ow) := fun i hi => by
        have hi' : i < M.length := by simpa using hi
        have h := HALL.out i hi'
        rw [List.getElem_set]
        by_cases hij : j = i
        · subst hij
          rw [if_pos rfl] at h
          rw [if_pos rfl]; exact h
        · rw [if_neg (by omega)] at h
          rw [if_neg hij]; exact h
      have hgood : Hid (∀ x' ∈ M.set j (fadd M[j] x), good x') := fun x' hx' => by
        rcases List.mem_or_eq_of_mem_set hx' with h | h
        · exact hT.out.2.2.2.1 x' h
        · rw [h]; exact hgz
      have hlenM := Lib.hid hT.out.2.2.1
      have hex := Lib.hid hT.out.2.1
      generalize hf : fadd M[j] x = z at *
      generalize M[j] = y at *
      clear hc' hc2' hst hxn hall hform hset hv2 hv3 ha hgz hf HALL hjM hT
      go_wp2_with fail
      go_region
      all_goals (try go_wp2_with fail)
      go_roundw
      case measure => simp only [intOf]; omega
      case rel => exact ⟨k + 1, M.set j z, by omega, by go_num, HSET.out.drew, (hex.out.set (Nat.le_refl _) _).drew, by rw [List.length_set]; exact hlenM.out, hgood.out, hnew.out⟩
    · obtain rfl : ow.length = k := by omega
      have hfin : Hid (M = sumsOf ld ow n) := by
        show _ = _
        apply List.ext_getElem (by rw [sumsOf_len]; exact hT.out.2.2.1)
        intro i h1 h2
        have h := hT.out.2.2.2.2 i h1
        rw [List.drop_of_length_le (by rw [RT.out.len]; exact Nat.le_refl _), ldS_nil] at h
        rw [h]; simp [sumsOf]
      have O1 := Lib.hid hT.out.1
      have E1 := Lib.hid hT.out.2.1
      rw [hfin.out] at O1
      clear hT hfin
      go_wp2_with fail
      go_ret
      exact ⟨_, rfl, O1.out, E1.out⟩
theorem bsums_calls (lv ov : Value) (ld : List Nat) (ow : List Int) (s : Int) (w : World) (hl : Rd w cf lv ld) (ho : Rd w ci ov ow) (hb : ∀ x ∈ ld, x < 18446744073709551616) (hlm : ld.length ≤ 9223372036854775807) (hom : ow.length ≤ 9223372036854775807) :
    Calls Try.prog 19 #[lv, ov, ci s] w fun e w' => ResF w.heap.size (sumsR ld ow s) e w' ∧ Ext w w' := by
  have H38 := Lib.hid (right_calls lv ov ld ow s w hl ho hb hlm hom)
  have HL := Lib.hid hl
  have HO := Lib.hid ho
  have HLM := Lib.hid hlm
  have HRT := Lib.hid (fun h => right_rt (s := s) (ow := ow) hb h)
  obtain ⟨R, hR⟩ : ∃ R, sumsR ld ow s = R := ⟨_, rfl⟩
  have HR := Lib.hid hR
  rw [hR]
  clear hl ho hb hlm hom hR
  obtain ⟨rb, hrb⟩ : ∃ b, rightB ld ow s = b := ⟨_, rfl⟩
  have HRB := Lib.hid hrb
  rw [hrb] at H38
  clear hrb
  cases rb with
  | false =>
    have hn : Hid (R = none) := by show _ = _; rw [← HR.out]; unfold sumsR; rw [HRB.out]; rfl
    go_enter Try.func19, Try.ntmps19
    go_wp2_with (first | (go_at_call 38; refine H38.out.mono ?_; clear H38; rintro e w1 ⟨rfl, e1⟩; have E1 := Lib.hid e1; clear e1) | fail)
    go_ret2
    exact ⟨Or.inl ⟨hn.out, rfl⟩, E1.out⟩
  | true =>
    have RT := Lib.hid (HRT.out HRB.out)
    obtain ⟨n, rfl⟩ : ∃ n : Nat, s = (n : Int) := ⟨s.toNat, by have := RT.out.lo; omega⟩
    have hsome : Hid (R = some (sumsOf ld ow n)) := by show _ = _; rw [← HR.out]; unfold sumsR; rw [HRB.out]; rfl
    clear HRT HR HRB
    go_enter Try.func19, Try.ntmps19
    go_wp2_with (first
      | (go_at_call 38; refine H38.out.mono ?_; clear H38; rintro e w1 ⟨rfl, e1⟩
         have E1 := Lib.hid e1
         have H39 := Lib.hid (sums_calls lv ov ld ow n w1 (e1.rd HL.out) (e1.rd HO.out) RT.out HLM.out)
         clear e1)
      | (go_at_call 39; refine H39.out.mono ?_; clear H39; rintro e w2 ⟨v', rfl, o2, e2⟩
         have O2 := Lib.hid (o2.mono E1.out.size)
         have E2 := Lib.hid (E1.out.trans e2)
         clear o2 e2)
      | fail)
    go_ret2
    exact ⟨Or.inr ⟨_, _, hsome.out, rfl, O2.out⟩, E2.out⟩
def resFL (R : Option (List Nat)) : List Nat := R.getD []
def resFC (R : Option (List Nat)) : Int := if R.isSome then 0 else 250
theorem ResF.use {B : Nat} {R : Option (List Nat)} {e : Ending} {w' : World} (h : ResF B R e w') : ∃ v, e = .returned (.tuple #[v, ci (resFC R)]) ∧ Rd w' cf v (resFL R) := by
  rcases h with ⟨rfl, h⟩ | ⟨L, v', rfl, h, o⟩
  · exact ⟨_, h, Or.inl ⟨none, 0, rfl, rfl, fun _ => rfl⟩⟩
  · exact ⟨_, h, o.rd⟩
theorem resFL_len {ld : List Nat} {ow : List Int} {s : Int} (hb : ∀ x ∈ ld, x < 18446744073709551616) : (resFL (sumsR ld ow s)).length ≤ 8 := by
  unfold resFL sumsR
  split
  · rename_i h
    have rt := right_rt hb h
    show (sumsOf ld ow s.toNat).length ≤ 8
    rw [sumsOf_len]
    have := rt.hi
    omega
  · simp
end Go.Proofs.Ytkpjnikmcojdlaa
