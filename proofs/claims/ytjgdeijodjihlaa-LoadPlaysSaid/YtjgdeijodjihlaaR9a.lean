/- Layer 9 (load): the reference's meter: its cells; halves; a shard's load out of all hits. -/
import Derived.Test.YtjgdeijodjihlaaP9a
import Derived.Test.YtjgdeijodjihlaaFlq
import Derived.Test.YtjgdeijodjihlaaTwo
import Derived.Test.YtjgdeijodjihlaaD9t
namespace Go.Proofs.Ytjgdeijodjihlaa
open Go.RowKit
set_option linter.unusedVariables false

def h3 (h : Ht) : List Value := [ci h.1, ci h.2.1, cf h.2.2]
theorem h3_len (l : List Ht) : (l.flatMap h3).length = l.length * 3 := by
  induction l with
  | nil => rfl
  | cons m r ih => rw [List.flatMap_cons, List.length_append, ih]; simp [h3]; omega
theorem h3_at : ∀ (l : List Ht) (i : Nat) (hi : i < l.length), (l.flatMap h3)[i * 3]? = some (ci l[i].1) ∧ (l.flatMap h3)[i * 3 + 1]? = some (ci l[i].2.1) ∧ (l.flatMap h3)[i * 3 + 2]? = some (cf l[i].2.2)
  | m :: r, 0, _ => by simp [h3]
  | m :: r, i + 1, hi => by
    have ih := h3_at r i (by simpa using hi)
    have e : ∀ j, 3 ≤ j → ((m :: r).flatMap h3)[j]? = (r.flatMap h3)[j - 3]? := fun j hj => by
      rw [List.flatMap_cons, List.getElem?_append_right (by simpa [h3] using hj)]
      rfl
    rw [e _ (by omega), e _ (by omega), e _ (by omega)]
    rw [show (i + 1) * 3 - 3 = i * 3 by omega, show (i + 1) * 3 + 1 - 3 = i * 3 + 1 by omega, show (i + 1) * 3 + 2 - 3 = i * 3 + 2 by omega]
    simpa using ih
/-- the reference's meter at r: n shards, the half life, the clock, all hits A (in the row av) -/
structure RB (w : World) (r n half now : Nat) (av : Value) (A : List Ht) : Prop where
  b : Blk w r #[ci n, ci half, ci now, av] 71
  a : Rw w 78 3 av A.length (A.flatMap h3)
section
variable {w w' : World} {r n half now : Nat} {av : Value} {A : List Ht}
theorem RB.ext (h : RB w r n half now av A) (e : Ext w w') : RB w' r n half now av A := ⟨h.b.ext e, h.a.ext e⟩
theorem RB.row (h : RB w r n half now av A) : ∃ qa c, av = .slice qa A.length c ∧ A.length ≤ c ∧ c ≤ maxLen ∧ ∀ i, (hi : i < A.length) → ∃ b, qa = some ⟨b, 0, none⟩ ∧ w.cell? ⟨b, i * 3, none⟩ = some (ci A[i].1) ∧ w.cell? ⟨b, i * 3 + 1, none⟩ = some (ci A[i].2.1) ∧ w.cell? ⟨b, i * 3 + 2, none⟩ = some (cf A[i].2.2) := by
  obtain ⟨qa, c, e, h1, h2, hf⟩ := h.a.form
  refine ⟨qa, c, e, h1, h2, fun i hi => ?_⟩
  obtain ⟨b, cur, e2, _, hb, _, hc⟩ := hf i hi
  obtain ⟨a0, a1, a2⟩ := h3_at A i hi
  exact ⟨b, e2, by rw [hb.cell]; exact hc _ _ a0, by rw [hb.cell]; exact hc _ _ a1, by rw [hb.cell]; exact hc _ _ a2⟩
theorem RB.c0 (h : RB w r n half now av A) : w.cell? ⟨r, 0, none⟩ = some (ci n) := h.b.cell 0
theorem RB.c1 (h : RB w r n half now av A) : w.cell? ⟨r, 1, none⟩ = some (ci half) := h.b.cell 1
theorem RB.c2 (h : RB w r n half now av A) : w.cell? ⟨r, 2, none⟩ = some (ci now) := h.b.cell 2
theorem RB.c3 (h : RB w r n half now av A) : w.cell? ⟨r, 3, none⟩ = some av := h.b.cell 3
end
set_option maxHeartbeats 1000000 in
theorem halved_calls (v K : Nat) (t : Int) (W : World) (hv : vle K v) (hg : good v) (h0 : 0 < K) (h53 : K < 9007199254740992) (ht : -9223372036854775808 ≤ t ∧ t ≤ 9223372036854775807) :
    Calls Try.prog 44 #[cf v, ci t] W fun e w' => e = .returned (cf (halves t.toNat v)) ∧ W = w' := by
  have HV := Lib.hid (And.intro hv hg)
  clear hv hg
  go_enter Try.func44, Try.ntmps44
  go_wp2_with fail
  go_loop [0, 1] (fun xv tv => ∃ (j x : Nat), j ≤ t.toNat ∧ xv = cf x ∧ tv = ci (t - j) ∧ Hid (x = halves j v)) (fun _ tv => (intOf tv).toNat)
  case atStart => exact ⟨0, v, by omega, rfl, by rw [show t - ((0 : Nat) : Int) = t by omega], rfl⟩
  case round =>
    obtain ⟨j, x, hj, rfl, rfl, hx⟩ := hrel
    by_cases h1 : 0 < t - j
    · have d1 : decide (0 < t - (j : Int)) = true := decide_eq_true h1
      have hxg : good x := by rw [hx.out]; exact halves_good HV.out.2 j
      have hxv : vle K x := by rw [hx.out]; exact vle_halves HV.out.1 h0 h53 j
      have hgz := gt_zero hxv.1
      rw [gtB_eq] at hgz
      by_cases h2 : x = 0
      · have d2 : decide (x ≠ 0) = false := decide_eq_false (fun c => c h2)
        rw [d2] at hgz
        have HR : Hid (x = halves t.toNat v) := by
          show x = _
          have e : t.toNat = j + (t.toNat - j) := by omega
          rw [e, halves_add, ← hx.out, h2, halves_nil]
        clear hxg hxv h2 d2 hx
        go_wp2_with fail
        go_ret
        exact ⟨by rw [← HR.out]; rfl, rfl⟩
      · have d2 : decide (x ≠ 0) = true := decide_eq_true h2
        rw [d2] at hgz
        have hq := half_quo hxv.1 hxg
        have hqr := fun w => run_float_arith (P := Try.prog) w .quo 33 .f64 _ _ _ hq
        have HX : Hid (fhalf x = halves (j + 1) v) := by show _ = fhalf _; rw [← hx.out]
        have hw1 : IntKind.i64.wrap (t - (j : Int) - 1) = t - (j : Int) - 1 := IntWalk.i64_in _ (by omega)
        generalize fhalf x = y at *
        clear hxg hxv h2 d2 hx hq
        go_wp2_with fail
        go_round
        case measure => simp only [intOf]; omega
        case rel => exact ⟨j + 1, y, by omega, rfl, by rw [show t - ((j + 1 : Nat) : Int) = t - j - 1 by omega], HX.out⟩
    · have d1 : decide (0 < t - (j : Int)) = false := decide_eq_false h1
      obtain rfl : j = t.toNat := by omega
      go_wp2_with fail
      go_ret
      exact ⟨by rw [← hx.out]; rfl, rfl⟩
theorem halved_quiet (v K : Nat) (t : Int) (W : World) (hv : vle K v) (hg : good v) (h0 : 0 < K) (h53 : K < 9007199254740992) (ht : -9223372036854775808 ≤ t ∧ t ≤ 9223372036854775807) (m : Nat) :
    Calls Try.prog 44 #[cf v, ci t] (W.drewN m) fun e w' => e = .returned (cf (halves t.toNat v)) ∧ ∃ n, (W.drewN m).drewN n = w' :=
  (halved_calls v K t (W.drewN m) hv hg h0 h53 ht).mono fun e w' h => ⟨h.1, 0, h.2⟩
/-- how a hit goes into a shard's load, step by step -/
theorem vOf_drop (i : Int) (p : Nat × Nat) (A : List Ht) (k : Nat) (hk : k < A.length) : vOf i p (A.drop k) = vOf i (stp i p A[k]) (A.drop (k + 1)) := by
  rw [List.drop_eq_getElem_cons hk, vOf_cons]
set_option maxHeartbeats 2000000 in
set_option maxRecDepth 100000 in
theorem rof_calls (r n half now : Nat) (av : Value) (A : List Ht) (s : Int) (W : World) (h : RB W r n half now av A) (hw : Wt A (now / half)) (hh : 1 ≤ half) (hn : now ≤ 1099511627776) (hA : A.length + 1 < 8796093022208) :
    Calls Try.prog 36 #[.pointer (some ⟨r, 0, none⟩), ci s] W fun e w' => e = .returned (cf (ofA A s (now / half))) ∧ ∃ n, W.drewN n = w' := by
  obtain ⟨qa, c, rfl, hc1, hc2, hcell⟩ := h.row
  have HC := Lib.hid hcell
  have hc1' : (A.length : Int) ≤ c := by omega
  have hc2' : (c : Int) ≤ 9223372036854775807 := by simp only [maxLen] at hc2; omega
  clear hc2
  have HW := Lib.hid hw
  have k1 := h.c1
  have k2 := h.c2
  have k3 := h.c3
  have hAl : (A.length : Int) < 8796093022208 := by omega
  have hdv : ((now / half : Nat) : Int) ≤ 1099511627776 := by have := Nat.div_le_self now half; omega
  have htd : Int.tdiv (now : Int) (half : Int) = ((now / half : Nat) : Int) := by rw [Int.tdiv_eq_ediv_of_nonneg (by omega)]; rfl
  have hh0 : (half : Int) ≠ 0 := by omega
  obtain ⟨C, hC⟩ : ∃ x, now / half = x := ⟨_, rfl⟩
  rw [hC] at htd hdv HW
  have hAi : A.length + 1 < 8796093022208 := hA
  rw [hC]
  have HTD := Lib.hid (And.intro htd hh0)
  have HDV := Lib.hid hdv
  have HCC := Lib.hid hC
  have HAL := Lib.hid hA
  have HHF := Lib.hid (And.intro hh hn)
  clear h hcell hw htd hdv hC hA hAi hh0 hh hn
  go_enter Try.func36, Try.ntmps36
  go_wp2_with fail
  go_loopw [5, 6, 7] (fun xv gv iv wr => ∃ (k x a q : Nat), k ≤ A.length ∧ wr = W.drewN q ∧ iv = .int .i64 k ∧ xv = cf x ∧ gv = ci a ∧ a ≤ C ∧ Hid (vOf s (x, a) (A.drop k) = vOf s (0, 0) A ∧ good x ∧ vle (1 + k) x)) (fun _ _ iv _ => (A.length - (intOf iv).toNat))
  case atStart => exact ⟨0, 0, 0, 0, by omega, rfl, rfl, rfl, rfl, by omega, by rw [List.drop_zero], good0, vle_zero 1⟩
  case round =>
    obtain ⟨k, x, a, q, hk, rfl, rfl, rfl, rfl, ha, hT⟩ := hrel
    by_cases hlt : k < A.length
    · have hlt' : (k : Int) < A.length := by omega
      obtain ⟨b, rfl, c0, c1, c2⟩ := HC.out k hlt
      have hT1 := hT.out.1
      rw [vOf_drop s (x, a) A k hlt] at hT1
      have hwk := HW.out.w A[k] (List.getElem_mem _)
      have hak := HW.out.a A[k] (List.getElem_mem _)
      have hAi := HAL.out
      have hok := stp_ok s (c := C) (p := (x, a)) hwk hT.out.2.1 hT.out.2.2 (by omega) (by omega)
      generalize A[k] = h at *
      obtain ⟨hs, hg, hx⟩ := h
      have hdv := HDV.out
      replace hak : hg ≤ C := hak
      replace c0 : W.cell? ⟨b, k * 3, none⟩ = some (ci hs) := c0
      replace c1 : W.cell? ⟨b, k * 3 + 1, none⟩ = some (ci hg) := c1
      replace c2 : W.cell? ⟨b, k * 3 + 2, none⟩ = some (cf hx) := c2
      replace hwk : wtB hx = true ∧ hx < 18446744073709551616 := hwk
      by_cases e : hs = s
      · have de : (hs == s) = true := beq_iff_eq.2 e
        have est : stp s (x, a) (hs, hg, hx) = (fadd (halves (hg - a) x) hx, hg) := by unfold stp; rw [if_pos e]
        rw [est] at hT1 hok
        have hw1 : IntKind.i64.wrap ((hg : Int) - (a : Int)) = (hg : Int) - (a : Int) := IntWalk.i64_in _ (by omega)
        have HH := Lib.hid (halved_quiet x (1 + k) ((hg : Int) - a) W hT.out.2.2 hT.out.2.1 (by omega) (by omega) (by omega))
        rw [show ((hg : Int) - (a : Int)).toNat = hg - a by omega] at HH
        have hadd := (fadd_eq (halves_good hT.out.2.1 (hg - a)) (wt_nn hwk.1 hwk.2)).1
        have hfa := fun w => run_float_arith (P := Try.prog) w .add 33 .f64 _ _ _ hadd
        have HT := Lib.hid (And.intro hT1 hok)
        have HAG := Lib.hid hak
        generalize halves (hg - a) x = y at *
        generalize fadd y hx = z at *
        clear hT hT1 hok est hwk hadd e hak hdv hAi
        go_wp2_with fail
        go_quiet (first | (go_at_call 44; exact quiet_add HH.out _ _) | fail)
        go_wp2_with fail
        go_roundw
        case measure => simp only [intOf]; omega
        case rel => exact ⟨k + 1, z, hg, _, by omega, rfl, by go_num, rfl, rfl, HAG.out, HT.out.1, HT.out.2.1, by rw [show 1 + (k + 1) = 1 + k + 1 by omega]; exact HT.out.2.2⟩
      · have de : (hs == s) = false := beq_eq_false_iff_ne.2 e
        have est : stp s (x, a) (hs, hg, hx) = (x, a) := by unfold stp; rw [if_neg e]
        rw [est] at hT1 hok
        have HT := Lib.hid (And.intro hT1 hok)
        clear hT hT1 hok est hwk e hak hdv hAi
        go_wp2_with fail
        go_roundw
        case measure => simp only [intOf]; omega
        case rel => exact ⟨k + 1, x, a, q, by omega, rfl, by go_num, rfl, rfl, ha, HT.out.1, HT.out.2.1, by rw [show 1 + (k + 1) = 1 + k + 1 by omega]; exact HT.out.2.2⟩
    · obtain rfl : k = A.length := by omega
      have hT1 := hT.out.1
      rw [List.drop_length, vOf_nil] at hT1
      have hdv := HDV.out
      have hAi := HAL.out
      have htd := HTD.out.1
      have hh0 := HTD.out.2
      have hw1 : IntKind.i64.wrap ((C : Int) - (a : Int)) = (C : Int) - (a : Int) := IntWalk.i64_in _ (by omega)
      have HH := Lib.hid (halved_quiet x (1 + A.length) ((C : Int) - a) W hT.out.2.2 hT.out.2.1 (by omega) (by omega) (by omega))
      rw [show ((C : Int) - (a : Int)).toNat = C - a by omega] at HH
      have HO : Hid (ofA A s C = halves (C - a) x) := by show _ = _; unfold ofA; rw [← hT1]
      have HWD : Hid (wrap64 (C : Int) = C ∧ wrap64 ((C : Int) - (a : Int)) = (C : Int) - (a : Int)) := ⟨by unfold wrap64; omega, by unfold wrap64; omega⟩
      clear hT hT1 hdv hAi
      go_wp2_with fail
      go_quiet (first | (go_at_call 44; rw [HWD.out.1, HWD.out.2]; exact quiet_add HH.out _ _) | fail)
      go_wp2_with fail
      go_ret
      exact ⟨by rw [HO.out]; rfl, _, (World.drewN_drewN _ _ _).symm⟩
end Go.Proofs.Ytjgdeijodjihlaa
