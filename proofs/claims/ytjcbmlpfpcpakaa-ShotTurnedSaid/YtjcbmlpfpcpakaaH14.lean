/- Layer 12 (shot), the statements' helpers: num, place, same, fit. -/
import Derived.Test.YtjcbmlpfpcpakaaH13
import Derived.Test.YtjcbmlpfpcpakaaP12c
import Derived.Test.YtjcbmlpfpcpakaaD8k
namespace Go.Proofs.Ytjcbmlpfpcpakaa
open Go Go.RowKit
set_option linter.unusedVariables false
set_option linter.unusedSimpArgs false
theorem num12_calls (n : Int) (w : World) : Calls Try.prog 47 #[ci n] w fun e w' => e = .returned (ci n) ∧ w = w' := by
  go_enter Try.func47, Try.ntmps47
  go_wp2_with fail
  go_ret
  exact ⟨rfl, rfl⟩
theorem place12_calls (a n : Int) (ha : -9223372036854775808 ≤ a) (ha' : a ≤ 9223372036854775807) (hn : 1 ≤ n) (hn' : n ≤ 9223372036854775807) (w : World) : Calls Try.prog 46 #[.int .i64 a, .int .i64 n] w fun e w' =>
    e = .returned (.int .i64 (a % n)) ∧ w = w' := by
  have hz : ¬ n = 0 := by omega
  have hb1 : -n < a.tmod n := Int.lt_tmod_of_pos a (by omega)
  have hb2 : a.tmod n < n := Int.tmod_lt_of_pos a (by omega)
  by_cases h0 : 0 ≤ a
  · have hb3 : 0 ≤ a % n := Int.emod_nonneg a (by omega)
    go_enter Try.func46, Try.ntmps46
    go_wp2_with fail
    go_ret
    exact ⟨rfl, rfl⟩
  · have he := Int.emod_eq_tmod (a := a) (b := n)
    have hb3 : a.tmod n ≤ 0 := by
      have e := Int.neg_tmod (a := a) (b := n)
      have := Int.tmod_nonneg (a := -a) n (by omega)
      omega
    by_cases h1 : a.tmod n < 0
    · have hd : ¬ n ∣ a := fun h => by have := Int.tmod_eq_zero_of_dvd h; omega
      have hr : a % n = a.tmod n + n := by rw [he, if_neg (by simp [hd, h0])]; omega
      rw [hr]
      clear he hr hd
      go_enter Try.func46, Try.ntmps46
      go_wp2_with fail
      go_ret
      exact ⟨rfl, rfl⟩
    · have h2 : a.tmod n = 0 := by omega
      have hr : a % n = a.tmod n := by
        rw [he, if_pos (Or.inr (Int.dvd_of_tmod_eq_zero h2))]; omega
      rw [hr]
      clear he hr h2
      go_enter Try.func46, Try.ntmps46
      go_wp2_with fail
      go_ret
      exact ⟨rfl, rfl⟩
theorem same12_calls (sa sb : Value) (a b : List (BitVec 8)) (w : World) (ha : Rd w cb sa a) (hb : Rd w cb sb b) (hla : a.length ≤ 9223372036854775807) (hlb : b.length ≤ 9223372036854775807) :
    Calls Try.prog 51 #[sa, sb] w fun e w' => e = .returned (.bool (decide (a = b))) ∧ ∃ n, w.drewN n = w' := by
  have hla' : (a.length : Int) ≤ 9223372036854775807 := by omega
  have hlb' : (b.length : Int) ≤ 9223372036854775807 := by omega
  clear hla hlb
  obtain ⟨ad, c, rfl, hA⟩ := ha.at
  obtain ⟨bd, d, rfl, hB⟩ := hb.at
  have HA := Lib.hid hA
  have HB := Lib.hid hB
  clear ha hb hA hB
  go_enter Try.func51, Try.ntmps51
  by_cases hl : a.length = b.length
  · have hll : (a.length : Int) = b.length := by omega
    have HL := Lib.hid hl
    clear hl
    go_wp2_with fail
    go_loopw [5] (fun i wr => ∃ (k n : Nat), k ≤ b.length ∧ i = .int .i64 k ∧ wr = w.drewN n ∧ Hid (a.take k = b.take k)) (fun i _ => (b.length - (intOf i).toNat))
    case atStart => exact ⟨0, 0, by omega, rfl, rfl, by show List.take 0 a = _; rw [List.take_zero, List.take_zero]⟩
    case round =>
      obtain ⟨k, n, hk, rfl, rfl, ht⟩ := hrel
      by_cases hlt : k < b.length
      · have hlt2 : k < a.length := by rw [HL.out]; exact hlt
        obtain ⟨b1, o1, rfl, hc1⟩ := HA.out k hlt2
        obtain ⟨b2, o2, rfl, hc2⟩ := HB.out k hlt
        by_cases hx : a[k] = b[k]
        · have ht' := Lib.hid (take_succ_eq hlt2 hlt ht.out hx)
          rw [hx] at hc1
          generalize b[k] = y at *
          clear ht hx
          have hyy : (y != y) = false := by simp
          go_wp2_with fail
          go_quiet (fail)
          go_wp2_with fail
          go_roundw
          case measure => simp only [intOf]; omega
          case rel => exact ⟨k + 1, _, by omega, by go_num, rfl, ht'⟩
        · have hne : (a[k] != b[k]) = true := by simp [hx]
          have hab := Lib.hid (show a ≠ b from fun h => hx (by subst h; rfl))
          generalize b[k] = y at *
          generalize a[k] = x at *
          clear ht hx
          go_wp2_with fail
          go_quiet (fail)
          go_wp2_with fail
          go_ret
          exact ⟨by rw [decide_eq_false hab.out]; rfl, _, (World.drewN_drewN ..).symm⟩
      · obtain rfl : k = b.length := by omega
        have hab := Lib.hid (show a = b by have := ht.out; rw [List.take_length, ← HL.out, List.take_length] at this; exact this)
        clear ht
        go_wp2_with fail
        go_ret
        exact ⟨by rw [decide_eq_true hab.out]; rfl, _, rfl⟩
  · have hll : ((a.length : Int) != b.length) = true := by simp; omega
    have hab := Lib.hid (show a ≠ b from fun h => hl (by rw [h]))
    clear hl
    go_wp2_with fail
    go_ret
    exact ⟨by rw [decide_eq_false hab.out]; rfl, 0, rfl⟩


def fitL (data : By) (size : Nat) : By := data.take (64 * (size - 1))
theorem fitL_len (data : By) (size : Nat) : (fitL data size).length ≤ 64 * (size - 1) := by unfold fitL; rw [List.length_take]; omega
set_option maxRecDepth 100000 in
theorem fit_calls (sv : Value) (p : By) (size : Nat) (w : World) (hp : Rd w cb sv p) (hcap : ∀ a n c, sv = .slice a n c → n ≤ c) (hm : p.length ≤ 140737488351232) (h2 : 2 ≤ size) (hs : size ≤ 65536) :
    Calls Try.prog 49 #[sv, ci size] w fun e w' => ∃ v, e = .returned v ∧ Own w' w.heap.size 5 cb v (fitL p size) ∧ Ext w w' := by
  obtain ⟨i5, j1, j2, j3, j4⟩ := info_parts Try.info5
  obtain ⟨va, vc, rfl⟩ := hp.form
  have hvc := hcap _ _ _ rfl
  have HP := Lib.hid hp
  have HF := Lib.hid (fitL_len p size)
  obtain ⟨M, hM⟩ : ∃ M, 64 * (size - 1) = M := ⟨_, rfl⟩
  have hM' : (64 : Int) * ((size : Int) - 1) = M := by omega
  have hM1 : (M : Int) ≤ 4194304 := by omega
  have hw1 : wrap64 ((size : Int) - 1) = (size : Int) - 1 := by unfold wrap64; omega
  have hw2 : wrap64 (64 * ((size : Int) - 1)) = M := by unfold wrap64; omega
  clear hp hcap hM'
  have E1 : Hid (Ext w (w.alloc (.cells #[] 5))) := Lib.hid (Ext.of_alloc _)
  have O1 : Hid (Own (w.alloc (.cells #[] 5)) w.heap.size 5 cb (.slice (some ⟨w.heap.size, 0, none⟩) 0 0) []) := Own.made (Nat.le_refl _)
  have S1 := Lib.hid E1.out.size
  by_cases hl : p.length ≤ M
  · have hg : ¬ ((M : Int) < p.length) := by omega
    have hfl : fitL p size = p := by unfold fitL; rw [hM]; exact List.take_of_length_le hl
    rw [hfl]
    have hg' : decide ((M : Int) < p.length) = false := decide_eq_false hg
    have HA := Lib.hid (show (([] : By).length + p.length) * 1 ≤ 140737488355328 by simp; omega)
    have HB := Lib.hid (show ([] : By).length + p.length ≤ 9223372036854775807 by simp; omega)
    clear hM hfl hm h2 hs hl hM1
    have HVC := Lib.hid hvc
    clear hvc
    go_enter Try.func49, Try.ntmps49
    go_wp2_with (first
      | (at_builtin; refine wpList_append_rd cb (fun _ => rfl) rfl (.tmp 16) (.tmp 19) 36 rfl w.heap.size 5 i5 0#8 1 Try.u36 j1 j2 j3 j4 rfl (.slice (some ⟨w.heap.size, 0, none⟩) 0 0) [] rfl O1.out _ p rfl (E1.out.rd HP.out) HA.out HB.out S1.out ?_
         intro v1 w1 ho1 hg1
         have e1 : Ext w w1 := E1.out.grown hg1 (fun k hk => by cases hk; exact Nat.le_refl _)
         rw [List.nil_append] at ho1
         clear hg1)
      | fail)
    go_ret
    exact ⟨_, rfl, ho1, e1⟩
  · have hg' : decide ((M : Int) < p.length) = true := decide_eq_true (by omega)
    obtain ⟨q, hq⟩ : ∃ q, fitL p size = q := ⟨_, rfl⟩
    have hql : q.length = M := by rw [← hq]; unfold fitL; rw [List.length_take, hM]; omega
    have hqp : p.take M = q := by rw [← hq, ← hM]; rfl
    have hMl : M ≤ p.length := by omega
    have HP : Hid (Rd w cb (.slice va q.length vc) q) := by
      rcases HP.out with ⟨a, c, e, h0, _⟩ | ⟨b, off, c, n, e, h2', h3, h4⟩
      · rw [h0] at hl; exact absurd (Nat.zero_le _) hl
      · injection e with e1 e2 e3
        subst e1 e2 e3
        refine Or.inr ⟨b, off, _, _, rfl, rfl, by rw [hql]; omega, fun i hi => ?_⟩
        rw [h4 i (by omega)]
        congr 1
        simp only [← hqp, List.getElem_take]
    rw [hq]
    have HQL := Lib.hid hql
    have HVC := Lib.hid hvc
    clear hq hqp
    obtain ⟨pn, hpn⟩ : ∃ pn, p.length = pn := ⟨_, rfl⟩
    rw [hpn] at hMl hg' hvc hm hl ⊢
    have hfl := hM
    rw [← hql] at hw2 hg' hM1 hMl
    clear HQL hql hpn HF
    have hlt : q.length < pn := by simpa using hg'
    have hlv : q.length ≤ vc := by omega
    clear hMl
    have HA := Lib.hid (show (([] : By).length + q.length) * 1 ≤ 140737488355328 by simp; omega)
    have HB := Lib.hid (show ([] : By).length + q.length ≤ 9223372036854775807 by simp; omega)
    clear hM hfl hm h2 hs hl hM1
    have HVC := Lib.hid hvc
    clear hvc
    go_enter Try.func49, Try.ntmps49
    go_wp2_with (first
      | (at_builtin; refine wpList_append_rd cb (fun _ => rfl) rfl (.tmp 16) (.tmp 19) 36 rfl w.heap.size 5 i5 0#8 1 Try.u36 j1 j2 j3 j4 rfl (.slice (some ⟨w.heap.size, 0, none⟩) 0 0) [] rfl O1.out _ q rfl (E1.out.rd HP.out) HA.out HB.out S1.out ?_
         intro v1 w1 ho1 hg1
         have e1 : Ext w w1 := E1.out.grown hg1 (fun k hk => by cases hk; exact Nat.le_refl _)
         rw [List.nil_append] at ho1
         clear hg1)
      | fail)
    go_ret
    exact ⟨_, rfl, ho1, e1⟩
end Go.Proofs.Ytjcbmlpfpcpakaa
