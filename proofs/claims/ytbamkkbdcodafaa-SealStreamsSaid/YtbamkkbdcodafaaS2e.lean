/- The walks of layer 2 (seal): joined, lent, kept; what is asked. -/
import Derived.Test.YtbamkkbdcodafaaS2d
import Derived.Deep.QuietTactic
import Derived.BigQuiet
namespace Go.Proofs.Ytbamkkbdcodafaa
open Go.RowKit
set_option linter.unusedVariables false

theorem Try.u23 : Try.prog.underlying 23 = some (.slice 5) := by kernel_rfl
theorem Try.info5 : (Try.prog.info? 5).map (fun i => (i.zero, i.size, i.bytes)) = some (some (.int .u8 0), 1, 1) := by kernel_rfl
theorem cb_one (a : BitVec 8) : (cb a).oneCell' = true := rfl
theorem joined_calls (sa sb : Value) (a b : List (BitVec 8)) (w : World) (ha : Rd w cb sa a) (hb : Rd w cb sb b) (hl : a.length + b.length ≤ 140737488355328) :
    Calls Try.prog 18 #[sa, sb] w fun e w' => ∃ v', e = .returned v' ∧ Own w' w.heap.size 5 cb v' (a ++ b) ∧ Ext w w' := by
  obtain ⟨i5, j1, j2, j3, j4⟩ := info_parts Try.info5
  have hz : i5.zero = some (cb 0#8) := j2
  go_enter Try.func18, Try.ntmps18
  go_wp2_with (first
    | (refine wpList_append_rd cb cb_one rfl (.tmp 6) (.tmp 7) 23 rfl w.heap.size 5 i5 0#8 1 Try.u23 j1 hz j3 j4 rfl (.slice none 0 0) [] rfl Own.nil _ a rfl ha (by simp; omega) (by simp; omega) (Nat.le_refl _) ?_
       intro v1 w1 ho1 hg1
       have e1 : Ext w w1 := (Ext.refl w).grown hg1 (fun k hk => by cases hk)
       have hb1 := e1.rd hb
       clear ha hb hg1)
    | (refine wpList_append_rd cb cb_one rfl (.tmp 9) (.tmp 10) 23 rfl w.heap.size 5 i5 0#8 1 Try.u23 j1 hz j3 j4 rfl v1 _ rfl ho1 _ b rfl hb1 (by simp; omega) (by simp; omega) e1.size ?_
       intro v2 w2 ho2 hg2
       have e2 : Ext w w2 := e1.grown hg2 (fun k hk => (World.ownsRow.lt ho1 k hk).1)))
  go_ret
  exact ⟨_, rfl, ho2, e2⟩
theorem take_succ_eq {α : Type} {a b : List α} {k : Nat} (ha : k < a.length) (hb : k < b.length) (h : a.take k = b.take k) (hk : a[k] = b[k]) : a.take (k + 1) = b.take (k + 1) := by
  rw [List.take_add_one, List.take_add_one, h, List.getElem?_eq_getElem ha, List.getElem?_eq_getElem hb, hk]
theorem same_calls (sa sb : Value) (a b : List (BitVec 8)) (w : World) (ha : Rd w cb sa a) (hb : Rd w cb sb b) (hla : a.length ≤ 9223372036854775807) (hlb : b.length ≤ 9223372036854775807) :
    Calls Try.prog 15 #[sa, sb] w fun e w' => e = .returned (.bool (decide (a = b))) ∧ ∃ n, w.drewN n = w' := by
  have hla' : (a.length : Int) ≤ 9223372036854775807 := by omega
  have hlb' : (b.length : Int) ≤ 9223372036854775807 := by omega
  clear hla hlb
  obtain ⟨ad, c, rfl, hA⟩ := ha.at
  obtain ⟨bd, d, rfl, hB⟩ := hb.at
  have HA := Lib.hid hA
  have HB := Lib.hid hB
  clear ha hb hA hB
  go_enter Try.func15, Try.ntmps15
  by_cases hl : a.length = b.length
  · have hll : (a.length : Int) = b.length := by omega
    have HL := Lib.hid hl
    clear hl
    go_wp2_with fail
    go_loopw [5] (fun i wr => ∃ (k n : Nat), k ≤ b.length ∧ i = .int .i64 k ∧ wr = w.drewN n ∧ Hid (a.take k = b.take k)) (fun i _ => (b.length - (intOf i).toNat))
    case atStart => exact ⟨0, 0, by omega, rfl, rfl, by show List.take 0 a = _; rw [List.take_zero, List.take_zero]⟩
    case round =>
      obtain ⟨k, n, hk, rfl, rfl, ht⟩ := hrel
      by_cases hlt : k < b.length
      · have hlt2 : k < a.length := by rw [HL.out]; exact hlt
        obtain ⟨b1, o1, rfl, hc1⟩ := HA.out k hlt2
        obtain ⟨b2, o2, rfl, hc2⟩ := HB.out k hlt
        by_cases hx : a[k] = b[k]
        · have ht' := Lib.hid (take_succ_eq hlt2 hlt ht.out hx)
          rw [hx] at hc1
          generalize b[k] = y at *
          clear ht hx
          have hyy : (y != y) = false := by simp
          go_wp2_with fail
          go_quiet (fail)
          go_wp2_with fail
          go_roundw
          case measure => simp only [intOf]; omega
          case rel => exact ⟨k + 1, _, by omega, by go_num, rfl, ht'⟩
        · have hne : (a[k] != b[k]) = true := by simp [hx]
          have hab := Lib.hid (show a ≠ b from fun h => hx (by subst h; rfl))
          generalize b[k] = y at *
          generalize a[k] = x at *
          clear ht hx
          go_wp2_with fail
          go_quiet (fail)
          go_wp2_with fail
          go_ret
          exact ⟨by rw [decide_eq_false hab.out]; rfl, _, (World.drewN_drewN ..).symm⟩
      · obtain rfl : k = b.length := by omega
        have hab := Lib.hid (show a = b by have := ht.out; rw [List.take_length, ← HL.out, List.take_length] at this; exact this)
        clear ht
        go_wp2_with fail
        go_ret
        exact ⟨by rw [decide_eq_true hab.out]; rfl, _, rfl⟩
  · have hll : ((a.length : Int) != b.length) = true := by simp; omega
    have hab := Lib.hid (show a ≠ b from fun h => hl (by rw [h]))
    clear hl
    go_wp2_with fail
    go_ret
    exact ⟨by rw [decide_eq_false hab.out]; rfl, 0, rfl⟩
end Go.Proofs.Ytbamkkbdcodafaa
