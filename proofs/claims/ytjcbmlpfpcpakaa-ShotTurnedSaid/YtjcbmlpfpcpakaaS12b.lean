/- Layer 2's walks (seal), in the seat of the layers 8, 11, 12: sums, marks, and back. -/
import Derived.Test.YtjcbmlpfpcpakaaS12a
import Derived.Test.YtjcbmlpfpcpakaaD8k
namespace Go.Proofs.Ytjcbmlpfpcpakaa
open Go.RowKit
set_option linter.unusedVariables false

theorem crc_calls (sv : Value) (p : List (BitVec 8)) (w : World) (hp : Rd w cb sv p) (hm : p.length ≤ 9223372036854775807) :
    Calls Try.prog 146 #[sv] w fun e w' => e = .returned (c32 (~~~ tkn 0xFFFFFFFF#32 p)) ∧ Ext w w' := by
  have h0 : (4294967295 : Int) = Bv 0xFFFFFFFF#32 := by kernel_rfl
  have H := taken_calls 0xFFFFFFFF#32 sv p w hp hm
  simp only [c32, ← h0] at H
  go_enter Try.func146, Try.ntmps146
  go_wp2_with fail
  refine H.mono ?_
  rintro e w' ⟨rfl, A, B, C, rfl⟩
  go_wp2_with fail
  go_ret
  exact ⟨rfl, Ext.of_alloc3 _ _ _⟩
/-- the document's step -/
def rstep (v : BitVec 32) : BitVec 32 := if v &&& 1#32 == 1#32 then v >>> 1 ^^^ 0x82F63B78#32 else v >>> 1
theorem rstep_calls (v : BitVec 32) (w : World) : Calls Try.prog 179 #[c32 v] w fun e w' => e = .returned (c32 (rstep v)) ∧ w = w' := by
  go_enter Try.func179, Try.ntmps179
  cases h : (v &&& 1#32 == 1#32) with
  | true =>
    go_wp2_with fail
    go_ret
    exact ⟨by unfold rstep; rw [h]; rfl, rfl⟩
  | false =>
    go_wp2_with fail
    go_ret
    exact ⟨by unfold rstep; rw [h]; rfl, rfl⟩
attribute [irreducible] rstep
def rstepN : Nat → BitVec 32 → BitVec 32
  | 0, v => v
  | k + 1, v => rstepN k (rstep v)
theorem rstepN_zero (v : BitVec 32) : rstepN 0 v = v := rfl
theorem rstepN_succ (k : Nat) (v : BitVec 32) : rstepN (k + 1) v = rstepN k (rstep v) := rfl
def rbyte (v : BitVec 32) (b : BitVec 8) : BitVec 32 := rstepN 8 (v ^^^ b.setWidth 32)
theorem rbyte_eq (v : BitVec 32) (b : BitVec 8) : rbyte v b = rstepN 8 (v ^^^ b.setWidth 32) := rfl
def rtk (v : BitVec 32) (p : List (BitVec 8)) : BitVec 32 := p.foldl rbyte v
theorem rtk_nil (v : BitVec 32) : rtk v [] = v := rfl
theorem rtk_cons (v : BitVec 32) (b : BitVec 8) (p : List (BitVec 8)) : rtk v (b :: p) = rtk (rbyte v b) p := rfl
attribute [irreducible] rstepN rbyte rtk
theorem rcrc_calls (sv : Value) (p : List (BitVec 8)) (w : World) (hp : Rd w cb sv p) (hm : p.length ≤ 9223372036854775807) :
    Calls Try.prog 174 #[sv] w fun e w' => e = .returned (c32 (rtk 0xFFFFFFFF#32 p ^^^ 0xFFFFFFFF#32)) ∧ w = w' := by
  have h0 : (4294967295 : Int) = Bv 0xFFFFFFFF#32 := by kernel_rfl
  have hm' : (p.length : Int) ≤ 9223372036854775807 := by omega
  clear hm
  obtain ⟨r, hr⟩ : ∃ r, rtk 0xFFFFFFFF#32 p = r := ⟨_, rfl⟩
  rw [hr]
  have HR := Lib.hid hr
  obtain ⟨ad, c, rfl, hat⟩ := hp.at
  have HA := Lib.hid hat
  clear hr hat hp
  go_enter Try.func174, Try.ntmps174
  go_wp2_with fail
  rw [h0]
  have H0 := Lib.hid h0
  clear h0
  go_loop [3, 4] (fun x i => ∃ (k : Nat) (y : BitVec 32), k ≤ p.length ∧ i = .int .i64 k ∧ x = c32 y ∧ Hid (rtk y (p.drop k) = r)) (fun _ i => p.length - (intOf i).toNat)
  case atStart => exact ⟨0, _, by omega, rfl, rfl, by rw [List.drop_zero]; exact HR.out⟩
  case round =>
    clear HR
    obtain ⟨k, y, hk, rfl, rfl, hy⟩ := hrel
    by_cases hlt : k < p.length
    · obtain ⟨b, o, rfl, hci⟩ := HA.out k hlt
      obtain ⟨x, hx⟩ : ∃ x, p[k] = x := ⟨_, rfl⟩
      have hy' := hy.out
      rw [List.drop_eq_getElem_cons hlt, rtk_cons, hx] at hy'
      rw [hx] at hci
      have HY := Lib.hid hy'
      clear hy hy' hx
      go_wp2_with fail
      go_loop [3, 5] (fun v j => ∃ (m : Nat) (z : BitVec 32), m ≤ 8 ∧ j = .int .i64 m ∧ v = c32 z ∧ Hid (rstepN (8 - m) z = rbyte y x)) (fun _ j => (8 - intOf j).toNat)
      case atStart => exact ⟨0, _, by omega, rfl, rfl, (rbyte_eq y x).symm⟩
      case round =>
        obtain ⟨m, z, hm, rfl, rfl, hz⟩ := hrel
        by_cases hlm : m < 8
        · have hz' : Hid (rstepN (8 - (m + 1)) (rstep z) = rbyte y x) := by have := hz.out; rw [show 8 - m = (8 - (m + 1)) + 1 by omega, rstepN_succ] at this; exact this
          clear hz
          go_wp2_with fail
          refine (rstep_calls z w).mono ?_; rintro e w' ⟨rfl, rfl⟩
          go_wp2_with fail
          go_round
          case measure => simp only [intOf]; omega
          case rel => exact ⟨m + 1, rstep z, by omega, by go_num, rfl, hz'⟩
        · obtain rfl : m = 8 := by omega
          have hz' := hz.out
          rw [Nat.sub_self, rstepN_zero] at hz'
          subst hz'
          clear hz
          go_wp2_with fail
          go_round
          case measure => simp only [intOf]; omega
          case rel => exact ⟨k + 1, _, by omega, by go_num, rfl, HY⟩
    · obtain rfl : k = p.length := by omega
      have hy' := hy.out
      rw [List.drop_length, rtk_nil] at hy'
      subst hy'
      clear hy
      go_wp2_with fail
      go_ret
      exact ⟨rfl, rfl⟩
end Go.Proofs.Ytjcbmlpfpcpakaa
