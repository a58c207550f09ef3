/- The walks of layer 2 (seal): back over bytes; streams. -/
import Derived.Test.YtbamkkbdcodafaaS2c
namespace Go.Proofs.Ytbamkkbdcodafaa
open Go.RowKit
set_option linter.unusedVariables false

def unp : BitVec 64 := 14886173955864302971#64
theorem Bv_unp : (14886173955864302971 : Int) = Bv unp := by kernel_rfl
def bck (m : BitVec 64) (p : List (BitVec 8)) : BitVec 64 := p.foldr (fun b m => m * unp ^^^ b.setWidth 64) m
theorem bck_nil (m : BitVec 64) : bck m [] = m := rfl
theorem bck_snoc (m : BitVec 64) (p : List (BitVec 8)) (b : BitVec 8) : bck m (p ++ [b]) = bck (m * unp ^^^ b.setWidth 64) p := by simp [bck, List.foldr_append]
theorem bck_take (m : BitVec 64) (p : List (BitVec 8)) (k : Nat) (h : k < p.length) : bck m (p.take (k + 1)) = bck (m * unp ^^^ (p[k]).setWidth 64) (p.take k) := by
  rw [List.take_add_one, List.getElem?_eq_getElem h]; exact bck_snoc _ _ _
attribute [irreducible] bck
theorem back_calls (mk : BitVec 64) (sv : Value) (p : List (BitVec 8)) (w : World) (hp : Rd w cb sv p) (hm : p.length ≤ 9223372036854775807) :
    Calls Try.prog 32 #[cw mk, sv] w fun e w' => e = .returned (cw (bck mk p)) ∧ w = w' := by
  have hm' : (p.length : Int) ≤ 9223372036854775807 := by omega
  clear hm
  obtain ⟨r, hr⟩ : ∃ r, bck mk p = r := ⟨_, rfl⟩
  rw [hr]
  have HR := Lib.hid hr
  obtain ⟨ad, c, rfl, hat⟩ := hp.at
  have HA := Lib.hid hat
  clear hr hat hp
  go_enter Try.func32, Try.ntmps32
  go_wp2_with fail
  go_loop [0, 8] (fun v j => ∃ (m : Nat) (z : BitVec 64), m ≤ p.length ∧ j = .int .i64 m ∧ v = cw z ∧ Hid (bck z (p.take (p.length - m)) = r)) (fun _ j => (p.length - (intOf j).toNat))
  case atStart => exact ⟨0, _, by omega, rfl, rfl, by rw [Nat.sub_zero, List.take_length]; exact HR.out⟩
  case round =>
    obtain ⟨m, z, hm, rfl, rfl, hz⟩ := hrel
    by_cases hlm : m < p.length
    · have hz1 : bck (z * unp ^^^ (p[p.length - (m + 1)]'(by omega)).setWidth 64) (p.take (p.length - (m + 1))) = r := by have := hz.out; rw [show p.length - m = (p.length - (m + 1)) + 1 by omega, bck_take _ _ _ (by omega)] at this; exact this
      obtain ⟨b', o', rfl, hci'⟩ := HA.out (p.length - (m + 1)) (by omega)
      generalize p[p.length - (m + 1)]'(by omega) = x at *
      have HZ := Lib.hid hz1
      obtain ⟨q, hq, hpq⟩ : ∃ q : Nat, p.length - (m + 1) = q ∧ (p.length : Int) - 1 - m = (q : Int) := ⟨_, rfl, by omega⟩
      have hq2 : q < p.length := by omega
      have hql : m + q + 1 = p.length := by omega
      rw [hq] at hci'
      have hu := Bv_unp
      clear hz hz1 HR hq
      go_wp2_with fail
      go_round
      case measure => simp only [intOf]; omega
      case rel => exact ⟨m + 1, _, by omega, by go_num, rfl, HZ⟩
    · obtain rfl : m = p.length := by omega
      have hz' := hz.out
      rw [Nat.sub_self, List.take_zero, bck_nil] at hz'
      subst hz'
      clear hz HR
      go_wp2_with fail
      go_ret
      exact ⟨rfl, rfl⟩
def newt (x : BitVec 64) : BitVec 64 := x * (2#64 - 1099511628211#64 * x)
def newtN : Nat → BitVec 64 → BitVec 64
  | 0, x => x
  | k + 1, x => newtN k (newt x)
theorem newtN_zero (v : BitVec 64) : newtN 0 v = v := rfl
theorem newtN_succ (k : Nat) (v : BitVec 64) : newtN (k + 1) v = newtN k (newt v) := rfl
theorem newt_unp : newtN 6 1099511628211#64 = unp := by kernel_rfl
theorem newt_eq (x : BitVec 64) : newt x = x * (2#64 - 1099511628211#64 * x) := rfl
attribute [irreducible] newt newtN
theorem inverse_calls (w : World) : Calls Try.prog 41 #[.int .u64 1099511628211] w fun e w' => e = .returned (cw unp) ∧ w = w' := by
  have h0 : (1099511628211 : Int) = Bv 1099511628211#64 := by kernel_rfl
  rw [h0]
  go_enter Try.func41, Try.ntmps41
  have H0 := Lib.hid h0
  clear h0
  go_wp2_with fail
  go_loop [3, 4] (fun v j => ∃ (m : Nat) (z : BitVec 64), m ≤ 6 ∧ j = .int .i64 m ∧ v = cw z ∧ Hid (newtN (6 - m) z = unp)) (fun _ j => (6 - intOf j).toNat)
  case atStart => exact ⟨0, _, by omega, rfl, rfl, newt_unp⟩
  case round =>
    obtain ⟨m, z, hm, rfl, rfl, hz⟩ := hrel
    by_cases hlm : m < 6
    · have hz' : Hid (newtN (6 - (m + 1)) (z * (2#64 - 1099511628211#64 * z)) = unp) := by have := hz.out; rw [show 6 - m = (6 - (m + 1)) + 1 by omega, newtN_succ, newt_eq] at this; exact this
      clear hz
      go_wp2_with fail
      go_round
      case measure => simp only [intOf]; omega
      case rel => exact ⟨m + 1, _, by omega, by go_num, rfl, hz'⟩
    · obtain rfl : m = 6 := by omega
      have hz' := hz.out
      rw [Nat.sub_self, newtN_zero] at hz'
      subst hz'
      clear hz
      go_wp2_with fail
      go_ret
      exact ⟨rfl, rfl⟩
theorem rback_calls (mk : BitVec 64) (sv : Value) (p : List (BitVec 8)) (w : World) (hp : Rd w cb sv p) (hm : p.length ≤ 9223372036854775807) :
    Calls Try.prog 35 #[cw mk, sv] w fun e w' => e = .returned (cw (bck mk p)) ∧ w = w' := by
  have hm' : (p.length : Int) ≤ 9223372036854775807 := by omega
  clear hm
  obtain ⟨r, hr⟩ : ∃ r, bck mk p = r := ⟨_, rfl⟩
  rw [hr]
  have HR := Lib.hid hr
  obtain ⟨ad, c, rfl, hat⟩ := hp.at
  have HA := Lib.hid hat
  clear hr hat hp
  go_enter Try.func35, Try.ntmps35
  go_wp2_with fail
  refine (inverse_calls w).mono ?_; rintro e w' ⟨rfl, rfl⟩
  go_wp2_with fail
  go_loop [0, 6] (fun v j => ∃ (m : Nat) (z : BitVec 64), m ≤ p.length ∧ j = .int .i64 (p.length - 1 - m : Int) ∧ v = cw z ∧ Hid (bck z (p.take (p.length - m)) = r)) (fun _ j => (intOf j + 1).toNat)
  case atStart => exact ⟨0, _, by omega, by go_num, rfl, by rw [Nat.sub_zero, List.take_length]; exact HR.out⟩
  case round =>
    obtain ⟨m, z, hm, rfl, rfl, hz⟩ := hrel
    by_cases hlm : m < p.length
    · have hz1 : bck (z * unp ^^^ (p[p.length - (m + 1)]'(by omega)).setWidth 64) (p.take (p.length - (m + 1))) = r := by have := hz.out; rw [show p.length - m = (p.length - (m + 1)) + 1 by omega, bck_take _ _ _ (by omega)] at this; exact this
      obtain ⟨b', o', rfl, hci'⟩ := HA.out (p.length - (m + 1)) (by omega)
      generalize p[p.length - (m + 1)]'(by omega) = x at *
      have HZ := Lib.hid hz1
      obtain ⟨q, hq, hpq⟩ : ∃ q : Nat, p.length - (m + 1) = q ∧ (p.length : Int) - 1 - m = (q : Int) := ⟨_, rfl, by omega⟩
      have hq2 : q < p.length := by omega
      have hql : m + q + 1 = p.length := by omega
      rw [hq] at hci'
      rw [hpq]
      have HPQ := Lib.hid hpq
      clear hz hz1 HR hq hpq
      go_wp2_with fail
      go_round
      case measure => simp only [intOf]; omega
      case rel => exact ⟨m + 1, _, by omega, congrArg _ (by have := HPQ.out; omega), rfl, HZ⟩
    · obtain rfl : m = p.length := by omega
      have hz' := hz.out
      rw [Nat.sub_self, List.take_zero, bck_nil] at hz'
      subst hz'
      clear hz HR
      have hneg : decide ((0 : Int) ≤ (p.length : Int) - 1 - (p.length : Int)) = false := decide_eq_false (by omega)
      go_wp2_with fail
      go_ret
      exact ⟨rfl, rfl⟩
/-- a stream: its register, and how much was written -/
def StrAt (w : World) (g : Nat) (v : BitVec 32) (n : Int) : Prop := Blk w g #[c32 v, ci n] 58
theorem new_calls (w : World) : Calls Try.prog 21 #[] w fun e w' => e = .returned (.pointer (some ⟨w.heap.size, 0, none⟩)) ∧ StrAt w' w.heap.size 0xFFFFFFFF#32 0 ∧ Ext w w' ∧ w.heap.size < w'.heap.size := by
  have h0 : (4294967295 : Int) = Bv 0xFFFFFFFF#32 := by kernel_rfl
  go_enter Try.func21, Try.ntmps21
  go_wp2_with fail
  go_ret
  refine ⟨rfl, ?_, Ext.of_alloc _, by simp⟩
  exact Blk.new _ _ _
theorem sum_calls (g : Nat) (v : BitVec 32) (n : Int) (w : World) (hs : StrAt w g v n) : Calls Try.prog 24 #[.pointer (some ⟨g, 0, none⟩)] w fun e w' => e = .returned (c32 (~~~v)) ∧ w = w' := by
  have h1 : w.cell? ⟨g, 0, none⟩ = some (c32 v) := hs.cell 0
  clear hs
  go_enter Try.func24, Try.ntmps24
  go_wp2_with fail
  go_ret
  exact ⟨rfl, rfl⟩
theorem sum_nil (w : World) : Calls Try.prog 24 #[.pointer none] w fun e w' => e = .returned (.int .u32 0) ∧ w = w' := by
  go_enter Try.func24, Try.ntmps24
  go_wp2_with fail
  go_ret
  exact ⟨rfl, rfl⟩
theorem len_calls (g : Nat) (v : BitVec 32) (n : Int) (w : World) (hs : StrAt w g v n) : Calls Try.prog 25 #[.pointer (some ⟨g, 0, none⟩)] w fun e w' => e = .returned (ci n) ∧ w = w' := by
  have h1 : w.cell? ⟨g, 1, none⟩ = some (ci n) := hs.cell 1
  clear hs
  go_enter Try.func25, Try.ntmps25
  go_wp2_with fail
  go_ret
  exact ⟨rfl, rfl⟩
theorem len_nil (w : World) : Calls Try.prog 25 #[.pointer none] w fun e w' => e = .returned (.int .i64 0) ∧ w = w' := by
  go_enter Try.func25, Try.ntmps25
  go_wp2_with fail
  go_ret
  exact ⟨rfl, rfl⟩
theorem write_nil (sv : Value) (w : World) : Calls Try.prog 22 #[.pointer none, sv] w fun e w' => e = .returned (.tuple #[]) ∧ w = w' := by
  go_enter Try.func22, Try.ntmps22
  go_wp2_with fail
  go_end0
  exact ⟨rfl, rfl⟩
theorem write_calls (g : Nat) (v : BitVec 32) (n : Int) (sv : Value) (p : List (BitVec 8)) (w : World) (hs : StrAt w g v n) (hp : Rd w cb sv p) (hm : p.length ≤ 9223372036854775807) (hn : 0 ≤ n) (hnm : n + p.length ≤ 9223372036854775807) :
    Calls Try.prog 22 #[.pointer (some ⟨g, 0, none⟩), sv] w fun e w' => e = .returned (.tuple #[]) ∧ StrAt w' g (tkn v p) (n + p.length) ∧ w.grownBy w' (some g) := by
  have HT := taken_calls v sv p w hp hm
  obtain ⟨ad, c, rfl, hat⟩ := hp.at
  have h1 : w.cell? ⟨g, 0, none⟩ = some (c32 v) := hs.cell 0
  clear hat hp hm
  go_enter Try.func22, Try.ntmps22
  go_wp2_with fail
  refine HT.mono ?_; rintro e w' ⟨rfl, A, B, C, hw⟩
  have hE : Ext w w' := hw ▸ Ext.of_alloc3 A B C
  have hb := hs.ext hE
  have e2 : w'.cell? ⟨g, 1, none⟩ = some (ci n) := hb.cell 1
  have e1 : w'.cell? ⟨g, 0, none⟩ = some (c32 v) := hb.cell 0
  have e3 : w'.frozen? ⟨g, 0, none⟩ = false := hb.free 0
  have e4 : w'.frozen? ⟨g, 1, none⟩ = false := hb.free 1
  clear hw HT h1
  have HB := Lib.hid hb
  clear hb hs
  go_wp2_with fail
  go_end0
  exact ⟨rfl, (HB.out.set 0 _).set 1 _, grown_trans (grown_trans (hE.grownBy _) (grown_set _ _ _ _)) (grown_set _ _ _ _)⟩
end Go.Proofs.Ytbamkkbdcodafaa
