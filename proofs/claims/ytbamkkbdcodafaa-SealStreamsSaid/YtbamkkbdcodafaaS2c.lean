/- The walks of layer 2 (seal): marks of parts, and back. -/
import Derived.Test.YtbamkkbdcodafaaS2b
namespace Go.Proofs.Ytbamkkbdcodafaa
open Go.RowKit
set_option linter.unusedVariables false

def fnv1 (h : BitVec 64) (b : BitVec 8) : BitVec 64 := (h ^^^ b.setWidth 64) * 1099511628211#64
theorem fnv1_eq (h : BitVec 64) (b : BitVec 8) : fnv1 h b = (h ^^^ b.setWidth 64) * 1099511628211#64 := rfl
def fnvl (h : BitVec 64) (p : List (BitVec 8)) : BitVec 64 := p.foldl fnv1 h
theorem fnvl_nil (h : BitVec 64) : fnvl h [] = h := rfl
theorem fnvl_cons (h : BitVec 64) (b : BitVec 8) (p : List (BitVec 8)) : fnvl h (b :: p) = fnvl (fnv1 h b) p := rfl
theorem fnvl_append (h : BitVec 64) (p q : List (BitVec 8)) : fnvl h (p ++ q) = fnvl (fnvl h p) q := List.foldl_append
def fnvs (h : BitVec 64) (ps : List (List (BitVec 8))) : BitVec 64 := ps.foldl fnvl h
theorem fnvs_nil (h : BitVec 64) : fnvs h [] = h := rfl
theorem fnvs_cons (h : BitVec 64) (b : List (BitVec 8)) (p : List (List (BitVec 8))) : fnvs h (b :: p) = fnvs (fnvl h b) p := rfl
attribute [irreducible] fnv1 fnvl fnvs
/-- a slice of slices of bytes -/
def Rds (w : World) (sv : Value) (ps : List (List (BitVec 8))) : Prop :=
  ∃ vs : List Value, Rd w (fun v => v) sv vs ∧ vs.length = ps.length ∧ ∀ i, (hi : i < ps.length) → (hj : i < vs.length) → Rd w cb vs[i] ps[i] ∧ ps[i].length ≤ 9223372036854775807
def off0 : BitVec 64 := 14695981039346656037#64
theorem Rds.at {w : World} {sv : Value} {ps : List (List (BitVec 8))} (h : Rds w sv ps) : ∃ ad c, sv = .slice ad ps.length c ∧ ∀ i, (hi : i < ps.length) → ∃ b o v, ad = some ⟨b, o, none⟩ ∧ w.cell? ⟨b, o + i, none⟩ = some v ∧ Rd w cb v ps[i] ∧ ps[i].length ≤ 9223372036854775807 := by
  obtain ⟨vs, h1, h2, h3⟩ := h
  obtain ⟨ad, c, rfl, h4⟩ := h1.at
  refine ⟨ad, c, by rw [h2], fun i hi => ?_⟩
  obtain ⟨b, o, rfl, h5⟩ := h4 i (by omega)
  exact ⟨b, o, _, rfl, h5, h3 i hi (by omega)⟩
theorem fnv_calls (sv : Value) (ps : List (List (BitVec 8))) (w : World) (hp : Rds w sv ps) (hm : ps.length ≤ 9223372036854775807) :
    Calls Try.prog 14 #[sv] w fun e w' => e = .returned (cw (fnvs off0 ps)) ∧ w = w' := by
  have h0 : (14695981039346656037 : Int) = Bv off0 := by kernel_rfl
  have hm' : (ps.length : Int) ≤ 9223372036854775807 := by omega
  clear hm
  obtain ⟨r, hr⟩ : ∃ r, fnvs off0 ps = r := ⟨_, rfl⟩
  rw [hr]
  have HR := Lib.hid hr
  obtain ⟨ad, c, rfl, hat⟩ := hp.at
  have HA := Lib.hid hat
  clear hr hat hp
  go_enter Try.func14, Try.ntmps14
  go_wp2_with fail
  rw [h0]
  have H0 := Lib.hid h0
  clear h0
  go_loop [3, 10] (fun x i => ∃ (k : Nat) (y : BitVec 64), k ≤ ps.length ∧ i = .int .i64 k ∧ x = cw y ∧ Hid (fnvs y (ps.drop k) = r)) (fun _ i => ps.length - (intOf i).toNat)
  case atStart => exact ⟨0, _, by omega, rfl, rfl, by rw [List.drop_zero]; exact HR.out⟩
  case round =>
    clear HR
    obtain ⟨k, y, hk, rfl, rfl, hy⟩ := hrel
    by_cases hlt : k < ps.length
    · obtain ⟨b, o, v, rfl, hci, hrd, hlen⟩ := HA.out k hlt
      obtain ⟨p, hx⟩ : ∃ x, ps[k] = x := ⟨_, rfl⟩
      have hy' := hy.out
      rw [List.drop_eq_getElem_cons hlt, fnvs_cons, hx] at hy'
      rw [hx] at hrd hlen
      obtain ⟨ad, c', rfl, hat⟩ := hrd.at
      have HA2 := Lib.hid hat
      have hlen' : (p.length : Int) ≤ 9223372036854775807 := by omega
      have HY := Lib.hid hy'
      clear hy hy' hx hat hrd hlen
      go_wp2_with fail
      go_loop [3, 16] (fun v j => ∃ (m : Nat) (z : BitVec 64), m ≤ p.length ∧ j = .int .i64 m ∧ v = cw z ∧ Hid (fnvl z (p.drop m) = fnvl y p)) (fun _ j => (p.length - (intOf j).toNat))
      case atStart => exact ⟨0, _, by omega, rfl, rfl, by rw [List.drop_zero]; exact rfl⟩
      case round =>
        obtain ⟨m, z, hm, rfl, rfl, hz⟩ := hrel
        by_cases hlm : m < p.length
        · obtain ⟨b', o', rfl, hci'⟩ := HA2.out m hlm
          obtain ⟨x, hx⟩ : ∃ x, p[m] = x := ⟨_, rfl⟩
          rw [hx] at hci'
          have hz' : Hid (fnvl ((z ^^^ x.setWidth 64) * 1099511628211#64) (p.drop (m + 1)) = fnvl y p) := by have := hz.out; rw [List.drop_eq_getElem_cons hlm, fnvl_cons, hx, fnv1_eq] at this; exact this
          clear hz hx
          go_wp2_with fail
          go_round
          case measure => simp only [intOf]; omega
          case rel => exact ⟨m + 1, _, by omega, by go_num, rfl, hz'⟩
        · obtain rfl : m = p.length := by omega
          have hz' := hz.out
          rw [List.drop_length, fnvl_nil] at hz'
          subst hz'
          clear hz
          go_wp2_with fail
          go_round
          case measure => simp only [intOf]; omega
          case rel => exact ⟨k + 1, _, by omega, by go_num, rfl, HY⟩
    · obtain rfl : k = ps.length := by omega
      have hy' := hy.out
      rw [List.drop_length, fnvs_nil] at hy'
      subst hy'
      clear hy
      go_wp2_with fail
      go_ret
      exact ⟨rfl, rfl⟩
theorem rfnvl_calls (h : BitVec 64) (sv : Value) (p : List (BitVec 8)) (w : World) (hp : Rd w cb sv p) (hm : p.length ≤ 9223372036854775807) :
    Calls Try.prog 33 #[cw h, sv] w fun e w' => e = .returned (cw (fnvl h p)) ∧ w = w' := by
  have hm' : (p.length : Int) ≤ 9223372036854775807 := by omega
  clear hm
  obtain ⟨r, hr⟩ : ∃ r, fnvl h p = r := ⟨_, rfl⟩
  rw [hr]
  have HR := Lib.hid hr
  obtain ⟨ad, c, rfl, hat⟩ := hp.at
  have HA := Lib.hid hat
  clear hr hat hp
  go_enter Try.func33, Try.ntmps33
  go_wp2_with fail
  go_loop [0, 5] (fun v j => ∃ (m : Nat) (z : BitVec 64), m ≤ p.length ∧ j = .int .i64 m ∧ v = cw z ∧ Hid (fnvl z (p.drop m) = r)) (fun _ j => (p.length - (intOf j).toNat))
  case atStart => exact ⟨0, _, by omega, rfl, rfl, by rw [List.drop_zero]; exact HR.out⟩
  case round =>
    obtain ⟨m, z, hm, rfl, rfl, hz⟩ := hrel
    by_cases hlm : m < p.length
    · obtain ⟨b', o', rfl, hci'⟩ := HA.out m hlm
      obtain ⟨x, hx⟩ : ∃ x, p[m] = x := ⟨_, rfl⟩
      rw [hx] at hci'
      have hz' : Hid (fnvl ((z ^^^ x.setWidth 64) * 1099511628211#64) (p.drop (m + 1)) = r) := by have := hz.out; rw [List.drop_eq_getElem_cons hlm, fnvl_cons, hx, fnv1_eq] at this; exact this
      clear hz hx HR
      go_wp2_with fail
      go_round
      case measure => simp only [intOf]; omega
      case rel => exact ⟨m + 1, _, by omega, by go_num, rfl, hz'⟩
    · obtain rfl : m = p.length := by omega
      have hz' := hz.out
      rw [List.drop_length, fnvl_nil] at hz'
      subst hz'
      clear hz HR
      go_wp2_with fail
      go_ret
      exact ⟨rfl, rfl⟩
theorem rfnv_calls (sv : Value) (ps : List (List (BitVec 8))) (w : World) (hp : Rds w sv ps) (hm : ps.length ≤ 9223372036854775807) :
    Calls Try.prog 13 #[sv] w fun e w' => e = .returned (cw (fnvs off0 ps)) ∧ w = w' := by
  have h0 : (14695981039346656037 : Int) = Bv off0 := by kernel_rfl
  have hm' : (ps.length : Int) ≤ 9223372036854775807 := by omega
  clear hm
  obtain ⟨r, hr⟩ : ∃ r, fnvs off0 ps = r := ⟨_, rfl⟩
  rw [hr]
  have HR := Lib.hid hr
  obtain ⟨ad, c, rfl, hat⟩ := hp.at
  have HA := Lib.hid hat
  clear hr hat hp
  go_enter Try.func13, Try.ntmps13
  go_wp2_with fail
  rw [h0]
  have H0 := Lib.hid h0
  clear h0
  go_loop [3, 4] (fun x i => ∃ (k : Nat) (y : BitVec 64), k ≤ ps.length ∧ i = .int .i64 k ∧ x = cw y ∧ Hid (fnvs y (ps.drop k) = r)) (fun _ i => ps.length - (intOf i).toNat)
  case atStart => exact ⟨0, _, by omega, rfl, rfl, by rw [List.drop_zero]; exact HR.out⟩
  case round =>
    clear HR
    obtain ⟨k, y, hk, rfl, rfl, hy⟩ := hrel
    by_cases hlt : k < ps.length
    · obtain ⟨b, o, v, rfl, hci, hrd, hlen⟩ := HA.out k hlt
      have hy' := hy.out
      rw [List.drop_eq_getElem_cons hlt, fnvs_cons] at hy'
      have HY := Lib.hid hy'
      have HC := rfnvl_calls y v ps[k] w hrd hlen
      clear hy hy' hrd hlen
      generalize ps[k] = p at *
      go_wp2_with fail
      refine HC.mono ?_; rintro e w' ⟨rfl, rfl⟩
      clear HC
      go_wp2_with fail
      go_round
      case measure => simp only [intOf]; omega
      case rel => exact ⟨k + 1, _, by omega, by go_num, rfl, HY⟩
    · obtain rfl : k = ps.length := by omega
      have hy' := hy.out
      rw [List.drop_length, fnvs_nil] at hy'
      subst hy'
      clear hy
      go_wp2_with fail
      go_ret
      exact ⟨rfl, rfl⟩
end Go.Proofs.Ytbamkkbdcodafaa
