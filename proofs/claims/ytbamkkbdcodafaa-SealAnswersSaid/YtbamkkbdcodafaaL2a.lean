/- SealAnswers: the walk of the law. -/
import Derived.Test.YtbamkkbdcodafaaS2g
namespace Go.Proofs.Ytbamkkbdcodafaa
open Go.RowKit
set_option linter.unusedVariables false

/-- turned round, each byte one more -/
def rnd (p : List (BitVec 8)) : List (BitVec 8) := p.reverse.map (· + 1#8)
theorem rnd_len (p : List (BitVec 8)) : (rnd p).length = p.length := by simp [rnd]
theorem rnd_at (p : List (BitVec 8)) (k : Nat) (h : k < (rnd p).length) : (rnd p)[k] = (p[p.length - 1 - k]'(by rw [rnd_len] at h; omega)) + 1#8 := by simp [rnd]
attribute [irreducible] rnd
def half (p : List (BitVec 8)) (k : Nat) : List (BitVec 8) := (rnd p).take k ++ p.drop k
theorem half_len (p : List (BitVec 8)) (k : Nat) (h : k ≤ p.length) : (half p k).length = p.length := by simp [half, rnd_len]; omega
theorem half_zero (p : List (BitVec 8)) : half p 0 = p := by simp [half]
theorem half_all (p : List (BitVec 8)) : half p p.length = rnd p := by
  unfold half; rw [List.drop_length, List.append_nil, ← rnd_len p, List.take_length]
theorem half_set (p : List (BitVec 8)) (k : Nat) (h : k < p.length) : (half p k).set k (p[p.length - 1 - k] + 1#8) = half p (k + 1) := by
  unfold half
  rw [List.set_append_right _ _ (by rw [List.length_take]; omega), List.length_take, rnd_len, Nat.min_eq_left (by omega), Nat.sub_self, List.drop_eq_getElem_cons h, List.set_cons_zero, List.take_add_one,
    List.getElem?_eq_getElem (by rw [rnd_len]; exact h), rnd_at p k (by rw [rnd_len]; exact h), List.append_assoc]
  rfl
theorem LentAt.step {w : World} {g : Nat} {p : List (BitVec 8)} (h : LentAt w g p) (k : Nat) (hk : k < p.length) (x : BitVec 8) : LentAt (w.setCell ⟨g, k, none⟩ (cb x)) g (p.set k x) := by
  have := Blk.set h k (cb x)
  rw [V_set, List.set_append_left _ _ hk] at this
  exact this
theorem LentAt.at {w : World} {g : Nat} {p : List (BitVec 8)} (h : LentAt w g p) (k : Nat) (hk : k < p.length) : w.cell? ⟨g, k, none⟩ = some (cb p[k]) := by
  rw [Blk.cell h, V_get, List.getElem?_append_left hk, List.getElem?_eq_getElem hk]; rfl
set_option maxHeartbeats 1000000 in
theorem an_walk (sv : Value) (p : List (BitVec 8)) (mk : BitVec 64) (W : World) (hp : Rd W cb sv p) (hm : p.length ≤ 140737488351232) :
    Calls Try.prog 5 #[sv, cw mk] W fun e w' => e = .returned (.bool true) ∧ Ext W w' := by
  have hm' : (p.length : Int) ≤ 140737488351232 := by omega
  have hm3 : p.length ≤ 9223372036854775807 := by omega
  have hp1 := hp
  obtain ⟨ad, c, rfl, hat⟩ := hp1.at
  have HA := Lib.hid hat
  clear hat hp1
  have HP := Lib.hid hp
  have HM := Lib.hid hm
  have HM3 := Lib.hid hm3
  clear hp hm hm3
  go_enter Try.func5, Try.ntmps5
  go_wp2_with (first
    | (go_at_call 12; refine (lent_calls _ p _ HP.out HM.out).mono ?_; rintro e w1 ⟨rfl, hl1, e1, hs1⟩
       have HC := Lib.hid (asked_calls _ _ p mk w1 hl1.rd (e1.rd HP.out) HM3.out))
    | (go_at_call 20; refine HC.out.mono ?_; rintro e w2 ⟨rfl, e2⟩; clear HC
       have HC := Lib.hid (kept_calls W.heap.size p _ p w2 (Blk.ext hl1 e2) ((e1.trans e2).rd HP.out) HM.out HM3.out)
       rw [decide_eq_true (rfl : p = p)] at HC)
    | (go_at_call 16; refine HC.out.mono ?_; rintro e w3 ⟨rfl, n, h3⟩
       have e3 := (Ext.refl w2).drewN n)
    | (fail))
  subst h3
  have e4 : Ext W (w2.drewN n) := (e1.trans e2).trans e3
  have hl4 : LentAt (w2.drewN n) W.heap.size p := Blk.ext (Blk.ext hl1 e2) e3
  generalize w2.drewN n = w4 at *
  clear e1 e2 e3 hl1 hs1 HC
  refine (lent_calls _ p w4 (e4.rd HP.out) HM.out).mono ?_
  rintro e w5 ⟨rfl, hl5, e5, hs5⟩
  have hgg : W.heap.size ≠ w4.heap.size := Nat.ne_of_lt hl4.lt
  have hge := e4.size
  have hlA : LentAt w5 W.heap.size (half p 0) := by rw [half_zero]; exact Blk.ext hl4 e5
  have hlB : LentAt w5 w4.heap.size (half p 0) := by rw [half_zero]; exact hl5
  have e6 := e4.trans e5
  generalize w4.heap.size = gB at *
  obtain ⟨gA, hA⟩ : ∃ gA, W.heap.size = gA := ⟨_, rfl⟩
  rw [hA] at hgg hge hlA
  unfold lentV
  rw [hA]
  have HH := Lib.hid hA
  clear e4 e5 hl4 hl5 hs5 hA
  go_wp2_with fail
  go_loopw [7] (fun i wr => ∃ k : Nat, k ≤ p.length ∧ i = .int .i64 k ∧ LentAt wr gA (half p k) ∧ LentAt wr gB (half p k) ∧ Ext W wr) (fun i _ => (p.length - (intOf i).toNat))
  case atStart => exact ⟨0, by omega, rfl, hlA, hlB, e6⟩
  case round =>
    clear hlA hlB e6
    obtain ⟨k, hk, rfl, hlA, hlB, e6⟩ := hrel
    by_cases hlt : k < p.length
    · obtain ⟨b, o, rfl, hc0⟩ := HA.out (p.length - 1 - k) (by omega)
      have hc := e6.cell hc0
      have hs := half_set p k hlt
      generalize p[p.length - 1 - k]'(by omega) = x at *
      obtain ⟨q, hq, hpq⟩ : ∃ q : Nat, p.length - 1 - k = q ∧ (p.length : Int) - 1 - k = (q : Int) := ⟨_, rfl, by omega⟩
      have hq2 : q < p.length := by omega
      rw [hq] at hc
      have a1 := hlA.at k (by rw [half_len _ _ hk]; exact hlt)
      have a2 := Blk.free hlA k
      have b1 := hlB.at k (by rw [half_len _ _ hk]; exact hlt)
      have b2 := Blk.free hlB k
      generalize (half p k)[k]'(by rw [half_len _ _ hk]; exact hlt) = y at *
      have HLA := Lib.hid hlA
      have HLB := Lib.hid hlB
      have HS := Lib.hid hs
      have HG := Lib.hid hge
      have hgg' : gB ≠ gA := fun h => hgg h.symm
      clear hlA hlB hs hc0 hq hge
      go_wp2_with fail
      go_roundw
      case measure => simp only [intOf]; omega
      case rel =>
        have hkl : k < (half p k).length := by rw [half_len _ _ hk]; exact hlt
        refine ⟨k + 1, by omega, by go_num, ?_, ?_, ?_⟩
        · rw [← HS.out]
          exact LentAt.step (Blk.far HLA.out ⟨gB, k, none⟩ hgg _) k hkl _
        · rw [← HS.out]
          exact Blk.far (LentAt.step HLB.out k hkl _) ⟨gA, k, none⟩ hgg' _
        · exact (e6.set (p := ⟨gB, k, none⟩) (by have := HH.out; have := HG.out; show _ ≤ gB; omega) _).set (p := ⟨gA, k, none⟩) (by have := HH.out; show _ ≤ gA; omega) _
    · obtain rfl : k = p.length := by omega
      rw [half_all] at hlA hlB
      have hlen := rnd_len p
      have HC := Lib.hid (asked_calls _ _ (rnd p) mk wr hlA.rd hlB.rd (by rw [hlen]; exact HM3.out))
      rw [hlen] at HC
      unfold lentV at HC
      go_wp2_with (first
        | (go_at_call 20; refine HC.out.mono ?_; rintro e w2 ⟨rfl, e2⟩; clear HC
           have HC := Lib.hid (kept_calls gA (rnd p) _ (rnd p) w2 (Blk.ext hlA e2) (e2.rd hlB.rd) (by rw [hlen]; exact HM.out) (by rw [hlen]; exact HM3.out))
           rw [decide_eq_true (rfl : rnd p = rnd p), hlen] at HC
           unfold lentV at HC)
        | (go_at_call 16; refine HC.out.mono ?_; rintro e w3 ⟨rfl, n, h3⟩
           have e3 := (Ext.refl w2).drewN n)
        | (fail))
      subst h3
      go_ret
      exact ⟨rfl, (e6.trans e2).trans e3⟩
theorem an_walk' (sv : Value) (p : List (BitVec 8)) (mk : BitVec 64) (W : World) (hp : Rd W cb sv p) (hm : p.length * 1 ≤ 140737488351232) :
    Calls Try.prog 5 #[sv, cw mk] W fun e w' => e = .returned (.bool true) ∧ Below W.heap.size W w' :=
  (an_walk sv p mk W hp (by omega)).mono fun e w' h => ⟨h.1, h.2.to⟩
end Go.Proofs.Ytbamkkbdcodafaa
