/- The walk of DiceEven. -/
import Derived.Test.YtaneknfhilfalaaD7r
import Derived.Deep.DeepCutAuto
namespace Go.Proofs.Ytaneknfhilfalaa
open Go.RowKit
set_option linter.unusedVariables false

set_option maxRecDepth 100000 in
theorem even_none (sides number : Int) (hn : sides < 1) (w : World) :
    Calls Try.prog 5 #[.int .i64 sides, .int .i64 number] w fun e w' => e = .returned (.bool true) ∧ Below w.heap.size w w' := by
  have t1 : decide (sides < 1) = true := decide_eq_true hn
  go_enter Try.func5, Try.ntmps5
  go_wp2_with fail
  refine (awake_calls _).mono ?_; rintro e w' ⟨rfl, sa, rfl⟩
  go_wp2_with fail
  refine (new_calls 5#64 _).mono ?_; rintro e w' ⟨rfl, rfl⟩
  go_wp2_with fail
  refine (roll_none _ _ _ hn _ (by repeat (first | (refine Die.new' ?_; simp; done) | apply Die.alloc))).mono ?_; rintro e w' ⟨rfl, rfl⟩
  go_wp2_with fail
  refine (state_calls _ _ _ (by repeat (first | (refine Die.new' ?_; simp; done) | apply Die.alloc))).mono ?_; rintro e w' ⟨rfl, rfl⟩
  go_wp2_with fail
  go_ret
  exact ⟨rfl, by repeat (first | exact Below.refl _ _ | apply below_alloc)⟩
theorem ceilN_c1 (k n : BitVec 64) (h : 1 ≤ n.toNat) : ceilN k (-n % n) n = c1N k.toNat (2 ^ 64 % n.toNat) n.toNat := by
  unfold ceilN c1N; rw [rest_nat n h]
theorem ceilN_c2 (k n : BitVec 64) (h : k.toNat + 1 < 2 ^ 64) : ceilN (k + 1#64) 0#64 n = c2N k.toNat n.toNat := by
  unfold ceilN c2N
  rw [BitVec.toNat_add, BitVec.toNat_ofNat, Nat.mod_eq_of_lt (a := 1) (by decide), Nat.mod_eq_of_lt h, show (0#64).toNat = 0 from rfl, Nat.add_zero]
structure EvenPre (n k F T : BitVec 64) : Prop extends EvenFacts n k F T where
  first : BitVec.ofNat 64 (ceilN k (-n % n) n) = F
  mid : k.toNat + 1 < n.toNat → BitVec.ofNat 64 (ceilN (k + 1#64) 0#64 n) = T ∧ ceilF (k + 1#64) 0#64 n = false ∧ (T == 0#64) = false
  last : k.toNat + 1 = n.toNat → T = 0#64
theorem even_pre (n k : BitVec 64) (hk : k.toNat < n.toNat) (hn63 : n.toNat ≤ 2 ^ 63) : ∃ F T, EvenPre n k F T := by
  have hn' : 1 ≤ n.toNat := by omega
  have hc2 : 1 ≤ c2N k.toNat n.toNat := by have := c2_c1 (K := k.toNat) hn'; have := q_pos hn' hn63; omega
  refine ⟨_, _, even_facts n k hk hn63, ?_, ?_, ?_⟩
  · rw [ceilN_c1 k n hn']
  · intro h
    have hlt := c2_lt h hn63
    rw [ceilF_eq, ceilN_c2 k n (by omega)]
    refine ⟨rfl, decide_eq_false (by omega), ?_⟩
    rw [beq_eq_false_iff_ne]
    intro e
    have e' := congrArg BitVec.toNat e
    rw [BitVec.toNat_ofNat, Nat.mod_eq_of_lt hlt] at e'
    have : (0#64).toNat = 0 := rfl
    omega
  · intro h
    rw [c2_eq h]
    rfl
theorem word_ne {n k : BitVec 64} (h : n.toNat ≠ k.toNat) : n ≠ k := fun e => h (by rw [e])
theorem word_one {n : BitVec 64} (h : n ≠ 1#64) : n.toNat ≠ 1 := fun e => h (BitVec.eq_of_toNat_eq (by rw [e]; rfl))
theorem succ_nat {k : BitVec 64} (h : k.toNat + 1 < 2 ^ 64) : (k + 1#64).toNat = k.toNat + 1 := by
  rw [BitVec.toNat_add, show (1#64).toNat = 1 from rfl, Nat.mod_eq_of_lt h]
theorem Bv_lt_iff {n m : BitVec 64} : Bv n < Bv m ↔ n.toNat < m.toNat := by unfold Bv; omega
set_option maxRecDepth 100000 in
set_option maxHeartbeats 1000000 in
theorem even_mid (n k F T : BitVec 64) (number : Int) (l0 : -9223372036854775808 ≤ number) (l1 : number ≤ 9223372036854775807) (n1 : 1 ≤ Bv n) (n2 : Bv n ≤ 9223372036854775807)
    (hk : number % Bv n = Bv k) (hkn : k.toNat < n.toNat) (hp : EvenPre n k F T) (hlt : k.toNat + 1 < n.toNat) (w : World) :
    Calls Try.prog 5 #[.int .i64 (Bv n), .int .i64 number] w fun e w' => e = .returned (.bool true) ∧ Below w.heap.size w w' := by
  obtain ⟨⟨f1, f2, ⟨fx, fx'⟩, ⟨fy, fy'⟩, ⟨fz, fz'⟩, fu, fv⟩, hF, hmid, hlast⟩ := hp
  have hk0 := Bv_nonneg k
  have hk2 : Bv k < Bv n := Bv_lt_iff.2 hkn
  have hn0 : ¬ n = 0#64 := word_ne (by have : (0#64).toNat = 0 := rfl; omega)
  have t1 : decide (Bv n < 1) = false := decide_eq_false (by omega)
  have HK := Lib.hid hk
  have HF := Lib.hid hF
  have HKN := Lib.hid hkn
  have hn1 : n ≠ 1#64 := word_ne (by have : (1#64).toNat = 1 := rfl; omega)
  have g1 : (n == 1#64) = false := by rw [beq_eq_false_iff_ne]; exact hn1
  have g2 : decide (1 < Bv n) = true := decide_eq_true (by have := word_one hn1; have e : Bv n = (n.toNat : Int) := rfl; omega)
  have g3 : (T - F != -n / n + 1#64) = false := by rw [f2 hn1]; exact bne_self_eq_false' ..
  have GU := Lib.hid (fu hn1)
  have GV := Lib.hid (fv hn1)
  clear hn1
  obtain ⟨hT, hD, hT1⟩ := hmid hlt
  have hk1 := succ_nat (k := k) (by omega)
  have t2 : decide (Bv (k + 1#64) < Bv n) = true := decide_eq_true (Bv_lt_iff.2 (by omega))
  have HC := Lib.hid hT
  have HD := Lib.hid hD
  have HLT : Hid ((k + 1#64).toNat < n.toNat) := by show _ < _; omega
  clear hT hD hk1 hlt
  clear f1 f2 fu fv hF hmid hlast hk hkn
  go_enter Try.func5, Try.ntmps5
  go_wp2_with fail
  refine (awake_calls _).mono ?_; rintro e w' ⟨rfl, sa, rfl⟩
  go_wp2_with fail
  refine (round_calls _ _ l0 l1 n1 n2 _).mono ?_; rintro e w' ⟨rfl, rfl⟩
  rw [HK.out]
  go_wp2_with fail
  refine (ceil_calls _ _ _ HKN.out _).mono ?_; rintro e w' ⟨rfl, rfl⟩
  rw [HF.out]
  go_wp2_with fail
  refine (ceil_calls _ 0#64 _ HLT.out _).mono ?_; rintro e w' ⟨rfl, rfl⟩
  rw [HC.out, HD.out]
  iterate 5
    go_wp2_with fail
    refine (once_calls _ _ n1 n2 _).mono ?_; rintro e w' ⟨rfl, s1, rfl⟩
  go_upto_region 23 with (fail)
  cases hbu : onceB (F - 1#64) n
  · cases hbv : onceB T n
    · go_wp2_with fail
      go_ret
      exact ⟨rfl, by repeat (first | exact Below.refl _ _ | apply below_alloc)⟩
    · have hdv : (onceV T n != k) = true := by rw [bne_iff_ne]; exact GV.out hbv
      go_wp2_with fail
      go_ret
      exact ⟨rfl, by repeat (first | exact Below.refl _ _ | apply below_alloc)⟩
  · have hdu : (onceV (F - 1#64) n != k) = true := by rw [bne_iff_ne]; exact GU.out hbu
    cases hbv : onceB T n
    · go_wp2_with fail
      go_ret
      exact ⟨rfl, by repeat (first | exact Below.refl _ _ | apply below_alloc)⟩
    · have hdv : (onceV T n != k) = true := by rw [bne_iff_ne]; exact GV.out hbv
      go_wp2_with fail
      go_ret
      exact ⟨rfl, by repeat (first | exact Below.refl _ _ | apply below_alloc)⟩
set_option maxRecDepth 100000 in
set_option maxHeartbeats 1000000 in
theorem even_last (n k F T : BitVec 64) (number : Int) (l0 : -9223372036854775808 ≤ number) (l1 : number ≤ 9223372036854775807) (n1 : 1 ≤ Bv n) (n2 : Bv n ≤ 9223372036854775807)
    (hk : number % Bv n = Bv k) (hkn : k.toNat < n.toNat) (hp : EvenPre n k F T) (hlt : k.toNat + 1 = n.toNat) (hn1 : n ≠ 1#64) (w : World) :
    Calls Try.prog 5 #[.int .i64 (Bv n), .int .i64 number] w fun e w' => e = .returned (.bool true) ∧ Below w.heap.size w w' := by
  obtain ⟨⟨f1, f2, ⟨fx, fx'⟩, ⟨fy, fy'⟩, ⟨fz, fz'⟩, fu, fv⟩, hF, hmid, hlast⟩ := hp
  have hk0 := Bv_nonneg k
  have hk2 : Bv k < Bv n := Bv_lt_iff.2 hkn
  have hn0 : ¬ n = 0#64 := word_ne (by have : (0#64).toNat = 0 := rfl; omega)
  have t1 : decide (Bv n < 1) = false := decide_eq_false (by omega)
  have HK := Lib.hid hk
  have HF := Lib.hid hF
  have HKN := Lib.hid hkn
  have g1 : (n == 1#64) = false := by rw [beq_eq_false_iff_ne]; exact hn1
  have g2 : decide (1 < Bv n) = true := decide_eq_true (by have := word_one hn1; have e : Bv n = (n.toNat : Int) := rfl; omega)
  have g3 : (T - F != -n / n + 1#64) = false := by rw [f2 hn1]; exact bne_self_eq_false' ..
  have GU := Lib.hid (fu hn1)
  have GV := Lib.hid (fv hn1)
  clear hn1
  have hT := hlast hlt
  have HT : Hid (Value.int .u64 0 = Value.int .u64 (Bv T)) := by rw [hT]; rfl
  have hT0 : (T == 0#64) = true := by rw [hT]; rfl
  clear hT
  have hk1 := succ_nat (k := k) (by omega)
  have t2 : decide (Bv (k + 1#64) < Bv n) = false := decide_eq_false (fun h => by have := Bv_lt_iff.1 h; omega)
  clear hk1 hlt
  clear f1 f2 fu fv hF hmid hlast hk hkn
  go_enter Try.func5, Try.ntmps5
  go_wp2_with fail
  refine (awake_calls _).mono ?_; rintro e w' ⟨rfl, sa, rfl⟩
  go_wp2_with fail
  refine (round_calls _ _ l0 l1 n1 n2 _).mono ?_; rintro e w' ⟨rfl, rfl⟩
  rw [HK.out]
  go_wp2_with fail
  refine (ceil_calls _ _ _ HKN.out _).mono ?_; rintro e w' ⟨rfl, rfl⟩
  rw [HF.out]
  go_upto_region 13 with (fail)
  rw [HT.out]
  iterate 5
    go_wp2_with fail
    refine (once_calls _ _ n1 n2 _).mono ?_; rintro e w' ⟨rfl, s1, rfl⟩
  go_upto_region 23 with (fail)
  cases hbu : onceB (F - 1#64) n
  · cases hbv : onceB T n
    · go_wp2_with fail
      go_ret
      exact ⟨rfl, by repeat (first | exact Below.refl _ _ | apply below_alloc)⟩
    · have hdv : (onceV T n != k) = true := by rw [bne_iff_ne]; exact GV.out hbv
      go_wp2_with fail
      go_ret
      exact ⟨rfl, by repeat (first | exact Below.refl _ _ | apply below_alloc)⟩
  · have hdu : (onceV (F - 1#64) n != k) = true := by rw [bne_iff_ne]; exact GU.out hbu
    cases hbv : onceB T n
    · go_wp2_with fail
      go_ret
      exact ⟨rfl, by repeat (first | exact Below.refl _ _ | apply below_alloc)⟩
    · have hdv : (onceV T n != k) = true := by rw [bne_iff_ne]; exact GV.out hbv
      go_wp2_with fail
      go_ret
      exact ⟨rfl, by repeat (first | exact Below.refl _ _ | apply below_alloc)⟩
set_option maxRecDepth 100000 in
set_option maxHeartbeats 1000000 in
theorem even_one (n k F T : BitVec 64) (number : Int) (l0 : -9223372036854775808 ≤ number) (l1 : number ≤ 9223372036854775807) (n1 : 1 ≤ Bv n) (n2 : Bv n ≤ 9223372036854775807)
    (hk : number % Bv n = Bv k) (hkn : k.toNat < n.toNat) (hp : EvenPre n k F T) (hlt : k.toNat + 1 = n.toNat) (hn1 : n = 1#64) (w : World) :
    Calls Try.prog 5 #[.int .i64 (Bv n), .int .i64 number] w fun e w' => e = .returned (.bool true) ∧ Below w.heap.size w w' := by
  obtain ⟨⟨f1, f2, ⟨fx, fx'⟩, ⟨fy, fy'⟩, ⟨fz, fz'⟩, fu, fv⟩, hF, hmid, hlast⟩ := hp
  have hk0 := Bv_nonneg k
  have hk2 : Bv k < Bv n := Bv_lt_iff.2 hkn
  have hn0 : ¬ n = 0#64 := word_ne (by have : (0#64).toNat = 0 := rfl; omega)
  have t1 : decide (Bv n < 1) = false := decide_eq_false (by omega)
  have HK := Lib.hid hk
  have HF := Lib.hid hF
  have HKN := Lib.hid hkn
  have hT := hlast hlt
  have HT : Hid (Value.int .u64 0 = Value.int .u64 (Bv T)) := by rw [hT]; rfl
  have hT0 : (T == 0#64) = true := by rw [hT]; rfl
  clear hT
  have hk1 := succ_nat (k := k) (by omega)
  have t2 : decide (Bv (k + 1#64) < Bv n) = false := decide_eq_false (fun h => by have := Bv_lt_iff.1 h; omega)
  clear hk1 hlt
  have g3 : (T - F == 0#64) = true := by rw [f1 hn1]; rfl
  have g3' : (T - F != 0#64) = false := by rw [f1 hn1]; rfl
  have g1 : (n == 1#64) = true := by rw [hn1]; rfl
  have g2 : decide (1 < Bv n) = false := by rw [hn1]; rfl
  clear hn1
  clear f1 f2 fu fv hF hmid hlast hk hkn
  go_enter Try.func5, Try.ntmps5
  go_wp2_with fail
  refine (awake_calls _).mono ?_; rintro e w' ⟨rfl, sa, rfl⟩
  go_wp2_with fail
  refine (round_calls _ _ l0 l1 n1 n2 _).mono ?_; rintro e w' ⟨rfl, rfl⟩
  rw [HK.out]
  go_wp2_with fail
  refine (ceil_calls _ _ _ HKN.out _).mono ?_; rintro e w' ⟨rfl, rfl⟩
  rw [HF.out]
  go_upto_region 13 with (fail)
  rw [HT.out]
  iterate 5
    go_wp2_with fail
    refine (once_calls _ _ n1 n2 _).mono ?_; rintro e w' ⟨rfl, s1, rfl⟩
  go_upto_region 23 with (fail)
  cases hbu : onceB (F - 1#64) n <;> cases hdu : (onceV (F - 1#64) n != k) <;> cases hbv : onceB T n <;> cases hdv : (onceV T n != k)
  all_goals
    go_wp2_with fail
    go_ret
    exact ⟨rfl, by repeat (first | exact Below.refl _ _ | apply below_alloc)⟩
theorem even_some (n : BitVec 64) (number : Int) (b0 : -9223372036854775808 ≤ number ∧ number ≤ 9223372036854775807) (n1 : 1 ≤ Bv n) (n2 : Bv n ≤ 9223372036854775807) (w : World) :
    Calls Try.prog 5 #[.int .i64 (Bv n), .int .i64 number] w fun e w' => e = .returned (.bool true) ∧ Below w.heap.size w w' := by
  obtain ⟨l0, l1⟩ := b0
  obtain ⟨k, hk⟩ := Bv_of (n := 64) (number % Bv n) (Int.emod_nonneg _ (by omega)) (by have := Int.emod_lt_of_pos number (show 0 < Bv n by omega); omega)
  have hkn : Bv k < Bv n := by rw [← hk]; exact Int.emod_lt_of_pos number (show 0 < Bv n by omega)
  have hkn' := Bv_lt_iff.1 hkn
  have hn63 : n.toNat ≤ 2 ^ 63 := by have e : Bv n = (n.toNat : Int) := rfl; omega
  obtain ⟨F, T, hp⟩ := even_pre n k hkn' hn63
  by_cases hlt : k.toNat + 1 < n.toNat
  · exact even_mid n k F T number l0 l1 n1 n2 hk hkn' hp hlt w
  · by_cases hn1 : n = 1#64
    · exact even_one n k F T number l0 l1 n1 n2 hk hkn' hp (by omega) hn1 w
    · exact even_last n k F T number l0 l1 n1 n2 hk hkn' hp (by omega) hn1 w
theorem even_walk (sides number : Int) (a0 : -9223372036854775808 ≤ sides ∧ sides ≤ 9223372036854775807) (b0 : -9223372036854775808 ≤ number ∧ number ≤ 9223372036854775807) (w : World) :
    Calls Try.prog 5 #[.int .i64 sides, .int .i64 number] w fun e w' => e = .returned (.bool true) ∧ Below w.heap.size w w' := by
  by_cases h : sides < 1
  · exact even_none sides number h w
  · obtain ⟨n, rfl⟩ := Bv_of (n := 64) sides (by omega) (by omega)
    exact even_some n number b0 (by omega) a0.2 w
end Go.Proofs.Ytaneknfhilfalaa
