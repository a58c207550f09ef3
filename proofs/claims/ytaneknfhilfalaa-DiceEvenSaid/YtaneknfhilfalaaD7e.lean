/- The walks of division by hand, and of a Roll that is asked at once. -/
import Derived.Test.YtaneknfhilfalaaD7q
import Derived.Test.YtaneknfhilfalaaD7d
import Derived.Test.YtaneknfhilfalaaL7b
namespace Go.Proofs.Ytaneknfhilfalaa
open Go.RowKit
set_option linter.unusedVariables false

theorem ge63 (L : BitVec 64) : decide (9223372036854775808 ≤ Bv L) = L.msb := by
  rw [BitVec.msb_eq_decide]
  unfold Bv
  simp only [decide_eq_decide]
  show (9223372036854775808 : Int) ≤ _ ↔ 2 ^ 63 ≤ _
  omega
attribute [local go_sem] ge63 ltw lew
/-- is it 2^64? -/
noncomputable def ceilF (h l n : BitVec 64) : Bool := shut (fun h l n : BitVec 64 => decide (ceilN h l n = 2 ^ 64)) h l n
theorem ceilF_eq (h l n : BitVec 64) : ceilF h l n = decide (ceilN h l n = 2 ^ 64) := by unfold ceilF; rw [shut_eq]
theorem ceil_calls (h l n : BitVec 64) (hn : h.toNat < n.toNat) (w : World) : Calls Try.prog 25 #[.int .u64 (Bv h), .int .u64 (Bv l), .int .u64 (Bv n)] w fun e w' =>
    e = .returned (.tuple #[.int .u64 (Bv (BitVec.ofNat 64 (ceilN h l n))), .bool (ceilF h l n)]) ∧ w = w' := by
  have h0 := Bv_nonneg h
  have HN := Lib.hid hn
  clear hn
  go_enter Try.func25, Try.ntmps25
  go_wp2_with fail
  go_loop [8, 9, 10] (fun q x i => ∃ (j : Int) (L Q : BitVec 64), -1 ≤ j ∧ j ≤ 63 ∧ i = .int .i64 j ∧ x = .int .u64 (Bv L) ∧ q = .int .u64 (Bv Q) ∧ Hid (CInv h.toNat l.toNat n.toNat (j + 1).toNat L Q)) (fun _ _ i => (intOf i + 1).toNat)
  case atStart =>
    refine ⟨63, h, 0#64, by omega, by omega, rfl, rfl, by simp [Bv], HN.out, ?_⟩
    show 0 * n.toNat + h.toNat * 2 ^ 64 + l.toNat % 2 ^ 64 = _
    rw [Nat.zero_mul, Nat.zero_add, Nat.mod_eq_of_lt l.isLt]
  case round =>
    obtain ⟨j, L, Q, hj0, hj1, rfl, rfl, rfl, hi⟩ := hrel
    by_cases hj : 0 ≤ j
    · obtain ⟨b, rfl⟩ := Int.eq_ofNat_of_zero_le hj
      have hi' := hi.out
      rw [show ((b : Int) + 1).toNat = b + 1 by omega] at hi'
      have HI := Lib.hid hi'
      clear hi hi'
      have big : ∀ hb : 2 ^ 63 ≤ L.toNat ∨ n.toNat ≤ (2#64 * L + (l >>> b &&& 1#64)).toNat, CInv h.toNat l.toNat n.toNat b (2#64 * L + (l >>> b &&& 1#64) - n) (Q + 1#64 <<< b) :=
        fun hb => cinv_big (by omega) HN.out HI.out hb
      have BIG := Lib.hid big
      clear big
      cases hm : L.msb with
      | true =>
        have hm2 : 2 ^ 63 ≤ L.toNat := by rw [BitVec.msb_eq_decide] at hm; simpa using hm
        have HM := Lib.hid hm2
        clear hm2
        go_wp2_with fail
        go_round
        case measure => simp only [intOf]; omega
        case rel => exact ⟨(b : Int) - 1, _, _, by omega, by omega, rfl, rfl, rfl, by rw [show ((b : Int) - 1 + 1).toNat = b by omega]; exact BIG.out (Or.inl HM.out)⟩
      | false =>
        have hm2 : ¬ 2 ^ 63 ≤ L.toNat := by rw [BitVec.msb_eq_decide] at hm; simpa using hm
        have HM := Lib.hid hm2
        clear hm2
        by_cases hb : n ≤ 2#64 * L + (l >>> b &&& 1#64)
        · have HBB := Lib.hid (BitVec.le_def.1 hb)
          have hb' : decide (n ≤ 2#64 * L + (l >>> b &&& 1#64)) = true := decide_eq_true hb
          clear hb
          go_wp2_with fail
          go_round
          case measure => simp only [intOf]; omega
          case rel => exact ⟨(b : Int) - 1, _, _, by omega, by omega, rfl, rfl, rfl, by rw [show ((b : Int) - 1 + 1).toNat = b by omega]; exact BIG.out (Or.inr HBB.out)⟩
        · have HBB := Lib.hid (fun z => hb (BitVec.le_def.2 z))
          have hb' : decide (n ≤ 2#64 * L + (l >>> b &&& 1#64)) = false := decide_eq_false hb
          clear hb
          go_wp2_with fail
          go_round
          case measure => simp only [intOf]; omega
          case rel => exact ⟨(b : Int) - 1, _, _, by omega, by omega, rfl, rfl, rfl, by rw [show ((b : Int) - 1 + 1).toNat = b by omega]; exact cinv_small HI.out HM.out HBB.out⟩
    · obtain rfl : j = -1 := by omega
      have hi' := hi.out
      rw [show ((-1 : Int) + 1).toNat = 0 by omega] at hi'
      by_cases hz : L = 0#64
      · have e := ceil_none hi' hz
        have f : Hid (Ending.returned (.tuple #[.int .u64 (Bv Q), .bool false]) = Ending.returned (.tuple #[.int .u64 (Bv (BitVec.ofNat 64 (ceilN h l n))), .bool (ceilF h l n)])) := by
          show _ = _
          have hq := Q.isLt
          rw [ceilF_eq, e, decide_eq_false (by omega)]; simp
        have hz' : decide (0 < Bv L) = false := by subst hz; rfl
        clear hi hi' e hz
        go_wp2_with fail
        go_ret2
        exact ⟨f.out, rfl⟩
      · have e := ceil_more hi' hz
        have f : Hid (Ending.returned (.tuple #[.int .u64 (Bv (Q + 1#64)), .bool (Q + 1#64 == 0#64)]) = Ending.returned (.tuple #[.int .u64 (Bv (BitVec.ofNat 64 (ceilN h l n))), .bool (ceilF h l n)])) := by
          show _ = _
          have hq := Q.isLt
          have g : (Q + 1#64 == 0#64) = decide (Q.toNat + 1 = 2 ^ 64) := by
            rw [Bool.eq_iff_iff, beq_iff_eq, decide_eq_true_eq, ← BitVec.toNat_inj]
            simp only [BitVec.toNat_add, BitVec.toNat_ofNat]
            omega
          rw [ceilF_eq, e, g, BitVec.ofNat_add]; simp
        have hz' : decide (0 < Bv L) = true := by
          have := Bv_nonneg L
          have h2 : Bv L ≠ 0 := fun h => hz (by have e := eqz L; rw [e] at h; exact h)
          exact decide_eq_true (by omega)
        clear hi hi' e hz
        go_wp2_with fail
        go_ret2
        exact ⟨f.out, rfl⟩
/-- what a Roll(n) that draws v first answers, and whether at once -/
noncomputable def onceV (v n : BitVec 64) : BitVec 64 := (roll (unmix v - stride) n).1
noncomputable def onceB (v n : BitVec 64) : Bool := stepsOf (unmix v - stride) (roll (unmix v - stride) n).2 == 1#64
theorem rollw_calls (b : Nat) (s : BitVec 64) (n : BitVec 64) (h1 : 1 ≤ Bv n) (h2 : Bv n ≤ 9223372036854775807) (w : World) (h : Die w b s) :
    Calls Try.prog 23 #[.pointer (some ⟨b, 0, none⟩), .int .i64 (Bv n)] w fun e w' =>
    e = .returned (.int .i64 (Bv (roll s n).1)) ∧ w.setCell ⟨b, 0, none⟩ (.int .u64 (Bv (roll s n).2)) = w' := by
  have := roll_calls b s (Bv n) h1 h2 w h
  rw [ofInt_Bv] at this
  exact this
theorem once_calls (v n : BitVec 64) (h1 : 1 ≤ Bv n) (h2 : Bv n ≤ 9223372036854775807) (w : World) : Calls Try.prog 26 #[.int .u64 (Bv v), .int .u64 (Bv n)] w fun e w' =>
    e = .returned (.tuple #[.int .i64 (Bv (onceV v n)), .bool (onceB v n)]) ∧ ∃ s : BitVec 64, w.alloc (.cells #[.int .u64 (Bv s)] 69) = w' := by
  go_enter Try.func26, Try.ntmps26
  go_wp2_with (first
    | (go_at_call 21; refine (before_calls _ _).mono ?_; rintro e w' ⟨rfl, rfl⟩)
    | (go_at_call 22; refine (state_calls _ _ _ (by repeat (first | (refine Die.new' ?_; simp; done) | apply Die.alloc))).mono ?_; rintro e w' ⟨rfl, rfl⟩)
    | (go_at_call 23; refine (rollw_calls _ _ _ h1 h2 _ (by repeat (first | (refine Die.new' ?_; simp; done) | apply Die.alloc))).mono ?_; rintro e w' ⟨rfl, rfl⟩)
    | (go_at_call 17; refine (steps_calls _ _ _).mono ?_; rintro e w' ⟨rfl, rfl⟩))
  go_ret2
  exact ⟨rfl, _, rfl⟩
theorem roll_none (b : Nat) (s : BitVec 64) (n : Int) (h1 : n < 1) (w : World) (h : Die w b s) :
    Calls Try.prog 23 #[.pointer (some ⟨b, 0, none⟩), .int .i64 n] w fun e w' => e = .returned (.int .i64 0) ∧ w = w' := by
  have t1 : decide (n < 1) = true := decide_eq_true h1
  go_enter Try.func23, Try.ntmps23
  go_wp2_with fail
  go_ret
  exact ⟨rfl, rfl⟩
theorem onceV_yes (v n : BitVec 64) (h : ¬ v * n < -n % n) : onceV v n = hi64 v n := by
  unfold onceV roll
  rw [BitVec.sub_add_cancel, mix_unmix, rollOn_end n _ v _ h]
theorem onceB_far (v n : BitVec 64) (c : Nat) (h : (roll (unmix v - stride) n).2 = unmix v - stride + BitVec.ofNat 64 c * stride) : onceB v n = (BitVec.ofNat 64 c == 1#64) := by
  unfold onceB
  rw [h, steps_on]
theorem onceB_yes (v n : BitVec 64) (h : ¬ v * n < -n % n) : onceB v n = true := by
  refine (onceB_far v n 1 ?_).trans rfl
  unfold roll
  rw [BitVec.sub_add_cancel, mix_unmix, rollOn_end n _ v _ h, BitVec.one_mul, BitVec.sub_add_cancel]
theorem onceB_no (v n : BitVec 64) (h : v * n < -n % n) : onceB v n = false := by
  obtain ⟨c, hc, e⟩ := rollOn_far n 14 (unmix v + stride) (mix (unmix v + stride))
  refine (onceB_far v n (c + 2) ?_).trans ?_
  · unfold roll
    rw [BitVec.sub_add_cancel, mix_unmix, rollOn_on n _ v 14 h, e, BitVec.ofNat_add, BitVec.add_mul, BitVec.add_comm _ (BitVec.ofNat 64 2 * stride), ← BitVec.add_assoc]
    congr 1
    rw [show BitVec.ofNat 64 2 = 1#64 + 1#64 from rfl, BitVec.add_mul, BitVec.one_mul, ← BitVec.add_assoc, BitVec.sub_add_cancel]
  · rw [beq_eq_false_iff_ne]
    intro hh
    have := congrArg BitVec.toNat hh
    rw [BitVec.toNat_ofNat, BitVec.toNat_ofNat] at this
    omega
end Go.Proofs.Ytaneknfhilfalaa
