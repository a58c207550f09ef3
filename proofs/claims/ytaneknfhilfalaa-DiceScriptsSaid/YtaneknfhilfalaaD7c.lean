/- The walks of the dice's methods: what each answers and where the state is then. -/
import Derived.Test.YtaneknfhilfalaaD7p
import Derived.Test.YtaneknfhilfalaaMem
namespace Go.Proofs.Ytaneknfhilfalaa
open Go.RowKit
set_option linter.unusedVariables false

def stride : BitVec 64 := 0x9E3779B97F4A7C15#64
theorem stride_eq : 0x9E3779B97F4A7C15#64 = stride := rfl
attribute [irreducible] stride
/-- dice of this state stand at block b -/
structure Die (w : World) (b : Nat) (s : BitVec 64) : Prop where
  cell : w.cell? ⟨b, 0, none⟩ = some (.int .u64 (Bv s))
  free : w.frozen? ⟨b, 0, none⟩ = false
theorem Die.new {w : World} {s : BitVec 64} {T : TypeId} : Die (w.alloc (.cells #[.int .u64 (Bv s)] T)) w.heap.size s := ⟨by simp, by simp⟩
theorem Die.new' {w : World} {s : BitVec 64} {T : TypeId} {b : Nat} (h : b = w.heap.size) : Die (w.alloc (.cells #[.int .u64 (Bv s)] T)) b s := by subst h; exact Die.new
theorem Die.lt {w : World} {b : Nat} {s : BitVec 64} (h : Die w b s) : b < w.heap.size := World.block_lt_of_cell? w _ h.cell
theorem Die.alloc {w : World} {b : Nat} {s : BitVec 64} {o : Obj} (h : Die w b s) : Die (w.alloc o) b s :=
  ⟨by rw [World.cell?_alloc_lt _ _ _ h.lt]; exact h.cell, by rw [World.frozen?_alloc_old _ _ _ (Nat.ne_of_lt h.lt)]; exact h.free⟩
theorem Die.drewN {w : World} {b : Nat} {s : BitVec 64} {m : Nat} (h : Die w b s) : Die (w.drewN m) b s := ⟨h.cell, h.free⟩
theorem new_calls (s : BitVec 64) (w : World) : Calls Try.prog 19 #[.int .u64 (Bv s)] w fun e w' =>
    e = .returned (.pointer (some ⟨w.heap.size, 0, none⟩)) ∧ w.alloc (.cells #[.int .u64 (Bv s)] 69) = w' := by
  go_enter Try.func19, Try.ntmps19
  go_wp2_with fail
  go_ret
  exact ⟨rfl, rfl⟩
theorem next_calls (b : Nat) (s : BitVec 64) (w : World) (h : Die w b s) : Calls Try.prog 20 #[.pointer (some ⟨b, 0, none⟩)] w fun e w' =>
    e = .returned (.int .u64 (Bv (mix (s + stride)))) ∧ w.setCell ⟨b, 0, none⟩ (.int .u64 (Bv (s + stride))) = w' := by
  obtain ⟨hc, hf⟩ := h
  go_enter Try.func20, Try.ntmps20
  go_wp2_with (go_at_call 15; refine (mix_calls _ _).mono ?_; rintro e w' ⟨rfl, rfl⟩)
  go_ret
  exact ⟨by rw [← stride_eq]; rfl, by rw [← stride_eq]⟩
theorem state_calls (b : Nat) (s : BitVec 64) (w : World) (h : Die w b s) : Calls Try.prog 22 #[.pointer (some ⟨b, 0, none⟩)] w fun e w' =>
    e = .returned (.int .u64 (Bv s)) ∧ w = w' := by
  obtain ⟨hc, hf⟩ := h
  go_enter Try.func22, Try.ntmps22
  go_wp2_with fail
  go_ret
  exact ⟨rfl, rfl⟩
theorem jump_calls (b : Nat) (s n : BitVec 64) (w : World) (h : Die w b s) : Calls Try.prog 28 #[.pointer (some ⟨b, 0, none⟩), .int .u64 (Bv n)] w fun e w' =>
    e = .returned (.tuple #[]) ∧ w.setCell ⟨b, 0, none⟩ (.int .u64 (Bv (s + n * stride))) = w' := by
  obtain ⟨hc, hf⟩ := h
  go_enter Try.func28, Try.ntmps28
  go_wp2_with fail
  go_end0
  exact ⟨rfl, by rw [← stride_eq]⟩
theorem before_calls (v : BitVec 64) (w : World) : Calls Try.prog 21 #[.int .u64 (Bv v)] w fun e w' =>
    e = .returned (.pointer (some ⟨w.heap.size, 0, none⟩)) ∧ w.alloc (.cells #[.int .u64 (Bv (unmix v - stride))] 69) = w' := by
  go_enter Try.func21, Try.ntmps21
  go_wp2_with (first | (go_at_call 16; refine (unmix_calls _ _).mono ?_; rintro e w' ⟨rfl, rfl⟩) | (go_at_call 19; refine (new_calls _ _).mono ?_; rintro e w' ⟨rfl, rfl⟩))
  go_ret
  exact ⟨rfl, by rw [← stride_eq]⟩
def rollOnI (n : BitVec 64) : Nat → BitVec 64 → BitVec 64 → BitVec 64 × BitVec 64
  | 0, s, v => (hi64 v n, s)
  | k + 1, s, v => if v * n < -n % n then rollOnI n k (s + stride) (mix (s + stride)) else (hi64 v n, s)
/-- Roll behind a draw of v that left the state s: k tries more -/
noncomputable def rollOn : BitVec 64 → Nat → BitVec 64 → BitVec 64 → BitVec 64 × BitVec 64 := shut rollOnI
noncomputable def roll (s n : BitVec 64) : BitVec 64 × BitVec 64 := rollOn n 15 (s + stride) (mix (s + stride))
theorem rollOn_eq : rollOn = rollOnI := shut_eq _
theorem roll_eq (s n : BitVec 64) : roll s n = rollOnI n 15 (s + stride) (mix (s + stride)) := by unfold roll; rw [rollOn_eq]
theorem rollOn_zero (n s v : BitVec 64) : rollOn n 0 s v = (hi64 v n, s) := by rw [rollOn_eq]; rfl
theorem rollOn_on (n s v : BitVec 64) (k : Nat) (h : v * n < -n % n) : rollOn n (k + 1) s v = rollOn n k (s + stride) (mix (s + stride)) := by
  rw [rollOn_eq]; show (if _ then _ else _) = _; rw [if_pos h]
theorem rollOn_end (n s v : BitVec 64) (k : Nat) (h : ¬ v * n < -n % n) : rollOn n k s v = (hi64 v n, s) := by
  rw [rollOn_eq]
  cases k with
  | zero => rfl
  | succ k => show (if _ then _ else _) = _; rw [if_neg h]
attribute [irreducible] rollOn
theorem hi_lt (v n : BitVec 64) (hn : 1 ≤ Bv n) : Bv (hi64 v n) < Bv n := by
  unfold Bv hi64 at *
  have h1 := v.isLt
  have h2 := n.isLt
  have : v.toNat * n.toNat / 18446744073709551616 < n.toNat := by
    apply Nat.div_lt_of_lt_mul
    exact Nat.mul_lt_mul_of_pos_right h1 (by omega)
  rw [BitVec.toNat_ofNat, Nat.mod_eq_of_lt (by omega)]
  omega
theorem rollOn_lt (n : BitVec 64) (hn : 1 ≤ Bv n) : ∀ (k : Nat) (s v : BitVec 64), Bv (rollOn n k s v).1 < Bv n := by
  intro k
  induction k with
  | zero => intro s v; rw [rollOn_zero]; exact hi_lt v n hn
  | succ k ih =>
    intro s v
    by_cases h : v * n < -n % n
    · rw [rollOn_on n s v k h]; exact ih _ _
    · rw [rollOn_end n s v _ h]; exact hi_lt v n hn
theorem roll_lt (s : BitVec 64) (n : Int) (h1 : 1 ≤ n) (h2 : n ≤ 9223372036854775807) : Bv (roll s (BitVec.ofInt 64 n)).1 < n := by
  obtain ⟨n, rfl⟩ := Bv_of (n := 64) n (by omega) (by omega)
  rw [ofInt_Bv]; exact rollOn_lt n h1 _ _ _
theorem roll_calls (b : Nat) (s : BitVec 64) (n : Int) (h1 : 1 ≤ n) (h2 : n ≤ 9223372036854775807) (w : World) (h : Die w b s) :
    Calls Try.prog 23 #[.pointer (some ⟨b, 0, none⟩), .int .i64 n] w fun e w' =>
    e = .returned (.int .i64 (Bv (roll s (BitVec.ofInt 64 n)).1)) ∧ w.setCell ⟨b, 0, none⟩ (.int .u64 (Bv (roll s (BitVec.ofInt 64 n)).2)) = w' := by
  obtain ⟨n, rfl⟩ := Bv_of (n := 64) n (by omega) (by omega)
  rw [ofInt_Bv]
  have hn0 : ¬ n = 0#64 := fun h => by subst h; simp [Bv] at h1
  have hn : Bv n ≠ 0 := by omega
  obtain ⟨hc, hf⟩ := h
  rcases hr : roll s n with ⟨r, sf⟩
  have Hr := Lib.hid hr
  clear hr
  have n0 := Bv_nonneg n
  have hlt : decide (Bv n < 1) = false := decide_eq_false (by omega)
  have hhi := Lib.hid (fun v => hi_lt v n h1)
  clear h1 hn
  go_enter Try.func23, Try.ntmps23
  go_wp2_with fail
  refine (next_calls b s _ ⟨hc, hf⟩).mono ?_; rintro e w' ⟨rfl, rfl⟩
  go_wp2_with fail
  refine (mul64_calls _ _ _).mono ?_; rintro e w' ⟨rfl, rfl⟩
  go_wp2_with fail
  go_loopw [7, 8, 9] (fun x y i wr => ∃ (v t : BitVec 64) (k : Nat), k ≤ 15 ∧ i = .int .i64 k ∧ x = .int .u64 (Bv (hi64 v n)) ∧ y = .int .u64 (Bv (v * n)) ∧
      wr = w.setCell ⟨b, 0, none⟩ (.int .u64 (Bv t)) ∧ Hid (rollOn n k t v = (r, sf))) (fun _ _ i _ => (intOf i).toNat)
  case atStart => exact ⟨mix (s + stride), s + stride, 15, by omega, rfl, rfl, rfl, rfl, Hr.out⟩
  case round =>
    clear Hr
    obtain ⟨v, t, k, hk, rfl, rfl, rfl, rfl, hu⟩ := hrel
    have hv := hhi.out v
    have hv0 := Bv_nonneg (hi64 v n)
    by_cases hlo : v * n < -n % n
    · have hlo' : decide (Bv (v * n) < Bv (-n % n)) = true := decide_eq_true (by rw [ltw]; exact hlo)
      cases k with
      | zero =>
        go_wp2_with fail
        go_ret
        have e := hu.out
        rw [rollOn_zero] at e
        cases e
        exact ⟨rfl, rfl⟩
      | succ k =>
        have e := hu.out
        rw [rollOn_on n t v k hlo] at e
        have hu' := Lib.hid e
        clear e hu
        go_wp2_with fail
        refine (next_calls b t _ ⟨by go_simp, by go_simp⟩).mono ?_; rintro e w' ⟨rfl, rfl⟩
        go_wp2_with fail
        refine (mul64_calls _ _ _).mono ?_; rintro e w' ⟨rfl, rfl⟩
        go_wp2_with fail
        go_roundw
        case measure => simp only [intOf]; omega
        case rel => exact ⟨mix (t + stride), t + stride, k, by omega, rfl, rfl, rfl, rfl, hu'.out⟩
    · have hlo' : decide (Bv (v * n) < Bv (-n % n)) = false := decide_eq_false (by rw [ltw]; exact hlo)
      have e := hu.out
      rw [rollOn_end n t v k hlo] at e
      cases e
      clear hu
      go_wp2_with fail
      go_ret
      exact ⟨rfl, rfl⟩
theorem ref_new_calls (s : BitVec 64) (w : World) : Calls Try.prog 34 #[.int .u64 (Bv s)] w fun e w' =>
    e = .returned (.pointer (some ⟨w.heap.size, 0, none⟩)) ∧ w.alloc (.cells #[.int .u64 (Bv s)] 73) = w' := by
  go_enter Try.func34, Try.ntmps34
  go_wp2_with fail
  go_ret
  exact ⟨rfl, rfl⟩
theorem ref_next_calls (b : Nat) (s : BitVec 64) (w : World) (h : Die w b s) : Calls Try.prog 41 #[.pointer (some ⟨b, 0, none⟩)] w fun e w' =>
    e = .returned (.int .u64 (Bv (mix (s + stride)))) ∧ w.setCell ⟨b, 0, none⟩ (.int .u64 (Bv (s + stride))) = w' := by
  obtain ⟨hc, hf⟩ := h
  go_enter Try.func41, Try.ntmps41
  go_wp2_with (go_at_call 12; refine (mix'_calls _ _).mono ?_; rintro e w' ⟨rfl, rfl⟩)
  go_ret
  exact ⟨by rw [← stride_eq]; rfl, by rw [← stride_eq]⟩
theorem ref_state_calls (b : Nat) (s : BitVec 64) (w : World) (h : Die w b s) : Calls Try.prog 40 #[.pointer (some ⟨b, 0, none⟩)] w fun e w' =>
    e = .returned (.int .u64 (Bv s)) ∧ w = w' := by
  obtain ⟨hc, hf⟩ := h
  go_enter Try.func40, Try.ntmps40
  go_wp2_with fail
  go_ret
  exact ⟨rfl, rfl⟩
theorem ref_jump_calls (b : Nat) (s n : BitVec 64) (w : World) (h : Die w b s) : Calls Try.prog 42 #[.pointer (some ⟨b, 0, none⟩), .int .u64 (Bv n)] w fun e w' =>
    e = .returned (.tuple #[]) ∧ w.setCell ⟨b, 0, none⟩ (.int .u64 (Bv (s + n * stride))) = w' := by
  obtain ⟨hc, hf⟩ := h
  go_enter Try.func42, Try.ntmps42
  go_wp2_with fail
  go_end0
  exact ⟨rfl, by rw [← stride_eq]⟩
end Go.Proofs.Ytaneknfhilfalaa
