/- The walk of Shuffle: the list that it answers, and where the state is then. -/
import Derived.Test.YtaneknfhilfalaaD7c
import Derived.ChangeAlike
namespace Go.Proofs.Ytaneknfhilfalaa
open Go.RowKit
set_option linter.unusedVariables false

def swp (l : List Int) (i k : Nat) : List Int := (l.set i (l.getD k 0)).set k (l.getD i 0)
/-- Shuffle from place i down -/
def shufBy (rl : BitVec 64 → BitVec 64 → BitVec 64 × BitVec 64) : Nat → List Int → BitVec 64 → List Int × BitVec 64
  | 0, l, s => (l, s)
  | i + 1, l, s => shufBy rl i (swp l (i + 1) (rl s (BitVec.ofInt 64 ((i : Int) + 1 + 1))).1.toNat) (rl s (BitVec.ofInt 64 ((i : Int) + 1 + 1))).2
noncomputable def shuf (i : Nat) (l : List Int) (s : BitVec 64) : List Int × BitVec 64 := shufBy roll i l s
theorem shuf_zero (l : List Int) (s : BitVec 64) : shuf 0 l s = (l, s) := rfl
theorem shufBy_succ (rl : BitVec 64 → BitVec 64 → BitVec 64 × BitVec 64) (i : Nat) (l : List Int) (s : BitVec 64) :
    shufBy rl (i + 1) l s = shufBy rl i (swp l (i + 1) (rl s (BitVec.ofInt 64 ((i : Int) + 1 + 1))).1.toNat) (rl s (BitVec.ofInt 64 ((i : Int) + 1 + 1))).2 := rfl
theorem shuf_succ (i : Nat) (l : List Int) (s : BitVec 64) :
    shuf (i + 1) l s = shuf i (swp l (i + 1) (roll s (BitVec.ofInt 64 ((i : Int) + 1 + 1))).1.toNat) (roll s (BitVec.ofInt 64 ((i : Int) + 1 + 1))).2 := shufBy_succ roll i l s
attribute [irreducible] shuf
def upto (n : Nat) : List Int := (List.range n).map (fun (i : Nat) => (i : Int))
theorem upto_len (n : Nat) : (upto n).length = n := by simp [upto]
theorem upto_succ (k : Nat) : upto (k + 1) = upto k ++ [(k : Int)] := by simp [upto, List.range_succ]
theorem fill_at (k n : Nat) (h : k < n) : (upto k ++ List.replicate (n - k) 0).getD k 0 = 0 := by
  rw [List.getD_eq_getElem?_getD, List.getElem?_append_right (by rw [upto_len]; omega), upto_len, Nat.sub_self]
  cases hm : n - k with
  | zero => omega
  | succ m => rfl
theorem fill_set (k n : Nat) (h : k < n) : (upto k ++ List.replicate (n - k) 0).set k (k : Int) = upto (k + 1) ++ List.replicate (n - (k + 1)) 0 := by
  rw [List.set_append_right _ _ (by rw [upto_len]; omega), upto_len, Nat.sub_self, upto_succ, show n - k = (n - (k + 1)) + 1 by omega, List.replicate_succ, List.set_cons_zero, List.append_assoc]
  rfl
theorem Try.info3 : (Try.prog.info? 3).map (fun i => (i.zero, i.size, i.bytes)) = some (some (.int .i64 0), 1, 8) := by kernel_rfl
theorem shuffle_calls (b : Nat) (s : BitVec 64) (n : Nat) (h1 : 1 ≤ n) (h2 : n ≤ 65536) (w : World) (h : Die w b s) :
    Calls Try.prog 29 #[.pointer (some ⟨b, 0, none⟩), .int .i64 n] w fun e w' =>
    e = .returned (.slice (some ⟨w.heap.size, 0, none⟩) n n) ∧
    ∃ k, ((w.setCell ⟨b, 0, none⟩ (.int .u64 (Bv (shuf (n - 1) (upto n) s).2))).alloc (.cells (V ci (shuf (n - 1) (upto n) s).1) 3)).drewN k = w' := by
  obtain ⟨i3, j1, j2, j3, j4⟩ := info_parts Try.info3
  have hmk := fun w => run_make_one (P := Try.prog) ci 0 43 3 i3 8 Try.underlying43 j1 j2 j3 j4 rfl n n (Nat.le_refl _) (by omega) (by omega) w
  clear j1 j2 j3 j4
  have hlt := h.lt
  have t1 : decide ((n : Int) < 1) = false := decide_eq_false (by omega)
  have t2 : decide (65536 < (n : Int)) = false := decide_eq_false (by omega)
  go_enter Try.func29, Try.ntmps29
  go_wp2_with fail
  clear t1 t2 hmk
  go_loopw [6, 23] (fun _ i wr => ∃ k : Nat, k ≤ n ∧ i = .int .i64 k ∧ wr = w.alloc (.cells (V ci (upto k ++ List.replicate (n - k) 0)) 3)) (fun _ i _ => n - (intOf i).toNat)
  case atStart => exact ⟨0, by omega, rfl, by simp [upto]⟩
  case round =>
    obtain ⟨k, hk, rfl, rfl⟩ := hrel
    by_cases hkn : k < n
    · have hc : (V ci (upto k ++ List.replicate (n - k) 0))[k]? = some (.int .i64 0) := by
        rw [V_at _ _ _ 0 (by rw [List.length_append, upto_len, List.length_replicate]; omega), fill_at k n hkn]
      have hs := fill_set k n hkn
      go_wp2_with fail
      go_roundw
      case measure => simp only [intOf]; omega
      case rel => exact ⟨k + 1, by omega, by go_num, rfl⟩
    · obtain rfl : k = n := by omega
      rw [Nat.sub_self, List.replicate_zero, List.append_nil]
      clear hkn hk
      go_wp2_with fail
      go_loopw [7, 8] (fun i _ wr => ∃ (j m : Nat) (l : List Int) (t : BitVec 64), j < k ∧ l.length = k ∧ i = .int .i64 j ∧
          wr = ((w.setCell ⟨b, 0, none⟩ (.int .u64 (Bv t))).alloc (.cells (V ci l) 3)).drewN m ∧ Hid (shuf j l t = shuf (k - 1) (upto k) s)) (fun i _ _ => (intOf i).toNat)
      case atStart => exact ⟨k - 1, 0, upto k, s, by omega, upto_len k, by go_num, by rw [setCell_self _ _ _ h.cell]; rfl, rfl⟩
      case round =>
        obtain ⟨j, m, l, t, hj, hl, rfl, rfl, hu⟩ := hrel
        cases j with
        | zero =>
          go_wp2_with fail
          go_ret
          have e := hu.out
          rw [shuf_zero] at e
          refine ⟨rfl, m, ?_⟩
          rw [← e]
        | succ j =>
          have e := hu.out
          rw [shuf_succ] at e
          have He := Lib.hid e
          have HL := Lib.hid hl
          clear e hu hl
          obtain ⟨hc, hf⟩ := h
          have hq := roll_lt t ((j : Int) + 1 + 1) (by omega) (by omega)
          go_wp2_with fail
          refine (roll_calls b t _ (by omega) (by omega) _ ⟨by go_simp, by go_simp⟩).mono ?_; rintro e w' ⟨rfl, rfl⟩
          obtain ⟨q, hq'⟩ : ∃ q : Nat, Bv (roll t (BitVec.ofInt 64 ((j : Int) + 1 + 1))).1 = (q : Int) := ⟨_, rfl⟩
          rw [hq'] at hq ⊢
          have HQ := Lib.hid hq'
          clear hq'
          have HL' := HL.out
          have hqk : q < k := by omega
          have hjk : j + 1 < k := hj
          have g1 : (V ci l)[j + 1]? = some (.int .i64 (l.getD (j + 1) 0)) := V_at _ _ _ _ (by omega)
          have g2 : (V ci l)[q]? = some (.int .i64 (l.getD q 0)) := V_at _ _ _ _ (by omega)
          have g3 : (V ci (l.set (j + 1) (l.getD q 0)))[q]? = some (.int .i64 ((l.set (j + 1) (l.getD q 0)).getD q 0)) := V_at _ _ _ _ (by rw [List.length_set]; omega)
          clear HL'
          obtain ⟨x, hx⟩ : ∃ x, l.getD (j + 1) 0 = x := ⟨_, rfl⟩
          obtain ⟨y, hy⟩ : ∃ y, l.getD q 0 = y := ⟨_, rfl⟩
          rw [hx] at g1
          rw [hy] at g2 g3
          have HX := Lib.hid hx
          have HY := Lib.hid hy
          clear hx hy
          go_wp2_with fail
          go_region
          go_wp2_with fail
          go_roundw
          case measure => simp only [intOf]; omega
          case rel =>
            refine ⟨j, _, (l.set (j + 1) y).set q x, _, by omega, by rw [List.length_set, List.length_set]; exact HL.out, by go_num, rfl, ?_⟩
            have e := He.out
            rw [show (roll t (BitVec.ofInt 64 ((j : Int) + 1 + 1))).1.toNat = q by have := HQ.out; rw [Bv_cast] at this; omega] at e
            show shuf _ _ _ = _
            rw [← e, swp, HX.out, HY.out]
theorem shuffle_none (b : Nat) (s : BitVec 64) (n : Int) (hn : n < 1 ∨ 65536 < n) (w : World) (h : Die w b s) :
    Calls Try.prog 29 #[.pointer (some ⟨b, 0, none⟩), .int .i64 n] w fun e w' => e = .returned (.slice none 0 0) ∧ w = w' := by
  by_cases h1 : n < 1
  · have t1 : decide (n < 1) = true := decide_eq_true h1
    go_enter Try.func29, Try.ntmps29
    go_wp2_with fail
    go_ret
    exact ⟨rfl, rfl⟩
  · have t1 : decide (n < 1) = false := decide_eq_false h1
    have t2 : decide (65536 < n) = true := decide_eq_true (by omega)
    go_enter Try.func29, Try.ntmps29
    go_wp2_with fail
    go_ret
    exact ⟨rfl, rfl⟩
/-- where the state is behind a Shuffle -/
def rollsBy (rl : BitVec 64 → BitVec 64 → BitVec 64 × BitVec 64) : Nat → BitVec 64 → BitVec 64
  | 0, s => s
  | i + 1, s => rollsBy rl i (rl s (BitVec.ofInt 64 ((i : Int) + 1 + 1))).2
noncomputable def rolls (i : Nat) (s : BitVec 64) : BitVec 64 := rollsBy roll i s
theorem rollsBy_succ (rl : BitVec 64 → BitVec 64 → BitVec 64 × BitVec 64) (i : Nat) (s : BitVec 64) : rollsBy rl (i + 1) s = rollsBy rl i (rl s (BitVec.ofInt 64 ((i : Int) + 1 + 1))).2 := rfl
theorem rolls_zero (s : BitVec 64) : rolls 0 s = s := rfl
theorem rolls_succ (i : Nat) (s : BitVec 64) : rolls (i + 1) s = rolls i (roll s (BitVec.ofInt 64 ((i : Int) + 1 + 1))).2 := rollsBy_succ roll i s
attribute [irreducible] rolls
theorem shuf_state (i : Nat) : ∀ (l : List Int) (s : BitVec 64), (shuf i l s).2 = rolls i s := by
  induction i with
  | zero => intro l s; rw [shuf_zero, rolls_zero]
  | succ i ih => intro l s; rw [shuf_succ, rolls_succ]; exact ih _ _
theorem rollOn_far (n : BitVec 64) : ∀ (k : Nat) (s v : BitVec 64), ∃ c : Nat, c ≤ k ∧ (rollOn n k s v).2 = s + BitVec.ofNat 64 c * stride := by
  intro k
  induction k with
  | zero => intro s v; exact ⟨0, Nat.le_refl _, by rw [rollOn_zero]; simp⟩
  | succ k ih =>
    intro s v
    by_cases h : v * n < -n % n
    · obtain ⟨c, hc, e⟩ := ih (s + stride) (mix (s + stride))
      refine ⟨c + 1, by omega, ?_⟩
      rw [rollOn_on n s v k h, e, BitVec.ofNat_add, BitVec.add_mul, BitVec.one_mul, BitVec.add_assoc, BitVec.add_comm stride]
    · exact ⟨0, by omega, by rw [rollOn_end n s v _ h]; simp⟩
theorem roll_far (s n : BitVec 64) : ∃ c : Nat, 1 ≤ c ∧ c ≤ 16 ∧ (roll s n).2 = s + BitVec.ofNat 64 c * stride := by
  obtain ⟨c, hc, e⟩ := rollOn_far n 15 (s + stride) (mix (s + stride))
  refine ⟨c + 1, by omega, by omega, ?_⟩
  unfold roll
  rw [e, BitVec.ofNat_add, BitVec.add_mul, BitVec.one_mul, BitVec.add_assoc, BitVec.add_comm stride]
theorem rolls_far (i : Nat) : ∀ s : BitVec 64, ∃ c : Nat, i ≤ c ∧ c ≤ 16 * i ∧ rolls i s = s + BitVec.ofNat 64 c * stride := by
  induction i with
  | zero => intro s; exact ⟨0, Nat.le_refl _, Nat.le_refl _, by rw [rolls_zero]; simp⟩
  | succ i ih =>
    intro s
    obtain ⟨c, c1, c2, e⟩ := roll_far s (BitVec.ofInt 64 ((i : Int) + 1 + 1))
    obtain ⟨d, d1, d2, f⟩ := ih (s + BitVec.ofNat 64 c * stride)
    refine ⟨c + d, by omega, by omega, ?_⟩
    rw [rolls_succ, e, f, BitVec.ofNat_add, BitVec.add_mul, BitVec.add_assoc]
theorem swp_perm (l : List Int) (i k : Nat) (hi : i < l.length) (hk : k < l.length) : (swp l i k).Perm l := by
  have h := Array.swap_perm (xs := l.toArray) (i := i) (j := k) (by simpa using hi) (by simpa using hk)
  have e : (l.toArray.swap i k (by simpa using hi) (by simpa using hk)).toList = swp l i k := by
    rw [Array.swap_def]
    simp [swp, List.getD_eq_getElem?_getD, hi, hk]
  have h' := Array.perm_iff_toList_perm.1 h
  rw [e] at h'
  exact h'
theorem swp_len (l : List Int) (i k : Nat) : (swp l i k).length = l.length := by simp [swp]
theorem shuf_perm (i : Nat) : ∀ (l : List Int) (s : BitVec 64), i < l.length → l.length ≤ 65536 → (shuf i l s).1.Perm l := by
  induction i with
  | zero => intro l s _ _; rw [shuf_zero]
  | succ i ih =>
    intro l s h h'
    rw [shuf_succ]
    have hr := roll_lt s ((i : Int) + 1 + 1) (by omega) (by omega)
    have hq : (roll s (BitVec.ofInt 64 ((i : Int) + 1 + 1))).1.toNat < l.length := by rw [Bv_cast] at hr; omega
    exact (ih _ _ (by rw [swp_len]; omega) (by rw [swp_len]; omega)).trans (swp_perm l _ _ h hq)
end Go.Proofs.Ytaneknfhilfalaa
