/- The walk of DiceShuffles. -/
import Derived.Test.YtaneknfhilfalaaL7b
import Derived.Test.YtaneknfhilfalaaD7d
namespace Go.Proofs.Ytaneknfhilfalaa
open Go.RowKit
set_option linter.unusedVariables false

theorem Try.info4 : (Try.prog.info? 4).map (fun i => (i.zero, i.size, i.bytes)) = some (some (.bool false), 1, 1) := by kernel_rfl
theorem shuffles_none (s : BitVec 64) (n : Int) (hn : n ≤ 0) (w : World) :
    Calls Try.prog 8 #[.int .u64 (Bv s), .int .i64 n] w fun e w' => e = .returned (.bool true) ∧ Below w.heap.size w w' := by
  go_enter Try.func8, Try.ntmps8
  go_wp2_with (first
    | (go_at_call 18; refine (awake_calls _).mono ?_; rintro e w' ⟨rfl, sa, rfl⟩)
    | (go_at_call 19; refine (new_calls _ _).mono ?_; rintro e w' ⟨rfl, rfl⟩)
    | (go_at_call 29; refine (shuffle_none _ _ _ (by omega) _ (by repeat (first | (refine Die.new' ?_; simp; done) | apply Die.alloc))).mono ?_; rintro e w' ⟨rfl, rfl⟩)
    | (go_at_call 22; refine (state_calls _ _ _ (by repeat (first | (refine Die.new' ?_; simp; done) | apply Die.alloc))).mono ?_; rintro e w' ⟨rfl, rfl⟩))
  go_ret
  exact ⟨rfl, by repeat (first | exact Below.refl _ _ | apply below_alloc)⟩
theorem mem_upto {n : Nat} {x : Int} (h : x ∈ upto n) : ∃ k : Nat, x = (k : Int) ∧ k < n := by
  simp only [upto, List.mem_map, List.mem_range] at h
  obtain ⟨k, hk, rfl⟩ := h
  exact ⟨k, rfl, hk⟩
theorem upto_nodup (n : Nat) : (upto n).Nodup := by
  unfold upto
  rw [List.Nodup, List.pairwise_map]
  exact List.Pairwise.imp (fun h => by omega) List.pairwise_lt_range
theorem perm_at {L : List Int} {n : Nat} (hp : L.Perm (upto n)) (j : Nat) (hj : j < n) : ∃ k : Nat, L.getD j 0 = (k : Int) ∧ k < n := by
  have hl : L.length = n := by rw [hp.length_eq, upto_len]
  have hm : L.getD j 0 ∈ L := by
    rw [List.getD_eq_getElem?_getD, List.getElem?_eq_getElem (by omega)]
    exact List.getElem_mem _
  exact mem_upto (hp.subset hm)
theorem perm_ne {L : List Int} {n : Nat} (hp : L.Perm (upto n)) (i j : Nat) (hi : i < n) (hj : j < n) (hne : i ≠ j) : L.getD i 0 ≠ L.getD j 0 := by
  have hl : L.length = n := by rw [hp.length_eq, upto_len]
  have hd : L.Nodup := hp.nodup_iff.2 (upto_nodup n)
  rw [List.getD_eq_getElem?_getD, List.getD_eq_getElem?_getD, List.getElem?_eq_getElem (by omega), List.getElem?_eq_getElem (by omega)]
  simp only [Option.getD_some]
  intro h
  rcases Nat.lt_or_gt_of_ne hne with h1 | h1
  · exact (List.pairwise_iff_getElem.1 hd) i j (by omega) (by omega) h1 h
  · exact (List.pairwise_iff_getElem.1 hd) j i (by omega) (by omega) h1 h.symm
theorem shuffles_some (s : BitVec 64) (n : Int) (b0 : -9223372036854775808 ≤ n ∧ n ≤ 9223372036854775807) (hn : 0 < n) (w : World) :
    Calls Try.prog 8 #[.int .u64 (Bv s), .int .i64 n] w fun e w' => e = .returned (.bool true) ∧ Below w.heap.size w w' := by
  obtain ⟨l0, l1⟩ := b0
  obtain ⟨N, hN⟩ : ∃ N : Nat, 1 + n % 500 = (N : Int) := ⟨(1 + n % 500).toNat, by have := Int.emod_nonneg n (show (500 : Int) ≠ 0 by omega); omega⟩
  have hN1 : 1 ≤ N := by have := Int.emod_nonneg n (show (500 : Int) ≠ 0 by omega); omega
  have hN2 : N ≤ 500 := by have := Int.emod_lt_of_pos n (show (0 : Int) < 500 by omega); omega
  have HN := Lib.hid hN
  have hr0 : 0 ≤ n % 500 := Int.emod_nonneg n (show (500 : Int) ≠ 0 by omega)
  have hr1 : n % 500 < 500 := Int.emod_lt_of_pos n (show (0 : Int) < 500 by omega)
  clear hN
  obtain ⟨i4, j1, j2, j3, j4⟩ := info_parts Try.info4
  have hmk := fun w => run_make_one (P := Try.prog) Value.bool false 45 4 i4 1 Try.underlying45 j1 j2 j3 j4 rfl N N (Nat.le_refl _) (by omega) (by omega) w
  clear j1 j2 j3 j4
  rcases hsh : shuf (N - 1) (upto N) s with ⟨L, sf⟩
  have hp : L.Perm (upto N) := by have := shuf_perm (N - 1) (upto N) s (by rw [upto_len]; omega) (by rw [upto_len]; omega); rw [hsh] at this; exact this
  have hst : rolls (N - 1) s = sf := by rw [← shuf_state (N - 1) (upto N) s, hsh]
  have Hsh := Lib.hid hsh
  have Hst := Lib.hid hst
  clear hsh hst
  have hLl : L.length = N := by rw [hp.length_eq, upto_len]
  have HL := Lib.hid hLl
  clear hLl
  go_enter Try.func8, Try.ntmps8
  go_wp2_with fail
  refine (awake_calls _).mono ?_; rintro e w' ⟨rfl, sa, rfl⟩
  go_wp2_with fail
  refine (round_calls _ _ l0 l1 (by omega) (by omega) _).mono ?_; rintro e w' ⟨rfl, rfl⟩
  go_wp2_with fail
  rw [HN.out]
  refine (new_calls _ _).mono ?_; rintro e w' ⟨rfl, rfl⟩
  go_wp2_with fail
  refine (shuffle_calls _ s N hN1 (by omega) _ (Die.new' (by simp))).mono ?_; rintro e w' ⟨rfl, m, rfl⟩
  rw [Hsh.out]
  go_wp2_with fail
  obtain ⟨W1, hW1⟩ : ∃ W1, W1 = ((w.alloc (.cells #[.int .u64 (Bv sa)] 69)).alloc (.cells #[.int .u64 (Bv sf)] 69)).alloc (.cells (V ci L) 3) := ⟨_, rfl⟩
  have hz : w.heap.size + 1 + 1 + 1 = W1.heap.size := by rw [hW1]; simp
  have hb : Below w.heap.size w W1 := by rw [hW1]; repeat (first | exact Below.refl _ _ | apply below_alloc)
  have hd : Die W1 (w.heap.size + 1) sf := by rw [hW1]; repeat (first | (refine Die.new' ?_; simp; done) | apply Die.alloc)
  have hc : ∀ j, j < N → W1.cell? ⟨w.heap.size + 1 + 1, j, none⟩ = some (ci (L.getD j 0)) := by
    intro j hj
    rw [hW1]
    have e := World.cell?_alloc_new ((w.alloc (.cells #[.int .u64 (Bv sa)] 69)).alloc (.cells #[.int .u64 (Bv sf)] 69)) (V ci L) 3 j
    simp only [World.size_alloc] at e
    rw [e]
    exact V_at ci L j 0 (by have := HL.out; omega)
  rw [← hW1, hz]
  clear hW1
  have hl1 : w.heap.size + 1 + 1 < W1.heap.size := by omega
  have hl2 : w.heap.size + 1 < W1.heap.size := by omega
  have HB := Lib.hid hb
  have HC := Lib.hid hc
  have HD := Lib.hid hd
  clear hz hb hc hd hmk HN Hsh
  generalize w.heap.size + 1 + 1 = lb at *
  generalize w.heap.size + 1 = db at *
  go_loopw [8, 9] (fun i _ wr => ∃ (j : Nat) (sl : List Bool), j ≤ N ∧ i = .int .i64 j ∧ sl.length = N ∧ Hid (∀ t, j ≤ t → t < N → sl.getD (L.getD t 0).toNat false = false) ∧
      wr = (W1.alloc (.cells (V Value.bool sl) 4)).drewN m) (fun i _ _ => N - (intOf i).toNat)
  case atStart => exact ⟨0, List.replicate N false, by omega, rfl, List.length_replicate, fun t _ _ => by simp [List.getD_eq_getElem?_getD, List.getElem?_replicate]; split <;> rfl, rfl⟩
  case round =>
    obtain ⟨j, sl, hj, rfl, hsl, hse, rfl⟩ := hrel
    by_cases hjn : j < N
    · obtain ⟨x, hx, hxN⟩ := perm_at hp j hjn
      have hc := HC.out j hjn
      rw [hx] at hc
      have hs0 := hse.out j (Nat.le_refl _) hjn
      rw [hx, Int.toNat_natCast] at hs0
      have hg : (V Value.bool sl)[x]? = some (.bool false) := by rw [V_at _ _ _ false (by omega), hs0]
      have hse' : Hid (∀ t, j + 1 ≤ t → t < N → (sl.set x true).getD (L.getD t 0).toNat false = false) := by
        intro t h1 h2
        obtain ⟨y, hy, hyN⟩ := perm_at hp t h2
        have hne : x ≠ y := fun h => perm_ne hp j t hjn h2 (by omega) (by rw [hx, hy, h])
        have := hse.out t (by omega) h2
        rw [hy, Int.toNat_natCast] at this ⊢
        rw [List.getD_eq_getElem?_getD, List.getElem?_set_ne hne, ← List.getD_eq_getElem?_getD]
        exact this
      have hsl' : Hid ((sl.set x true).length = N) := by show _ = _; rw [List.length_set]; exact hsl
      clear hs0 hse hsl hx
      go_wp2_with fail
      go_roundw
      case measure => simp only [intOf]; omega
      case rel => exact ⟨j + 1, sl.set x true, by omega, by go_num, hsl'.out, hse', rfl⟩
    · clear HC hse hsl HL
      obtain ⟨c, c1, c2, hcs⟩ := rolls_far (N - 1) s
      rw [Hst.out] at hcs
      have hst : Bv (stepsOf s sf) = (c : Int) := by rw [hcs, steps_on]; exact Bv_ofNat c (by omega)
      have HST := Lib.hid hst
      clear hcs hst
      go_wp2_with fail
      refine (state_calls _ sf _ (HD.out.alloc.drewN)).mono ?_; rintro e w' ⟨rfl, rfl⟩
      go_wp2_with fail
      refine (steps_calls _ _ _).mono ?_; rintro e w' ⟨rfl, rfl⟩
      rw [HST.out]
      go_wp2_with fail
      refine (new_calls _ _).mono ?_; rintro e w' ⟨rfl, rfl⟩
      go_wp2_with fail
      go_loopw [12] (fun i wr => ∃ (j : Nat) (t : BitVec 64), j < N ∧ i = .int .i64 j ∧ Hid (rolls j t = sf) ∧
        wr = ((W1.alloc (.cells (V Value.bool sl) 4)).alloc (.cells #[.int .u64 (Bv t)] 69)).drewN m) (fun i _ => (intOf i).toNat)
      case atStart => exact ⟨N - 1, s, by omega, by go_num, Hst.out, rfl⟩
      case round =>
        clear Hst
        obtain ⟨j, t, hj, rfl, ht, rfl⟩ := hrel
        cases j with
        | zero =>
          have e := ht.out
          rw [rolls_zero] at e
          subst e
          go_wp2_with fail
          refine (shuffle_none _ _ _ (by omega) _ (HD.out.alloc.alloc.drewN)).mono ?_; rintro e w' ⟨rfl, rfl⟩
          go_wp2_with (go_at_call 22; refine (state_calls _ _ _ (by first | exact HD.out.alloc.alloc.drewN | (refine Die.drewN (Die.new' ?_); simp; done))).mono ?_; rintro e w' ⟨rfl, rfl⟩)
          go_ret
          exact ⟨rfl, below_trans HB.out (by repeat (first | exact Below.refl _ _ | apply below_alloc | apply below_drewN))⟩
        | succ j =>
          have e := ht.out
          rw [rolls_succ] at e
          have He := Lib.hid e
          clear e ht
          go_wp2_with fail
          refine (roll_calls _ t _ (by omega) (by omega) _ (Die.drewN (Die.new' (by simp)))).mono ?_; rintro e w' ⟨rfl, rfl⟩
          go_wp2_with fail
          go_roundw
          case measure => simp only [intOf]; omega
          case rel => exact ⟨j, _, by omega, by go_num, He.out, rfl⟩
theorem shuffles_walk (s : BitVec 64) (n : Int) (b0 : -9223372036854775808 ≤ n ∧ n ≤ 9223372036854775807) (w : World) :
    Calls Try.prog 8 #[.int .u64 (Bv s), .int .i64 n] w fun e w' => e = .returned (.bool true) ∧ Below w.heap.size w w' := by
  by_cases hn : 0 < n
  · exact shuffles_some s n b0 hn w
  · exact shuffles_none s n (by omega) w
end Go.Proofs.Ytaneknfhilfalaa
