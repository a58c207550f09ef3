/- Layer 7 (dice): the document's dice: rolls, reals, shuffles, picks; nil ones. -/
import Derived.Test.YtaneknfhilfalaaD7j
import Derived.Test.YtaneknfhilfalaaD7h
namespace Go.Proofs.Ytaneknfhilfalaa
open Go.RowKit
set_option linter.unusedVariables false

theorem rroll_calls (b : Nat) (s : BitVec 64) (n : Int) (h1 : 1 ≤ n) (h2 : n ≤ 9223372036854775807) (w : World) (h : Die w b s) :
    Calls Try.prog 43 #[.pointer (some ⟨b, 0, none⟩), .int .i64 n] w fun e w' =>
    e = .returned (.int .i64 (Bv (roll s (BitVec.ofInt 64 n)).1)) ∧ w.setCell ⟨b, 0, none⟩ (.int .u64 (Bv (roll s (BitVec.ofInt 64 n)).2)) = w' := by
  obtain ⟨n, rfl⟩ := Bv_of (n := 64) n (by omega) (by omega)
  rw [ofInt_Bv]
  have hn0 : ¬ n = 0#64 := fun h => by subst h; simp [Bv] at h1
  have hself : w.setCell ⟨b, 0, none⟩ (.int .u64 (Bv s)) = w := setCell_self w _ _ h.cell
  have HSELF := Lib.hid hself
  obtain ⟨hc, hf⟩ := h
  rcases hr : roll s n with ⟨r, sf⟩
  have Hr : Hid (rollOn n 15 (s + stride) (mix (s + stride)) = (r, sf)) := hr
  clear hr hself
  have n0 := Bv_nonneg n
  have hlt : decide (Bv n < 1) = false := decide_eq_false (by omega)
  have hhi := Lib.hid (fun v => hi_lt v n h1)
  have H49 := Lib.hid (fun w => rest_calls n hn0 w)
  clear h1
  go_enter Try.func43, Try.ntmps43
  go_wp2_with (first | (go_at_call 49; refine (H49.out _).mono ?_; clear H49; rintro e w' ⟨rfl, rfl⟩) | fail)
  go_loopw [6, 7, 8] (fun i _ _ wr => ∃ (t : BitVec 64) (k : Nat), k ≤ 15 ∧ i = .int .i64 ((16 - k : Nat) : Int) ∧
      wr = w.setCell ⟨b, 0, none⟩ (.int .u64 (Bv t)) ∧ Hid (rollOn n k (t + stride) (mix (t + stride)) = (r, sf))) (fun i _ _ _ => (16 - intOf i).toNat)
  case atStart => exact ⟨s, 15, by omega, rfl, HSELF.out.symm, Hr.out⟩
  case round =>
    clear Hr
    obtain ⟨t, k, hk, rfl, rfl, hu⟩ := hrel
    obtain ⟨v, hv⟩ : ∃ v, mix (t + stride) = v := ⟨_, rfl⟩
    have N1 := Lib.hid (ref_next_calls b t (w.setCell ⟨b, 0, none⟩ (.int .u64 (Bv t))) ⟨by go_simp, by go_simp⟩)
    rw [hv] at hu N1
    have hw2 := setCell_setCell w ⟨b, 0, none⟩ (.int .u64 (Bv t)) (.int .u64 (Bv (t + stride)))
    rw [hw2] at N1
    have hvv := hhi.out v
    have hv0 := Bv_nonneg (hi64 v n)
    clear hv hw2
    by_cases hlo : v * n < -n % n
    · have hlo' : decide (Bv (-n % n) ≤ Bv (v * n)) = false := decide_eq_false (by
        have := (decide_eq_true_iff (p := v * n < -n % n)).2 hlo
        rw [← ltw] at hlo
        omega)
      cases k with
      | zero =>
        go_wp2_with (first
          | (go_at_call 41; refine N1.out.mono ?_; clear N1; rintro e w' ⟨rfl, hw'⟩)
          | (go_at_call 50; refine (product_calls _ _ _).mono ?_; rintro e w' ⟨rfl, rfl⟩)
          | fail)
        go_ret
        have e := hu.out
        rw [rollOn_zero] at e
        cases e
        exact ⟨rfl, hw'⟩
      | succ k =>
        have e := hu.out
        rw [rollOn_on n (t + stride) v k hlo] at e
        have hu' := Lib.hid e
        have hk16 : ((16 - (k + 1) : Nat) : Int) = 15 - (k : Int) := by omega
        rw [hk16]
        clear e hu hk16
        go_wp2_with (first
          | (go_at_call 41; refine N1.out.mono ?_; clear N1; rintro e w' ⟨rfl, hw'⟩)
          | (go_at_call 50; refine (product_calls _ _ _).mono ?_; rintro e w' ⟨rfl, rfl⟩)
          | fail)
        go_roundw
        case measure => simp only [intOf]; omega
        case rel => exact ⟨t + stride, k, by omega, by congr 1; omega, hw'.symm, hu'.out⟩
    · have hlo' : decide (Bv (-n % n) ≤ Bv (v * n)) = true := decide_eq_true (by
        rw [← ltw] at hlo
        omega)
      have e := hu.out
      rw [rollOn_end n (t + stride) v k hlo] at e
      cases e
      clear hu
      go_wp2_with (first
        | (go_at_call 41; refine N1.out.mono ?_; clear N1; rintro e w' ⟨rfl, hw'⟩)
        | (go_at_call 50; refine (product_calls _ _ _).mono ?_; rintro e w' ⟨rfl, rfl⟩)
        | fail)
      go_ret
      exact ⟨rfl, hw'⟩
theorem div2048 (x : BitVec 64) : x / 2048#64 = x >>> 11 := by
  apply BitVec.eq_of_toNat_eq
  rw [BitVec.toNat_ushiftRight, Nat.shiftRight_eq_div_pow, BitVec.toNat_udiv]; rfl
theorem rreal_calls (b : Nat) (s : BitVec 64) (w : World) (h : Die w b s) : Calls Try.prog 44 #[.pointer (some ⟨b, 0, none⟩)] w fun e w' =>
    e = .returned (.float .f64 (realW (mix (s + stride) >>> 11).toNat)) ∧ w.setCell ⟨b, 0, none⟩ (.int .u64 (Bv (s + stride))) = w' := by
  have H := Lib.hid (ref_next_calls b s w h)
  obtain ⟨y, hy⟩ : ∃ y, mix (s + stride) >>> 11 = y := ⟨_, rfl⟩
  have hlt := shr11_lt (mix (s + stride))
  have hdv := div2048 (mix (s + stride))
  rw [hy] at hlt hdv
  have hcv : ∀ w, (convert 22 37 (.int .u64 (Bv y))).run Try.prog w = .ok (.float .f64 (wholeW y.toNat)) w := fun w => by
    rw [run_convert_int_float (P := Try.prog) w 22 37 .u64 .f64 (Bv y) (by kernel_rfl) (by kernel_rfl)]
    rw [show floatOfInt .f64 (Bv y) = wholeW y.toNat from whole_ofInt hlt]
  have hm := fun w => run_float_arith (P := Try.prog) w .quo 37 .f64 _ _ _ (real_div hlt)
  rw [hy]
  clear h hlt
  go_enter Try.func44, Try.ntmps44
  go_wp2_with (first
    | (go_at_call 41; refine H.out.mono ?_; rintro e w' ⟨rfl, rfl⟩)
    | fail)
  go_ret
  exact ⟨rfl, rfl⟩
theorem rshuffle_none (b : Nat) (s : BitVec 64) (n : Int) (hn : n < 1 ∨ 65536 < n) (w : World) :
    Calls Try.prog 46 #[.pointer (some ⟨b, 0, none⟩), .int .i64 n] w fun e w' => e = .returned (.slice none 0 0) ∧ w = w' := by
  by_cases h1 : n < 1
  · have t1 : decide (n < 1) = true := decide_eq_true h1
    go_enter Try.func46, Try.ntmps46
    go_wp2_with fail
    go_ret
    exact ⟨rfl, rfl⟩
  · have t1 : decide (n < 1) = false := decide_eq_false h1
    have t2 : decide (65536 < n) = true := decide_eq_true (by omega)
    go_enter Try.func46, Try.ntmps46
    go_wp2_with fail
    go_ret
    exact ⟨rfl, rfl⟩
abbrev MB (w : World) (b : Nat) (s : BitVec 64) : Prop := Blk w b #[.int .u64 (Bv s)] 73
theorem MB.die {w : World} {b : Nat} {s : BitVec 64} (h : MB w b s) : Die w b s := ⟨h.cell 0, h.free 0⟩
theorem MB.next {w : World} {b : Nat} {s s' : BitVec 64} (h : MB w b s) : MB (w.setCell ⟨b, 0, none⟩ (.int .u64 (Bv s'))) b s' := h.set 0 _
theorem grown_set_new {w w' : World} {row : Option Nat} {g : Nat} (h : w.grownBy w' row) (hg : w.heap.size ≤ g) (i : Nat) (v : Value) : w.grownBy (w'.setCell ⟨g, i, none⟩ v) row := by
  have s := grown_set w' g i v
  exact ⟨s.os.trans h.os, s.tape.trans h.tape, s.output.trans h.output, Nat.le_trans h.size s.size, fun k hk hne => (s.block k (Nat.lt_of_lt_of_le hk h.size) (fun e => by have := Option.some.inj e; omega)).trans (h.block k hk hne)⟩
set_option maxHeartbeats 1000000 in
theorem rshuffle_calls (b : Nat) (s : BitVec 64) (n : Nat) (h1 : 1 ≤ n) (h2 : n ≤ 65536) (w : World) (h : MB w b s) :
    Calls Try.prog 46 #[.pointer (some ⟨b, 0, none⟩), .int .i64 n] w fun e w' => ∃ v, e = .returned v ∧ Own w' w.heap.size 3 ci v (shuf (n - 1) (upto n) s).1 ∧
      MB w' b (shuf (n - 1) (upto n) s).2 ∧ w.grownBy w' (some b) := by
  obtain ⟨i3, j1, j2, j3, j4⟩ := info_parts Try.info3
  have hz : i3.zero = some (ci 0) := j2
  have HLB := Lib.hid h.lt
  have HB := Lib.hid h
  obtain ⟨R, hR⟩ : ∃ R, shuf (n - 1) (upto n) s = R := ⟨_, rfl⟩
  rw [hR]
  have HR := Lib.hid hR
  have t1 : decide ((n : Int) < 1) = false := decide_eq_false (by omega)
  have t2 : decide (65536 < (n : Int)) = false := decide_eq_false (by omega)
  have H1 := Lib.hid h1
  have H2 := Lib.hid h2
  have hn' : (n : Int) ≤ 65536 := by omega
  have hn1 : (1 : Int) ≤ n := by omega
  clear h hR h1 h2
  go_enter Try.func46, Try.ntmps46
  go_wp2_with fail
  clear t1 t2
  go_loopw [5, 6] (fun nv iv wr => ∃ (k : Nat) (v5 : Value), k ≤ n ∧ v5 = nv ∧ iv = .int .i64 k ∧ Hid (Own wr w.heap.size 3 ci v5 (upto k) ∧ Ext w wr)) (fun _ iv _ => (n - (intOf iv).toNat))
  case atStart => exact ⟨0, _, by omega, rfl, rfl, Own.nil, Ext.refl _⟩
  case round =>
    obtain ⟨k, v5, hk, rfl, rfl, hT⟩ := hrel
    by_cases hlt : k < n
    · have O1 := Lib.hid ((Ext.of_alloc (w := wr) (.cells #[ci k] 3)).own hT.out.1)
      have X1 : Hid ((wr.alloc (.cells #[ci k] 3)).cell? ⟨wr.heap.size, 0, none⟩ = some (ci k)) := by show _ = _; rw [World.cell?_alloc_new]; rfl
      have S1 := Lib.hid ((hT.out.2.alloc (.cells #[ci k] 3)).size)
      have B1 : Hid (((upto k).length + 1) * 8 ≤ 140737488355328) := by show _ ≤ _; rw [upto_len]; have := H2.out; omega
      have M1 : Hid ((upto k).length + 1 ≤ 9223372036854775807) := by show _ ≤ _; rw [upto_len]; have := H2.out; omega
      go_wp2_with (first
        | (at_builtin; refine wpList_append_one ci rfl (.tmp 25) (.tmp 27) 43 rfl w.heap.size 3 i3 (ci 0) 8 Try.underlying43 j1 hz j3 j4 rfl _ (upto k) rfl O1.out wr.heap.size 1 _ rfl X1.out rfl B1.out M1.out S1.out ?_
           intro nv' w3 ho3 hg3 hb3
           have P3 := Lib.hid (And.intro ho3 ((hT.out.2.alloc (.cells #[ci k] 3)).grown hg3 (fun k hk => (O1.out.lt k hk).1)))
           clear ho3 hg3 hb3 O1 X1 S1 B1 M1)
        | fail)
      go_roundw
      case measure => simp only [intOf]; omega
      case rel => exact ⟨k + 1, _, by omega, rfl, by go_num, by rw [upto_succ]; exact P3.out⟩
    · obtain rfl : k = n := by omega
      have H0 : Hid (Own wr w.heap.size 3 ci v5 (upto k) ∧ MB wr b s ∧ w.grownBy wr (some b)) := ⟨hT.out.1, HB.out.ext hT.out.2, hT.out.2.grownBy _⟩
      clear hT HB hk hlt
      go_wp2_with fail
      go_loopw [7, 8, 9] (fun i _ _ wx => ∃ (j : Nat) (l : List Int) (t : BitVec 64), j < k ∧ l.length = k ∧ i = .int .i64 j ∧ Hid (Own wx w.heap.size 3 ci v5 l ∧ MB wx b t ∧ w.grownBy wx (some b) ∧ shuf j l t = R)) (fun i _ _ _ => (intOf i).toNat)
      case atStart => exact ⟨k - 1, upto k, s, by have := H1.out; omega, upto_len k, by have := H1.out; go_num, H0.out.1, H0.out.2.1, H0.out.2.2, HR.out⟩
      case round =>
        clear H0 HR
        obtain ⟨j, l, t, hj, hl, rfl, hT⟩ := hrel
        have HL := Lib.hid hl
        cases j with
        | zero =>
          go_wp2_with fail
          go_ret
          have e := hT.out.2.2.2
          rw [shuf_zero] at e
          rw [← e]
          exact ⟨_, rfl, hT.out.1, hT.out.2.1, hT.out.2.2.1⟩
        | succ j =>
          have e := hT.out.2.2.2
          rw [shuf_succ] at e
          have He := Lib.hid e
          have hq := roll_lt t ((j : Int) + 1 + 1) (by omega) (by omega)
          have HR1 := Lib.hid (rroll_calls b t ((j : Int) + 1 + 1) (by omega) (by omega) wr hT.out.2.1.die)
          obtain ⟨t', ht'⟩ : ∃ x, (roll t (BitVec.ofInt 64 ((j : Int) + 1 + 1))).2 = x := ⟨_, rfl⟩
          obtain ⟨q, hq'⟩ : ∃ q : Nat, Bv (roll t (BitVec.ofInt 64 ((j : Int) + 1 + 1))).1 = (q : Int) := ⟨_, rfl⟩
          rw [hq'] at hq
          rw [hq', ht'] at HR1
          have hqn : (roll t (BitVec.ofInt 64 ((j : Int) + 1 + 1))).1.toNat = q := by rw [Bv_cast] at hq'; omega
          rw [hqn, ht'] at He
          have hqk : q < k := by omega
          have g5 : wr.grownBy (wr.setCell ⟨b, 0, none⟩ (.int .u64 (Bv t'))) (some b) := grown_set _ _ _ _
          have hne : v5.ownBlock ≠ some b := fun e => by have := (hT.out.1.lt _ e).1; have := HLB.out; omega
          have O5 := hT.out.1.kept g5 (Or.inr hne)
          have M5 : MB (wr.setCell ⟨b, 0, none⟩ (.int .u64 (Bv t'))) b t' := hT.out.2.1.next
          have G5 := Lib.hid (grown_trans hT.out.2.2.1 g5)
          obtain ⟨w5, hw5⟩ : ∃ x, wr.setCell ⟨b, 0, none⟩ (.int .u64 (Bv t')) = x := ⟨_, rfl⟩
          rw [hw5] at O5 M5 G5 HR1
          have hlo := fun k (h : v5.ownBlock = some k) => (hT.out.1.lt k h).1
          have HM5 := Lib.hid M5
          clear e ht' hq' hqn hq g5 M5 hw5 hT HL
          subst hl
          obtain ⟨qa, cc, rfl, hform⟩ := O5.form
          obtain ⟨g, rfl, hB, hgl, hc1, hf1, hs1⟩ := hform (j + 1) hj
          obtain ⟨g', hgg, _, _, hc2, _, _⟩ := hform q hqk
          injection hgg with hgg
          injection hgg with hgg _ _
          subst hgg
          have hgb : g ≠ b := fun e => hne (by rw [e]; rfl)
          have hxe : l.getD (j + 1) 0 = l[j + 1] := by rw [List.getD_eq_getElem?_getD, List.getElem?_eq_getElem hj]; rfl
          have hye : l.getD q 0 = l[q] := by rw [List.getD_eq_getElem?_getD, List.getElem?_eq_getElem hqk]; rfl
          have hsw : swp l (j + 1) q = (l.set (j + 1) l[q]).set q l[j + 1] := by unfold swp; rw [hxe, hye]
          rw [hsw] at He
          obtain ⟨x, hx⟩ : ∃ x, l[j + 1] = x := ⟨_, rfl⟩
          obtain ⟨y, hy⟩ : ∃ x, l[q] = x := ⟨_, rfl⟩
          have O6 := hs1 y
          rw [hx] at hc1 He
          rw [hy] at hc2 He
          obtain ⟨qb, cd, hvb, hform2⟩ := O6.form
          obtain ⟨g2, hg2, hB2, hgl2, hc3, hf3, hs3⟩ := hform2 q (by rw [List.length_set]; exact hqk)
          injection hvb with hvb1 hvb2 hvb3
          rw [← hvb1] at hg2
          injection hg2 with hg2
          injection hg2 with hg2 _ _
          subst hg2
          have O7 := Lib.hid (hs3 x)
          have G7 := Lib.hid (show w.grownBy ((w5.setCell ⟨g, j + 1, none⟩ (ci y)).setCell ⟨g, q, none⟩ (ci x)) (some b) from
            grown_set_new (grown_set_new G5.out hB _ _) hB _ _)
          have M7 := Lib.hid ((HM5.out.far ⟨g, j + 1, none⟩ (Ne.symm hgb) (ci y)).far ⟨g, q, none⟩ (Ne.symm hgb) (ci x))
          have HB := Lib.hid hB
          generalize (l.set (j + 1) y)[q]'(by rw [List.length_set]; exact hqk) = z at hc3
          clear hform hform2 hs1 hs3 hvb1 hvb2 hvb3 O5 O6 hxe hye hsw hx hy hB hB2 hne hlo HM5 hgb
          go_wp2_with (first
            | (go_at_call 43; refine HR1.out.mono ?_; clear HR1; rintro e w' ⟨rfl, rfl⟩)
            | fail)
          go_roundw
          case measure => simp only [intOf]; omega
          case rel => exact ⟨j, (l.set (j + 1) y).set q x, t', by omega, by rw [List.length_set, List.length_set], by go_num, O7.out, M7.out, G7.out, He.out⟩
end Go.Proofs.Ytaneknfhilfalaa
