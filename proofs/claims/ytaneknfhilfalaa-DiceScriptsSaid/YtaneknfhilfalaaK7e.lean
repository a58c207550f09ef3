/- Layer 7 (dice): steps of a script, by both: shuffles, picks; nil dice; every step. -/
import Derived.Test.YtaneknfhilfalaaK7d
namespace Go.Proofs.Ytaneknfhilfalaa
open Go.RowKit
set_option linter.unusedVariables false

theorem rd_nil {α : Type} {w : World} {f : α → Value} : Rd w f (.slice none 0 0) [] := Or.inl ⟨_, _, rfl, rfl, fun _ => rfl⟩
set_option maxHeartbeats 1000000 in
theorem step_shuffle {w : World} {g m : Nat} {s : BitVec 64} (hd : DB w g s) (hm : MB w m s) (wh n : Int) (far : BitVec 64) (a : Option Addr) (ln c : Nat) (hn : -9223372036854775808 ≤ n ∧ n ≤ 9223372036854775807) :
    Calls Try.prog 35 #[.pointer (some ⟨g, 0, none⟩), .pointer (some ⟨m, 0, none⟩), .agg #[ci 6, ci wh, ci n, cw far, .slice a ln c]] w fun e w' => e = .returned (.bool true) ∧ Aft w w' g m := by
  have hx := Ext.of_alloc (w := w) (.cells #[ci 6, ci wh, ci n, cw far, .slice a ln c] 62)
  have HX := Lib.hid hx
  have D1 := Lib.hid (hd.ext hx)
  have M1 := Lib.hid (hm.ext hx)
  have NE := Lib.hid (dm_ne hd hm)
  have hbx := Blk.new w #[ci 6, ci wh, ci n, cw far, .slice a ln c] 62
  have hbl : g ≠ w.heap.size ∧ m ≠ w.heap.size := by have := hd.lt; have := hm.lt; omega
  have HBL := Lib.hid hbl
  have HBX := Lib.hid hbx
  clear hx hd hm hbx hbl
  by_cases h0 : n < 1 ∨ 65536 < n
  · have t1 : (decide (300 < n) = true ∧ decide (n ≤ 65536) = false) ∨ decide (300 < n) = false := by
      rcases h0 with h | h
      · exact Or.inr (decide_eq_false (by omega))
      · exact Or.inl ⟨decide_eq_true (by omega), decide_eq_false (by omega)⟩
    have S1 := Lib.hid (fun w => rshuffle_none m s n h0 w)
    have S2 := Lib.hid (fun w h => shuffle_none g s n h0 w h)
    have T1 := Lib.hid (fun w => same_calls (.slice none 0 0) (.slice none 0 0) [] [] w rd_nil rd_nil (by simp) (by simp))
    rw [show decide (([] : List Int) = []) = true by simp] at T1
    clear h0 hn
    rcases t1 with ⟨t1, t2⟩ | t1
    all_goals
      go_enter Try.func35, Try.ntmps35
      go_wp2_with (first
        | (go_at_call 46; refine (S1.out _).mono ?_; rintro e w2 ⟨rfl, rfl⟩)
        | (go_at_call 29; refine (S2.out _ (DB.die D1.out)).mono ?_; rintro e w2 ⟨rfl, rfl⟩)
        | (go_at_call 36; refine (T1.out _).mono ?_; rintro e w2 ⟨rfl, k2, hw2⟩
           have X2 := Lib.hid (show Ext (w.alloc (.cells #[ci 6, ci wh, ci n, cw far, .slice a ln c] 62)) w2 by rw [← hw2]; exact (Ext.refl _).drewN k2)
           clear hw2)
        | fail)
      go_loopw [14] (fun iv wx => iv = ci 0 ∧ wx = w2) (fun iv _ => 0)
      case atStart => exact ⟨rfl, rfl⟩
      case round =>
        obtain ⟨rfl, rfl⟩ := hrel
        go_wp2_with fail
        go_ret
        exact ⟨rfl, s, Blk.ext D1.out X2.out, Blk.ext M1.out X2.out, Kp.of_ext (HX.out.trans X2.out)⟩
  · by_cases h3 : 300 < n
    · have t1 : decide (300 < n) = true := decide_eq_true h3
      have t2 : decide (n ≤ 65536) = true := decide_eq_true (by omega)
      clear h0 h3 hn
      go_enter Try.func35, Try.ntmps35
      go_wp2_with fail
      go_ret
      exact ⟨rfl, s, D1.out, M1.out, Kp.of_ext HX.out⟩
    · have t1 : decide (300 < n) = false := decide_eq_false h3
      obtain ⟨N, rfl⟩ : ∃ N : Nat, n = (N : Int) := ⟨n.toNat, by omega⟩
      have hN1 : 1 ≤ N := by omega
      have hN2 : N ≤ 300 := by omega
      have hN3 : (N : Int) ≤ 300 := by omega
      have S1 := Lib.hid (fun w h => rshuffle_calls m s N hN1 (by omega) w h)
      have S2 := Lib.hid (fun w h => shuffle_own g s N hN1 (by omega) w h)
      have hl1 : (shuf (N - 1) (upto N) s).1.length = N := shuf_len N s hN1 (by omega)
      obtain ⟨L, hL⟩ : ∃ x, (shuf (N - 1) (upto N) s).1 = x := ⟨_, rfl⟩
      obtain ⟨s2, hs2⟩ : ∃ x, (shuf (N - 1) (upto N) s).2 = x := ⟨_, rfl⟩
      rw [hL] at hl1 S1 S2
      rw [hs2] at S1 S2
      have HL := Lib.hid hl1
      have HN2 := Lib.hid hN2
      clear h0 h3 hn hL hs2 hl1 hN1 hN2
      go_enter Try.func35, Try.ntmps35
      go_wp2_with (first
        | (go_at_call 46; refine (S1.out _ M1.out).mono ?_; rintro e w2 ⟨v, rfl, ho, hm2, hg2⟩
           have c2 : w2.cell? ⟨w.heap.size, 2, none⟩ = some (ci N) := by
             have hb : Blk w2 w.heap.size _ 62 := HBX.out.grown hg2 (fun e => HBL.out.2 (Option.some.inj e).symm)
             exact hb.cell 2
           have D2 := Lib.hid (Blk.grown D1.out hg2 (fun e => NE.out (Option.some.inj e)))
           have M2 := Lib.hid hm2
           have O2 := Lib.hid ho
           have K2 : Hid (Kp w w2 g m) := (Kp.of_ext HX.out).trans (Kp.of_grown2 hg2)
           clear hm2 hg2 ho)
        | (go_at_call 29; refine (S2.out _ D2.out).mono ?_; rintro e w3 ⟨rfl, hd3, hb3, hg3, hz3⟩
           obtain ⟨D, hD⟩ : ∃ x, w2.heap.size = x := ⟨_, rfl⟩
           have D3 := Lib.hid hd3
           have M3 := Lib.hid (Blk.grown M2.out hg3 (fun e => NE.out (Option.some.inj e).symm))
           have O3 := Lib.hid (O2.out.kept hg3 (Or.inr (Ne.symm (O2.out.type D2.out (by decide)))))
           have K3 : Hid (Kp w w3 g m) := K2.out.trans (Kp.of_grown1 hg3)
           have gD := Lib.hid (show g ≠ D by rw [← hD]; exact Nat.ne_of_lt (Blk.lt D2.out))
           have mD := Lib.hid (show m ≠ D by rw [← hD]; exact Nat.ne_of_lt (Blk.lt M2.out))
           have loD := Lib.hid (show w.heap.size ≤ D by rw [← hD]; exact K2.out.size)
           have B3 : Hid (Blk w3 D (V ci L) 3) := by rw [← hD]; exact hb3
           rw [hD]
           have T1 := Lib.hid (same_calls v (.slice (some ⟨D, 0, none⟩) N N) L L w3 O3.out.rd (B3.out.whole' HL.out.symm) (by rw [HL.out]; have := HN2.out; omega) (by rw [HL.out]; have := HN2.out; omega))
           rw [show decide (L = L) = true by simp] at T1
           clear hd3 hb3 hg3 hz3 hD D2 M2 O2 K2 c2)
        | (go_at_call 36; refine T1.out.mono ?_; clear T1; rintro e w4 ⟨rfl, k4, hw4⟩
           have x4 : Ext w3 w4 := by rw [← hw4]; exact (Ext.refl _).drewN k4
           have P4 : Hid (DB w4 g s2 ∧ MB w4 m s2 ∧ Kp w w4 g m ∧ Blk w4 D (V ci L) 3) := ⟨Blk.ext D3.out x4, Blk.ext M3.out x4, K3.out.trans (Kp.of_ext x4), B3.out.ext x4⟩
           clear hw4 x4 D3 M3 O3 K3 B3)
        | fail)
      go_loopw [14] (fun iv wx => ∃ (k : Nat) (l : List Int), k ≤ N ∧ iv = ci k ∧ Hid (DB wx g s2 ∧ MB wx m s2 ∧ Kp w wx g m ∧ Blk wx D (V ci l) 3 ∧ l.length = N)) (fun iv _ => (N - (intOf iv).toNat))
      case atStart => exact ⟨0, L, by omega, rfl, P4.out.1, P4.out.2.1, P4.out.2.2.1, P4.out.2.2.2, HL.out⟩
      case round =>
        clear P4
        obtain ⟨k, l, hk, rfl, hT⟩ := hrel
        by_cases hlt : k < N
        · have hkl : k < l.length := by rw [hT.out.2.2.2.2]; exact hlt
          have hc : wr.cell? ⟨D, k, none⟩ = some (ci l[k]) := by rw [hT.out.2.2.2.1.cell, V_get, List.getElem?_eq_getElem hkl]; rfl
          have hf := hT.out.2.2.2.1.free k
          have HS : Hid (DB (wr.setCell ⟨D, k, none⟩ (ci (-1))) g s2 ∧ MB (wr.setCell ⟨D, k, none⟩ (ci (-1))) m s2 ∧ Kp w (wr.setCell ⟨D, k, none⟩ (ci (-1))) g m ∧ Blk (wr.setCell ⟨D, k, none⟩ (ci (-1))) D (V ci (l.set k (-1))) 3 ∧ (l.set k (-1)).length = N) := by
            refine ⟨Blk.far hT.out.1 ⟨D, k, none⟩ gD.out _, Blk.far hT.out.2.1 ⟨D, k, none⟩ mD.out _, ?_, ?_, by rw [List.length_set]; exact hT.out.2.2.2.2⟩
            · have hs := grown_set wr D k (ci (-1))
              have h := hT.out.2.2.1
              exact ⟨hs.os.trans h.os, hs.tape.trans h.tape, hs.output.trans h.output, Nat.le_trans h.size hs.size, fun j hj h1 h2 => (hs.block j (Nat.lt_of_lt_of_le hj h.size) (fun e => by have := Option.some.inj e; have := loD.out; omega)).trans (h.block j hj h1 h2)⟩
            · have := hT.out.2.2.2.1.set k (ci (-1))
              rw [V_set] at this; exact this
          generalize l[k] = y at hc
          clear hkl
          go_wp2_with fail
          go_roundw
          case measure => simp only [intOf]; omega
          case rel => exact ⟨k + 1, _, by omega, by go_num, HS.out⟩
        · obtain rfl : N = k := by omega
          go_wp2_with fail
          go_ret
          exact ⟨rfl, s2, hT.out.1, hT.out.2.1, hT.out.2.2.1⟩
set_option maxHeartbeats 1000000 in
theorem step_pick {w0 w : World} {g m : Nat} {s : BitVec 64} (h0 : Ext w0 w) (hg0 : w0.heap.size ≤ g) (hm0 : w0.heap.size ≤ m) (hd : DB w g s) (hm : MB w m s) (wh n : Int) (far : BitVec 64) (a : Option Addr) (c : Nat) (l : List (BitVec 64)) (hl : Rd w0 cw (.slice a l.length c) l) (hlm : l.length * 8 ≤ 140737488351232) :
    Calls Try.prog 35 #[.pointer (some ⟨g, 0, none⟩), .pointer (some ⟨m, 0, none⟩), .agg #[ci 7, ci wh, ci n, cw far, .slice a l.length c]] w fun e w' => e = .returned (.bool true) ∧ Aft w w' g m := by
  have hx := Ext.of_alloc (w := w) (.cells #[ci 7, ci wh, ci n, cw far, .slice a l.length c] 62)
  have HX := Lib.hid hx
  have H0 := Lib.hid h0
  have D1 := Lib.hid (hd.ext hx)
  have M1 := Lib.hid (hm.ext hx)
  have NE := Lib.hid (dm_ne hd hm)
  have HGM := Lib.hid (And.intro hg0 hm0)
  have hbx := Blk.new w #[ci 7, ci wh, ci n, cw far, .slice a l.length c] 62
  have hbl : g ≠ w.heap.size ∧ m ≠ w.heap.size := by have := hd.lt; have := hm.lt; omega
  have HBL := Lib.hid hbl
  have HBX := Lib.hid hbx
  have HL := Lib.hid hl
  have HF := Lib.hid (fun w (h : Rd w cw (.slice a l.length c) l) => floats_calls _ l w h hlm)
  have hbw : ∀ x ∈ bitsOf l, x < 18446744073709551616 := bitsOf_lt
  have HP1 : Hid (∀ wv w, MB w m s → Rd w cf wv (bitsOf l) → Calls Try.prog 47 #[.pointer (some ⟨m, 0, none⟩), wv] w fun e w' => e = .returned (.tuple #[ci (pick (bitsOf l) s).1, ci (pick (bitsOf l) s).2.1]) ∧ MB w' m (pick (bitsOf l) s).2.2 ∧ w.grownBy w' (some m)) :=
    fun wv w h1 h2 => rpick_calls m s wv _ w h1 h2 hbw (by rw [bitsOf_len]; exact hlm)
  have HP2 : Hid (∀ wv w, DB w g s → Rd w cf wv (bitsOf l) → Calls Try.prog 31 #[.pointer (some ⟨g, 0, none⟩), wv] w fun e w' => e = .returned (.tuple #[ci (pick (bitsOf l) s).1, ci (pick (bitsOf l) s).2.1]) ∧ DB w' g (pick (bitsOf l) s).2.2 ∧ w.grownBy w' (some g)) :=
    fun wv w h1 h2 => pick_own g s wv _ w h1 h2 hbw (by rw [bitsOf_len]; omega)
  obtain ⟨⟨p1, p2, s2⟩, hp⟩ : ∃ x, pick (bitsOf l) s = x := ⟨_, rfl⟩
  rw [hp] at HP1 HP2
  have HQ1 : Hid (∀ wv w, MB w m s → Rd w cf wv (bitsOf l) → Calls Try.prog 47 #[.pointer (some ⟨m, 0, none⟩), wv] w fun e w' => e = .returned (.tuple #[ci p1, ci p2]) ∧ MB w' m s2 ∧ w.grownBy w' (some m)) := HP1.out
  have HQ2 : Hid (∀ wv w, DB w g s → Rd w cf wv (bitsOf l) → Calls Try.prog 31 #[.pointer (some ⟨g, 0, none⟩), wv] w fun e w' => e = .returned (.tuple #[ci p1, ci p2]) ∧ DB w' g s2 ∧ w.grownBy w' (some g)) := HP2.out
  clear hx hd hm hbx hbl h0 hg0 hm0 hl hlm hbw hp HP1 HP2
  have F1 := Lib.hid (HF.out _ ((H0.out.trans HX.out).rd HL.out))
  go_enter Try.func35, Try.ntmps35
  go_wp2_with (first
    | (go_at_call 30; refine F1.out.mono ?_; clear F1; rintro e w2 ⟨g0, c0, rfl, -, -, -, -, hh, he⟩
       have D2 := Lib.hid (Blk.ext D1.out he)
       have BX2 := Lib.hid (HBX.out.ext he)
       have E2 := Lib.hid (HX.out.trans he)
       have P2 := Lib.hid (HQ1.out (.slice (some ⟨g0, 0, none⟩) l.length c0) w2 (Blk.ext M1.out he) (hh.rd (bitsOf_len l).symm))
       clear hh he)
    | (go_at_call 47; refine P2.out.mono ?_; clear P2; rintro e w3 ⟨rfl, hm3, hg3⟩
       have c3 : w3.cell? ⟨w.heap.size, 4, none⟩ = some (.slice a l.length c) := by
         have hb : Blk w3 w.heap.size _ 62 := BX2.out.grown hg3 (fun e => HBL.out.2 (Option.some.inj e).symm)
         exact hb.cell 4
       have BX3 := Lib.hid (BX2.out.grown hg3 (fun e => HBL.out.2 (Option.some.inj e).symm))
       have D3 := Lib.hid (Blk.grown D2.out hg3 (fun e => NE.out (Option.some.inj e)))
       have M3 := Lib.hid hm3
       have K3 : Hid (Kp w w3 g m) := (Kp.of_ext E2.out).trans (Kp.of_grown2 hg3)
       have F3 := Lib.hid (HF.out w3 ((H0.out.kp K3.out HGM.out.1 HGM.out.2).rd HL.out))
       clear hm3 hg3 D2 BX2 E2)
    | (go_at_call 30; refine F3.out.mono ?_; clear F3; rintro e w4 ⟨g1, c1, rfl, hc1, hc2, -, -, hh, he⟩
       have M4 := Lib.hid (Blk.ext M3.out he)
       have BX4 := Lib.hid (BX3.out.ext he)
       have K4 : Hid (Kp w w4 g m) := K3.out.trans (Kp.of_ext he)
       have R4 := Lib.hid hh
       have CC := Lib.hid (And.intro hc1 hc2)
       have D4 := Lib.hid (Blk.ext D3.out he)
       have P4 := Lib.hid (HQ2.out (.slice (some ⟨g1, 0, none⟩) l.length c1) w4 D4.out (hh.rd (bitsOf_len l).symm))
       clear hh he hc1 hc2 D3 M3 BX3 K3 c3)
    | (go_at_call 31; refine P4.out.mono ?_; clear P4; rintro e w5 ⟨rfl, hd5, hg5⟩
       have c5 : w5.cell? ⟨w.heap.size, 4, none⟩ = some (.slice a l.length c) := by
         have hb : Blk w5 w.heap.size _ 62 := BX4.out.grown hg5 (fun e => HBL.out.1 (Option.some.inj e).symm)
         exact hb.cell 4
       have D5 := Lib.hid hd5
       have M5 := Lib.hid (Blk.grown M4.out hg5 (fun e => NE.out (Option.some.inj e).symm))
       have K5 : Hid (Kp w w5 g m) := K4.out.trans (Kp.of_grown1 hg5)
       have R5 := Lib.hid (R4.out.grown hg5 (fun e => R4.out.neD D4.out (by decide) (Option.some.inj e).symm))
       have T5 := Lib.hid (kept_calls g1 c1 (.slice a l.length c) l w5 R5.out CC.out.1 CC.out.2 ((H0.out.kp K5.out HGM.out.1 HGM.out.2).rd HL.out))
       clear hd5 hg5 D4 M4 BX4 K4 R4)
    | (go_at_call 48; refine T5.out.mono ?_; clear T5; rintro e w6 ⟨rfl, k6, hw6⟩
       have x6 : Ext w5 w6 := by rw [← hw6]; exact (Ext.refl _).drewN k6
       have P6 : Hid (DB w6 g s2 ∧ MB w6 m s2 ∧ Kp w w6 g m) := ⟨Blk.ext D5.out x6, Blk.ext M5.out x6, K5.out.trans (Kp.of_ext x6)⟩
       clear hw6 x6)
    | fail)
  go_ret
  exact ⟨rfl, s2, P6.out.1, P6.out.2.1, P6.out.2.2⟩
end Go.Proofs.Ytaneknfhilfalaa
