/- Layer 7 (dice): the document's Pick; weights that were lent; nil dice. -/
import Derived.Test.YtaneknfhilfalaaK7b
import Derived.Test.YtaneknfhilfalaaL7g
import Derived.Deep.RegionHeld3
namespace Go.Proofs.Ytaneknfhilfalaa
open Go.RowKit
set_option linter.unusedVariables false

theorem chk_ne {ws : List Nat} {T : Nat} (hc : chk 0 ws = some T) (ht : totB T = true) : ws ≠ [] := fun h => by
  subst h
  rw [chk_nil] at hc
  have : T = 0 := (Option.some.inj hc).symm
  subst this
  rw [totB_good zero_good] at ht
  exact absurd (of_decide_eq_true ht).1 (by omega)
set_option maxHeartbeats 2000000 in
theorem rpick_calls (b : Nat) (s : BitVec 64) (wv : Value) (ws : List Nat) (w : World) (hd : MB w b s) (hw : Rd w cf wv ws) (hb : ∀ x ∈ ws, x < 18446744073709551616) (hm : ws.length * 8 ≤ 140737488351232) :
    Calls Try.prog 47 #[.pointer (some ⟨b, 0, none⟩), wv] w fun e w' => e = .returned (.tuple #[ci (pick ws s).1, ci (pick ws s).2.1]) ∧ MB w' b (pick ws s).2.2 ∧ w.grownBy w' (some b) := by
  have hm' : (ws.length : Int) ≤ 17592186043904 := by omega
  obtain ⟨ad, c, rfl, hat⟩ := hw.at
  have HW := Lib.hid hw
  have H51 := Lib.hid (rsums_calls _ ws w hw hb hm)
  have HD := Lib.hid hd
  have HB := Lib.hid hb
  cases hr : rt ws with
  | false =>
    rw [pick_bad s hr]
    have HR := Lib.hid hr
    clear hw hat hd hr hb hm
    go_enter Try.func47, Try.ntmps47
    go_wp2_with (first
      | (go_at_call 51; refine H51.out.mono ?_; rintro e w1 ⟨hres, he⟩
         have HE := Lib.hid he
         have hee : e = .returned (.tuple #[.slice none 0 0, .bool false]) := by
           rcases hres with ⟨_, h⟩ | ⟨h, _⟩
           · exact h
           · rw [HR.out] at h; cases h
         subst hee
         clear hres he)
      | fail)
    go_ret2
    exact ⟨rfl, HD.out.ext HE.out, HE.out.grownBy _⟩
  | true =>
    obtain ⟨T, hc, ht⟩ := rt_some hr
    have hne := chk_ne hc ht
    have hlen : 0 < ws.length := by
      cases ws with
      | nil => exact absurd rfl hne
      | cons _ _ => simp
    have hgT := (chk_good hb zero_good hc).1
    have hNN := chk_nn hb 0 T hc
    have hTf : num T := by
      rw [totB_good hgT] at ht
      have := of_decide_eq_true ht
      exact good_num' (by unfold good inf64 at hgT; omega)
    rw [pick_some s hc ht]
    have hlast := prefs_last ws 0 T hne hc
    rw [List.getLast?_eq_getElem?, prefs_len] at hlast
    have HLAST := Lib.hid hlast
    have HR := Lib.hid hr
    obtain ⟨hmu, hmg⟩ := fmul_eq (real_good (shr11_lt (mix (s + stride)))).1 (real_good (shr11_lt (mix (s + stride)))).2 hgT hTf
    have hmul := fun w => run_float_arith (P := Try.prog) w .mul 37 .f64 _ _ _ hmu
    have HRC := Lib.hid (fun w (h : MB w b s) => rreal_calls b s w h.die)
    generalize realW (mix (s + stride) >>> 11).toNat = r at *
    generalize hx : fmul r T = x at *
    obtain ⟨I, hI⟩ : ∃ I, scan x 0 0 0 ws = I := ⟨_, rfl⟩
    rw [hI]
    have HI := Lib.hid hI
    have HNN := Lib.hid hNN
    have HLEN := Lib.hid hlen
    have hlen' : (1 : Int) ≤ ws.length := by omega
    have hi1 : IntKind.i64.wrap ((ws.length : Int) - 1) = ((ws.length - 1 : Nat) : Int) := by
      simp only [IntKind.wrap, IntKind.bits, IntKind.signed]; simp; omega
    have hi2 : ws.length - 1 < ws.length := by omega
    have PG := Lib.hid (prefs_good ws 0 zero_good hNN)
    have hbne : Hid (∀ g c l, Own w w.heap.size 37 cf (.slice (some ⟨g, 0, none⟩) l c) [] → True) := fun _ _ _ _ => trivial
    clear hw hat hd hr hb hm hc ht hne hgT hNN hTf hlast hmu hmg hx hI hlen hbne
    go_enter Try.func47, Try.ntmps47
    go_wp2_with (first
      | (go_at_call 51; refine H51.out.mono ?_; rintro e w1 ⟨hres, he⟩
         have HE := Lib.hid he
         have hres2 : Hid (∃ g c, e = .returned (.tuple #[.slice (some ⟨g, 0, none⟩) ws.length c, .bool true]) ∧ HasRow w1 cf 37 g (prefs 0 ws) ∧ w.heap.size ≤ g) := by
           rcases hres with ⟨h, _⟩ | ⟨_, v, h1, h2⟩
           · rw [HR.out] at h; cases h
           · obtain ⟨g, c, hv, hB, hrow, _⟩ := h2.has (by rw [prefs_len]; exact HLEN.out)
             rw [prefs_len] at hv
             subst hv
             exact ⟨g, c, h1, hrow, hB⟩
         obtain ⟨g, cc, hee, hrow, hB⟩ := hres2.out
         subst hee
         have ROW := Lib.hid hrow
         have hgb : g ≠ b := by have := HD.out.lt; omega
         have K0 : w1.cell? ⟨g, ws.length - 1, none⟩ = some (cf T) := by
           have hl : ws.length - 1 < (prefs 0 ws).length := by rw [prefs_len]; omega
           rw [hrow.cell _ hl]
           have := HLAST.out
           rw [List.getElem?_eq_getElem hl] at this
           rw [Option.some.inj this]
         have M1 := Lib.hid (HD.out.ext he)
         have HG := Lib.hid hgb
         clear hres he hres2 hrow hB hgb)
      | fail)
    go_region_held3 (fun w' => w'.cell? ⟨g, ws.length - 1, none⟩ = some (cf T)) (first | exact K1 | exact K0)
      (first
        | (go_at_call 44; refine (HRC.out w1.drew (M1.out.ext (Ext.refl w1).drew)).mono ?_
           rintro e w2 ⟨rfl, hw2⟩
           have K1 : w2.cell? ⟨g, ws.length - 1, none⟩ = some (cf T) := by
             rw [← hw2, World.cell?_setCell_far _ _ _ _ (Ne.symm HG.out)]; exact K0
           have M2 : Hid (MB w2 b (s + stride) ∧ w.grownBy w2 (some b) ∧ HasRow w2 cf 37 g (prefs 0 ws)) := by
             have hg : w1.drew.grownBy (w1.drew.setCell ⟨b, 0, none⟩ (.int .u64 (Bv (s + stride)))) (some b) := grown_set _ _ _ _
             rw [← hw2]
             exact ⟨MB.next (M1.out.ext (Ext.refl w1).drew), grown_trans (HE.out.drew.grownBy _) hg, (ROW.out.ext (Ext.refl w1).drew).far _ HG.out _⟩
           clear hw2))
    have HATW := Lib.hid (show ∀ i, (hi : i < ws.length) → ∃ b o, ad = some ⟨b, o, none⟩ ∧ w2.cell? ⟨b, o + i, none⟩ = some (cf ws[i]) from fun i hi => by
      have hrd : Rd w cf (.slice ad ws.length c) ws := HW.out
      obtain ⟨ad2, c2, hv, hat⟩ := hrd.at
      injection hv with hv1 _ _
      subst hv1
      obtain ⟨b', o', h1, h2⟩ := hat i hi
      refine ⟨b', o', h1, ?_⟩
      have hlt := World.block_lt_of_cell? w _ h2
      have hne : b' ≠ b := fun e => by
        subst e
        have h3 := HD.out.cell (o' + i)
        rw [h2] at h3
        match o' + i, h3 with
        | 0, h3 => cases h3
        | n + 1, h3 => simp at h3
      have hb := M2.out.2.1.block b' hlt (fun e => hne (Option.some.inj e))
      unfold World.cell? at h2 ⊢
      rw [hb]; exact h2)
    clear K0 K1 M1 ROW HRC H51 hmul hi1 HW HE HLAST
    go_wp2_with fail
    go_loop [9, 10] (fun l i => ∃ (k S : Nat) (a : Int), k ≤ ws.length ∧ i = .int .i64 k ∧ l = ci a ∧ Hid (good S ∧ scan x S a k (ws.drop k) = I ∧ prefs S (ws.drop k) = (prefs 0 ws).drop k)) (fun _ i => ws.length - (intOf i).toNat)
    case atStart => exact ⟨0, 0, 0, by omega, rfl, rfl, zero_good, by rw [List.drop_zero]; exact HI.out, by rw [List.drop_zero, List.drop_zero]⟩
    case round =>
      clear HI
      obtain ⟨k, S, a, hk, rfl, rfl, hT⟩ := hrel
      by_cases hlt : k < ws.length
      · obtain ⟨b1, o1, rfl, hc⟩ := HATW.out k hlt
        have hpl : k < (prefs 0 ws).length := by rw [prefs_len]; exact hlt
        have hcs := M2.out.2.2.cell k hpl
        have hpr := hT.out.2.2
        have hst := hT.out.2.1
        rw [dropcons hlt, prefs_cons, dropcons hpl] at hpr
        rw [dropcons hlt, scan_cons] at hst
        injection hpr with hp1 hp2
        rw [← hp1] at hcs
        have hxn := HNN.out ws[k] (List.getElem_mem _)
        have HGZ := Lib.hid (fadd_good hT.out.1 hxn)
        generalize ws[k] = v at *
        generalize fadd S v = y at *
        have HST := Lib.hid hst
        have HPR := Lib.hid hp2
        clear hst hp1 hp2 hxn hT hpl
        cases hgt : gtB y x with
        | true =>
          have hI : Hid (I = (k : Int)) := by show _ = _; have := HST.out; rw [hgt] at this; simpa using this.symm
          rw [gtB_eq] at hgt
          go_wp2_with fail
          go_ret2
          exact ⟨by rw [hI.out]; rfl, M2.out.1, M2.out.2.1⟩
        | false =>
          have hs2 : Hid (scan x y (if gtB v 0 = true then (k : Int) else a) (k + 1) (ws.drop (k + 1)) = I) := by show _ = _; have := HST.out; rw [hgt] at this; simpa using this
          rw [gtB_eq] at hgt
          cases hg0 : gtB v 0 with
          | true =>
            rw [hg0] at hs2
            rw [gtB_eq] at hg0
            go_wp2_with fail
            go_round
            case measure => simp only [intOf]; omega
            case rel => exact ⟨k + 1, y, k, by omega, by go_num, rfl, HGZ.out, by have := hs2.out; simpa using this, HPR.out⟩
          | false =>
            rw [hg0] at hs2
            rw [gtB_eq] at hg0
            go_wp2_with fail
            go_round
            case measure => simp only [intOf]; omega
            case rel => exact ⟨k + 1, y, a, by omega, by go_num, rfl, HGZ.out, by have := hs2.out; simpa using this, HPR.out⟩
      · obtain rfl : ws.length = k := by omega
        have hI : Hid (I = a) := by show _ = _; have := hT.out.2.1; rw [List.drop_length, scan_nil] at this; exact this.symm
        go_wp2_with fail
        go_ret2
        exact ⟨by rw [hI.out]; rfl, M2.out.1, M2.out.2.1⟩
theorem kept_calls (g c : Nat) (sv : Value) (l : List (BitVec 64)) (w : World) (hg : HasRow w cf 37 g (bitsOf l ++ [13842939354630062080])) (hc : l.length + 1 ≤ c) (hcm : c ≤ maxLen) (hl : Rd w cw sv l) :
    Calls Try.prog 48 #[.slice (some ⟨g, 0, none⟩) l.length c, sv] w fun e w' => e = .returned (.bool true) ∧ ∃ n, w.drewN n = w' := by
  have htb := tobits
  have hne : (FloatKind.f64.format.order 13842939354630062080 13842939354630062080 != some .eq) = false := by kernel_rfl
  obtain ⟨ad, c', rfl, hat⟩ := hl.at
  have HA := Lib.hid hat
  have hlast : w.cell? ⟨g, l.length, none⟩ = some (cf 13842939354630062080) := by
    have h := hg.cell l.length (by simp [bitsOf_len])
    rw [h]; simp [bitsOf_len]
  have HG : Hid (∀ i, (hi : i < l.length) → w.cell? ⟨g, i, none⟩ = some (cf (l[i]).toNat)) := fun i hi => by
    rw [hg.cell i (by simp [bitsOf_len]; omega), List.getElem_append_left (by rw [bitsOf_len]; exact hi)]
    simp [bitsOf]
  have hc1 : (l.length : Int) + 1 ≤ c := by omega
  have hc2 : (c : Int) ≤ 9223372036854775807 := by simp only [maxLen] at hcm; omega
  have hlm' : (l.length : Int) + 1 ≤ 9223372036854775807 := by omega
  clear hat hl hg hc hcm
  go_enter Try.func48, Try.ntmps48
  go_wp2_with fail
  go_loopw [6] (fun i wr => ∃ (k n : Nat), k ≤ l.length ∧ i = .int .i64 k ∧ wr = w.drewN n) (fun i _ => (l.length - (intOf i).toNat))
  case atStart => exact ⟨0, 0, by omega, rfl, rfl⟩
  case round =>
    obtain ⟨k, n, hk, rfl, rfl⟩ := hrel
    by_cases hlt : k < l.length
    · obtain ⟨b, o, rfl, h1⟩ := HA.out k hlt
      have h2 := HG.out k hlt
      generalize l[k] = x at *
      have hbv : ((x.toNat : Int) != Bv x) = false := by unfold Bv; simp
      go_wp2_with fail
      go_quiet (fail)
      go_wp2_with fail
      go_roundw
      case measure => simp only [intOf]; omega
      case rel => exact ⟨k + 1, _, by omega, by go_num, rfl⟩
    · obtain rfl : l.length = k := by omega
      go_wp2_with fail
      go_ret
      exact ⟨rfl, _, rfl⟩
/- nil dice -/
theorem state_nil (w : World) : Calls Try.prog 22 #[.pointer none] w fun e w' => e = .returned (.int .u64 0) ∧ w = w' := by
  go_enter Try.func22, Try.ntmps22
  go_wp2_with fail
  go_ret
  exact ⟨rfl, rfl⟩
theorem rstate_nil (w : World) : Calls Try.prog 40 #[.pointer none] w fun e w' => e = .returned (.int .u64 0) ∧ w = w' := by
  go_enter Try.func40, Try.ntmps40
  go_wp2_with fail
  go_ret
  exact ⟨rfl, rfl⟩
theorem next_nil (w : World) : Calls Try.prog 20 #[.pointer none] w fun e w' => e = .returned (.int .u64 0) ∧ w = w' := by
  go_enter Try.func20, Try.ntmps20
  go_wp2_with fail
  go_ret
  exact ⟨rfl, rfl⟩
theorem rnext_nil (w : World) : Calls Try.prog 41 #[.pointer none] w fun e w' => e = .returned (.int .u64 0) ∧ w = w' := by
  go_enter Try.func41, Try.ntmps41
  go_wp2_with fail
  go_ret
  exact ⟨rfl, rfl⟩
theorem jump_nil (n : BitVec 64) (w : World) : Calls Try.prog 28 #[.pointer none, .int .u64 (Bv n)] w fun e w' => e = .returned (.tuple #[]) ∧ w = w' := by
  go_enter Try.func28, Try.ntmps28
  go_wp2_with fail
  go_end0
  exact ⟨rfl, rfl⟩
theorem rjump_nil (n : BitVec 64) (w : World) : Calls Try.prog 42 #[.pointer none, .int .u64 (Bv n)] w fun e w' => e = .returned (.tuple #[]) ∧ w = w' := by
  go_enter Try.func42, Try.ntmps42
  go_wp2_with fail
  go_end0
  exact ⟨rfl, rfl⟩
theorem roll_nil (n : Int) (w : World) : Calls Try.prog 23 #[.pointer none, ci n] w fun e w' => e = .returned (ci 0) ∧ w = w' := by
  go_enter Try.func23, Try.ntmps23
  go_wp2_with fail
  go_ret
  exact ⟨rfl, rfl⟩
theorem rroll_nil (n : Int) (w : World) : Calls Try.prog 43 #[.pointer none, ci n] w fun e w' => e = .returned (ci 0) ∧ w = w' := by
  go_enter Try.func43, Try.ntmps43
  go_wp2_with fail
  go_ret
  exact ⟨rfl, rfl⟩
theorem roll_low (b : Nat) (n : Int) (hn : n < 1) (w : World) : Calls Try.prog 23 #[.pointer (some ⟨b, 0, none⟩), ci n] w fun e w' => e = .returned (ci 0) ∧ w = w' := by
  have t1 : decide (n < 1) = true := decide_eq_true hn
  go_enter Try.func23, Try.ntmps23
  go_wp2_with fail
  go_ret
  exact ⟨rfl, rfl⟩
theorem rroll_low (b : Nat) (n : Int) (hn : n < 1) (w : World) : Calls Try.prog 43 #[.pointer (some ⟨b, 0, none⟩), ci n] w fun e w' => e = .returned (ci 0) ∧ w = w' := by
  have t1 : decide (n < 1) = true := decide_eq_true hn
  go_enter Try.func43, Try.ntmps43
  go_wp2_with fail
  go_ret
  exact ⟨rfl, rfl⟩
theorem shuffle_nil (n : Int) (w : World) : Calls Try.prog 29 #[.pointer none, ci n] w fun e w' => e = .returned (.slice none 0 0) ∧ w = w' := by
  go_enter Try.func29, Try.ntmps29
  go_wp2_with fail
  go_ret
  exact ⟨rfl, rfl⟩
theorem rshuffle_nil (n : Int) (w : World) : Calls Try.prog 46 #[.pointer none, ci n] w fun e w' => e = .returned (.slice none 0 0) ∧ w = w' := by
  go_enter Try.func46, Try.ntmps46
  go_wp2_with fail
  go_ret
  exact ⟨rfl, rfl⟩
theorem pick_nil (v : Value) (w : World) : Calls Try.prog 31 #[.pointer none, v] w fun e w' => e = .returned (.tuple #[ci 0, ci 1]) ∧ w = w' := by
  go_enter Try.func31, Try.ntmps31
  go_wp2_with fail
  go_ret2
  exact ⟨rfl, rfl⟩
theorem rpick_nil (v : Value) (w : World) : Calls Try.prog 47 #[.pointer none, v] w fun e w' => e = .returned (.tuple #[ci 0, ci 1]) ∧ w = w' := by
  go_enter Try.func47, Try.ntmps47
  go_wp2_with fail
  go_ret2
  exact ⟨rfl, rfl⟩
theorem rreal_nil (w : World) : Calls Try.prog 44 #[.pointer none] w fun e w' => e = .returned (.float .f64 0) ∧ w = w' := by
  go_enter Try.func44, Try.ntmps44
  go_wp2_with fail
  go_ret
  exact ⟨rfl, rfl⟩
theorem real_nil (w : World) : Calls Try.prog 27 #[.pointer none] w fun e w' => e = .returned (.float .f64 0) ∧ w = w' := by
  have H := Lib.hid (next_nil w)
  have hcv : ∀ w, (convert 22 37 (.int .u64 0)).run Try.prog w = .ok (.float .f64 0) w := fun w => by
    rw [run_convert_int_float (P := Try.prog) w 22 37 .u64 .f64 0 (by kernel_rfl) (by kernel_rfl)]
    rw [show floatOfInt .f64 0 = 0 by kernel_rfl]
  have hm := fun w => run_float_arith (P := Try.prog) w .mul 37 .f64 0 4368491638549381120 0 (by kernel_rfl)
  go_enter Try.func27, Try.ntmps27
  go_wp2_with (first
    | (go_at_call 20; refine H.out.mono ?_; rintro e w' ⟨rfl, rfl⟩)
    | fail)
  go_ret
  exact ⟨rfl, rfl⟩
end Go.Proofs.Ytaneknfhilfalaa
