/- Layer 9 (load): the reference's row, sum, mean, spread, top: what the meter has. -/
import Derived.Test.YtjgdeijodjihlaaR9a
import Derived.Deep.RegionHeld3
namespace Go.Proofs.Ytjgdeijodjihlaa
open Go.RowKit
set_option linter.unusedVariables false

/-- the reference's meter at r, beside the meter m that halves as it goes -/
structure Rm (w : World) (r : Nat) (m : Mt) (av : Value) (A : List Ht) : Prop where
  b : RB w r m.L.length m.half m.now av A
  rl : Rl m A
  ok : m.ok
  len : A.length + 1 < 5000000000000
  sh : ∀ h ∈ A, 0 ≤ h.1 ∧ h.1 < m.L.length
  bl : ∀ x ∈ m.L, bd 83 x
theorem Rm.ext {w w' : World} {r : Nat} {m : Mt} {av : Value} {A : List Ht} (h : Rm w r m av A) (e : Ext w w') : Rm w' r m av A := ⟨h.b.ext e, h.rl, h.ok, h.len, h.sh, h.bl⟩
theorem vOf_none (s : Int) : ∀ (A : List Ht) (p : Nat × Nat), (∀ h ∈ A, h.1 ≠ s) → vOf s p A = p
  | [], p, _ => rfl
  | h :: r, p, hn => by
    rw [vOf_cons]
    have e : stp s p h = p := by unfold stp; rw [if_neg (hn h (List.mem_cons_self ..))]
    rw [e]
    exact vOf_none s r p fun x hx => hn x (List.mem_cons_of_mem _ hx)
theorem Rm.of {w : World} {r : Nat} {m : Mt} {av : Value} {A : List Ht} (h : Rm w r m av A) (s : Int) : ofA A s (m.now / m.half) = ofP m s := by
  unfold ofP
  by_cases hs : 0 ≤ s ∧ s < m.L.length
  · rw [if_pos hs, h.rl.l s.toNat (by omega), Int.toNat_of_nonneg hs.1]
  · rw [if_neg hs]
    unfold ofA
    rw [vOf_none s A (0, 0) fun x hx e => hs (by have := h.sh x hx; omega), halves_nil]
theorem rofP_calls (r : Nat) (m : Mt) (av : Value) (A : List Ht) (s : Int) (W : World) (h : Rm W r m av A) :
    Calls Try.prog 36 #[.pointer (some ⟨r, 0, none⟩), ci s] W fun e w' => e = .returned (cf (ofP m s)) ∧ ∃ n, W.drewN n = w' := by
  rw [← h.of s]
  exact rof_calls r _ _ _ av A s W h.b h.rl.a h.ok.h1 h.ok.n1 (Nat.lt_trans h.len (by omega))
theorem ofP_at (m : Mt) (k : Nat) (hk : k < m.L.length) : ofP m (k : Int) = m.L[k] := by
  unfold ofP
  rw [if_pos ⟨by omega, by omega⟩, Int.toNat_natCast, List.getD_eq_getElem?_getD, List.getElem?_eq_getElem hk]; rfl
set_option maxHeartbeats 1000000 in
theorem rrow_calls (r : Nat) (m : Mt) (av : Value) (A : List Ht) (W : World) (h : Rm W r m av A) :
    Calls Try.prog 41 #[.pointer (some ⟨r, 0, none⟩)] W fun e w' => ∃ v, e = .returned v ∧ Own w' W.heap.size 33 cf v m.L ∧ Ext W w' := by
  obtain ⟨i33, j1, j2, j3, j4⟩ := info_parts Try.info33
  have hz : i33.zero = some (cf 0) := j2
  have H := Lib.hid h
  have hl2 : (m.L.length : Int) ≤ 64 := by have := h.ok.l2; omega
  clear h
  go_enter Try.func41, Try.ntmps41
  go_wp2_with fail
  go_loopw [3, 4] (fun ov iv wr => ∃ (k : Nat) (o : Value), k ≤ m.L.length ∧ iv = .int .i64 k ∧ o = ov ∧ Hid (Own wr W.heap.size 33 cf o (m.L.take k) ∧ Ext W wr)) (fun _ iv _ => (m.L.length - (intOf iv).toNat))
  case atStart => exact ⟨0, _, by omega, rfl, rfl, Own.nil, Ext.refl _⟩
  case round =>
    obtain ⟨k, o, hk, rfl, rfl, hT⟩ := hrel
    have k0 := (H.out.ext hT.out.2).b.c0
    by_cases hlt : k < m.L.length
    · have hlt' : (k : Int) < m.L.length := by omega
      have HO := Lib.hid (rofP_calls r m av A k wr (H.out.ext hT.out.2))
      rw [ofP_at m k hlt] at HO
      have HTK : Hid (m.L.take (k + 1) = m.L.take k ++ [m.L[k]]) := by show _ = _; rw [List.take_add_one, List.getElem?_eq_getElem hlt]; rfl
      have HTL : Hid ((m.L.take k).length = k) := by show _ = _; rw [List.length_take]; omega
      generalize m.L[k] = x at *
      go_wp2_with (first
        | (go_at_call 36; refine HO.out.mono ?_; clear HO; rintro e w1 ⟨rfl, q, hq⟩
           have E1 : Hid (Ext wr w1) := by rw [← hq]; exact (Ext.refl _).drewN q
           have O1 := Lib.hid (((E1.out.alloc (.cells #[cf x] 33))).own hT.out.1)
           have X1 : Hid ((w1.alloc (.cells #[cf x] 33)).cell? ⟨w1.heap.size, 0, none⟩ = some (cf x)) := (Blk.new w1 #[cf x] 33).cell 0
           have S1 := Lib.hid (((hT.out.2.trans E1.out).alloc (.cells #[cf x] 33)).size)
           have B1 : Hid (((m.L.take k).length + 1) * 8 ≤ 140737488355328) := by show _ ≤ _; rw [HTL.out]; omega
           have M1 : Hid ((m.L.take k).length + 1 ≤ 9223372036854775807) := by show _ ≤ _; rw [HTL.out]; omega
           clear hq)
        | (at_builtin; refine wpList_append_one cf rfl (.tmp 17) (.tmp 21) 28 rfl W.heap.size 33 i33 (cf 0) 8 Try.u28 j1 hz j3 j4 rfl o (m.L.take k) rfl O1.out w1.heap.size 1 x rfl X1.out rfl B1.out M1.out S1.out ?_
           intro v' w' p1 p2 p3
           have T := Lib.hid (And.intro p1 (((hT.out.2.trans E1.out).alloc (.cells #[cf x] 33)).grown p2 (fun k hk => (O1.out.lt k hk).1)))
           clear p1 p2 p3 O1 X1 S1 B1 M1 hT)
        | fail)
      go_roundw
      case measure => simp only [intOf]; omega
      case rel => exact ⟨k + 1, _, by omega, by go_num, rfl, by rw [HTK.out]; exact T.out.1, T.out.2⟩
    · obtain rfl : m.L.length = k := by omega
      rw [List.take_length] at hT
      go_wp2_with fail
      go_ret
      exact ⟨_, rfl, hT.out⟩
theorem rsum_calls (r : Nat) (m : Mt) (av : Value) (A : List Ht) (w : World) (h : Rm w r m av A) :
    Calls Try.prog 37 #[.pointer (some ⟨r, 0, none⟩)] w fun e w' => e = .returned (cf (sumF 0 m.L)) ∧ Ext w w' := by
  have H := Lib.hid (rrow_calls r m av A w h)
  have hl2 : (m.L.length : Int) ≤ 64 := by have := h.ok.l2; omega
  have HG := Lib.hid h.ok.gl
  clear h
  go_enter Try.func37, Try.ntmps37
  go_wp2_with (first | (go_at_call 41; refine H.out.mono ?_; clear H; rintro e w1 ⟨v1, rfl, h1, h2⟩
                        obtain ⟨ad, c, hv, hat⟩ := h1.rd.at
                        subst hv
                        have E1 := Lib.hid h2
                        have HA := Lib.hid hat
                        clear h1 h2 hat) | fail)
  go_loop [4, 5] (fun y i => ∃ (k z : Nat), k ≤ m.L.length ∧ i = .int .i64 k ∧ y = cf z ∧ Hid (good z ∧ sumF z (m.L.drop k) = sumF 0 m.L)) (fun _ i => m.L.length - (intOf i).toNat)
  case atStart => exact ⟨0, 0, by omega, rfl, rfl, good0, by rw [List.drop_zero]⟩
  case round =>
    obtain ⟨k, z, hk, rfl, rfl, hT⟩ := hrel
    by_cases hlt : k < m.L.length
    · obtain ⟨b, o, rfl, hc⟩ := HA.out k hlt
      have hgo := HG.out m.L[k] (List.getElem_mem _)
      have hst := hT.out.2
      rw [dropcons hlt, sumF_cons] at hst
      have HST := Lib.hid hst
      generalize m.L[k] = x at *
      obtain ⟨ha, hgz⟩ := fadd_eq hT.out.1 (Or.inl hgo)
      have hadd := fun w => run_float_arith (P := Try.prog) w .add 33 .f64 _ _ _ ha
      have HGZ := Lib.hid hgz
      clear hgo hst ha hgz hT
      go_wp2_with fail
      go_round
      case measure => simp only [intOf]; omega
      case rel => exact ⟨k + 1, _, by omega, by go_num, rfl, HGZ.out, HST.out⟩
    · obtain rfl : m.L.length = k := by omega
      have hz : Hid (z = sumF 0 m.L) := by have := hT.out.2; rw [List.drop_length, sumF_nil] at this; exact this
      clear hT
      go_wp2_with fail
      go_ret
      exact ⟨by rw [hz.out]; rfl, E1.out⟩
theorem rmean_calls (r : Nat) (m : Mt) (av : Value) (A : List Ht) (w : World) (h : Rm w r m av A) :
    Calls Try.prog 38 #[.pointer (some ⟨r, 0, none⟩)] w fun e w' => e = .returned (cf (meanP m.L)) ∧ Ext w w' := by
  have H := Lib.hid (fun w (h : Rm w r m av A) => rsum_calls r m av A w h)
  have hb := h.bl
  have hl2 : (m.L.length : Int) ≤ 64 := by have := h.ok.l2; omega
  have hrun := len_run m.L.length (by omega)
  have hq := (mean_bd hb h.ok.l1 h.ok.l2).1
  have hquo := fun w => run_float_arith (P := Try.prog) w .quo 33 .f64 _ _ _ hq
  obtain ⟨W, hW⟩ : ∃ x, wholeW m.L.length = x := ⟨_, rfl⟩
  obtain ⟨S, hS⟩ : ∃ x, sumF 0 m.L = x := ⟨_, rfl⟩
  obtain ⟨Q, hQ⟩ : ∃ x, meanP m.L = x := ⟨_, rfl⟩
  rw [hW] at hrun hquo
  rw [hS] at hquo H
  rw [hQ] at hquo ⊢
  have HM := Lib.hid h
  have K0 := h.b.c0
  clear h hb hq hW hS hQ
  go_enter Try.func38, Try.ntmps38
  go_wp2_with fail
  go_region_held3 (fun w' => w'.cell? ⟨r, 0, none⟩ = some (ci m.L.length)) (first | exact K1 | exact K0)
    (first
      | (go_at_call 37; refine (H.out _ (HM.out.ext (Ext.refl _).drew)).mono ?_; clear H; rintro e w1 ⟨rfl, h1⟩
         have E1 := Lib.hid (((Ext.refl w).drew).trans h1)
         have K1 := (HM.out.ext E1.out).b.c0
         clear h1))
  go_wp2_with fail
  go_ret
  exact ⟨rfl, E1.out⟩
set_option maxHeartbeats 1000000 in
theorem rspread_calls (r : Nat) (m : Mt) (av : Value) (A : List Ht) (w : World) (h : Rm w r m av A) :
    Calls Try.prog 39 #[.pointer (some ⟨r, 0, none⟩)] w fun e w' => e = .returned (cf (spreadP m.L)) ∧ Ext w w' := by
  have HR := Lib.hid (rrow_calls r m av A w h)
  have H := Lib.hid (fun w (h : Rm w r m av A) => rmean_calls r m av A w h)
  have hb := h.bl
  have hl1 : (1 : Int) ≤ m.L.length := by have := h.ok.l1; omega
  have hl2 : (m.L.length : Int) ≤ 64 := by have := h.ok.l2; omega
  have hne : ¬ (m.L.length : Int) = 0 := by omega
  have hrun := len_run m.L.length (by omega)
  obtain ⟨f1, f2, _⟩ := spread_fin hb h.ok.l1 h.ok.l2
  have HMB := Lib.hid (mean_bd hb h.ok.l1 h.ok.l2).2
  have HB := Lib.hid hb
  have hquo := fun w => run_float_arith (P := Try.prog) w .quo 33 .f64 _ _ _ f1
  have HSQ := Lib.hid (sqrt_calls _ _ f2)
  obtain ⟨W, hW⟩ : ∃ x, wholeW m.L.length = x := ⟨_, rfl⟩
  obtain ⟨Q, hQ⟩ : ∃ x, meanP m.L = x := ⟨_, rfl⟩
  obtain ⟨S, hS⟩ : ∃ x, spF Q 0 m.L = x := ⟨_, rfl⟩
  have HS := Lib.hid hS
  rw [hW] at hrun hquo HSQ
  rw [hQ] at hquo H HMB HSQ
  rw [hS] at hquo HSQ
  obtain ⟨T, hT⟩ : ∃ x, fquo S W = x := ⟨_, rfl⟩
  obtain ⟨Z, hZ⟩ : ∃ x, spreadP m.L = x := ⟨_, rfl⟩
  rw [hT] at hquo HSQ
  rw [hZ] at HSQ ⊢
  have HM := Lib.hid h
  clear h hb f1 f2 hW hQ hS hT hZ
  go_enter Try.func39, Try.ntmps39
  go_wp2_with (first
    | (go_at_call 41; refine HR.out.mono ?_; clear HR; rintro e w1 ⟨v1, rfl, h1, h2⟩
       obtain ⟨ad, c, hv, hat⟩ := h1.rd.at
       subst hv
       have E1 := Lib.hid h2
       have HA := Lib.hid hat
       clear h1 h2 hat)
    | (go_at_call 38; refine (H.out w1 (HM.out.ext E1.out)).mono ?_; clear H; rintro e w2 ⟨rfl, h1⟩
       have E2 := Lib.hid h1
       have M2 := Lib.hid (HM.out.ext (E1.out.trans h1))
       have hc1 := M2.out.b.c0
       clear h1)
    | fail)
  go_loop [5, 6] (fun y i => ∃ (k z : Nat), k ≤ m.L.length ∧ i = .int .i64 k ∧ y = cf z ∧ Hid (bd (298 + k) z ∧ good z ∧ spF Q z (m.L.drop k) = S)) (fun _ i => m.L.length - (intOf i).toNat)
  case atStart => exact ⟨0, 0, by omega, rfl, rfl, bd_zero _, good0, by rw [List.drop_zero]; exact HS.out⟩
  case round =>
    obtain ⟨k, z, hk, rfl, rfl, hT⟩ := hrel
    by_cases hlt : k < m.L.length
    · obtain ⟨b, o, rfl, hc0⟩ := HA.out k hlt
      have hck := E2.out.cell hc0
      have hst := hT.out.2.2
      rw [dropcons hlt, spF_cons] at hst
      have hx := HB.out m.L[k] (List.getElem_mem _)
      generalize m.L[k] = x at *
      obtain ⟨s1, s2, s3, s4, s5⟩ := sp_step HMB.out hx hT.out.1 hT.out.2.1 (by omega)
      have r1 := fun w => run_float_arith (P := Try.prog) w .sub 33 .f64 _ _ _ s1
      have r2 := fun w => run_float_arith (P := Try.prog) w .mul 33 .f64 _ _ _ s2
      have r3 := fun w => run_float_arith (P := Try.prog) w .add 33 .f64 _ _ _ s3
      obtain ⟨d, hd⟩ : ∃ d, fsub x Q = d := ⟨_, rfl⟩
      rw [hd] at r1 r2 r3 s4 s5 hst
      obtain ⟨q, hq⟩ : ∃ q, fml d d = q := ⟨_, rfl⟩
      rw [hq] at r2 r3 s4 s5 hst
      have HST : Hid (bd (298 + (k + 1)) (fadd z q) ∧ good (fadd z q) ∧ spF Q (fadd z q) (m.L.drop (k + 1)) = S) := ⟨s4, s5, hst⟩
      clear s1 s2 s3 s4 s5 hst hx hT hd hq hc0
      go_wp2_with fail
      go_round
      case measure => simp only [intOf]; omega
      case rel => exact ⟨k + 1, _, by omega, by go_num, rfl, HST.out⟩
    · obtain rfl : m.L.length = k := by omega
      have hz : Hid (z = S) := by have := hT.out.2.2; rw [List.drop_length, spF_nil] at this; exact this
      have hzz := hz.out
      subst hzz
      clear hT HS
      go_wp2_with (first
        | (go_at_call 43; refine (HSQ.out _).mono ?_; clear HSQ; rintro e w3 ⟨rfl, rfl⟩)
        | fail)
      go_ret
      exact ⟨rfl, E1.out.trans E2.out⟩
theorem rtop_calls (r : Nat) (m : Mt) (av : Value) (A : List Ht) (w : World) (h : Rm w r m av A) :
    Calls Try.prog 40 #[.pointer (some ⟨r, 0, none⟩)] w fun e w' => e = .returned (ci (topF m.L (-1) 0 m.L)) ∧ Ext w w' := by
  have H := Lib.hid (rrow_calls r m av A w h)
  have hl2 : (m.L.length : Int) ≤ 64 := by have := h.ok.l2; omega
  clear h
  go_enter Try.func40, Try.ntmps40
  go_wp2_with (first | (go_at_call 41; refine H.out.mono ?_; clear H; rintro e w1 ⟨v1, rfl, h1, h2⟩
                        obtain ⟨ad, c, hv, hat⟩ := h1.rd.at
                        subst hv
                        have E1 := Lib.hid h2
                        have HA := Lib.hid hat
                        clear h1 h2 hat) | fail)
  go_loopw [4, 5] (fun t i wr => ∃ (k q : Nat) (z : Int), k ≤ m.L.length ∧ wr = w1.drewN q ∧ i = .int .i64 k ∧ t = ci z ∧ Hid (-1 ≤ z ∧ z < m.L.length ∧ topF m.L z k (m.L.drop k) = topF m.L (-1) 0 m.L)) (fun _ i _ => m.L.length - (intOf i).toNat)
  case atStart => exact ⟨0, 0, -1, by omega, rfl, rfl, rfl, by omega, by omega, by rw [List.drop_zero]⟩
  case round =>
    obtain ⟨k, q, z, hk, rfl, rfl, rfl, hT⟩ := hrel
    by_cases hlt : k < m.L.length
    · obtain ⟨b, o, rfl, hc⟩ := HA.out k hlt
      have hst := hT.out.2.2
      rw [dropcons hlt, topF_cons] at hst
      generalize m.L[k] = x at *
      by_cases hz0 : z < 0
      · have d0 : decide (z < 0) = true := decide_eq_true hz0
        have HST := Lib.hid hst
        clear hst hT
        go_wp2_with fail
        go_quiet (fail)
        go_wp2_with fail
        go_roundw
        case measure => simp only [intOf]; omega
        case rel => exact ⟨k + 1, _, k, by omega, rfl, by go_num, rfl, by omega, by omega, by have := HST.out; rw [decide_eq_true hz0] at this; simpa using this⟩
      · obtain ⟨j, rfl⟩ : ∃ j : Nat, z = (j : Int) := ⟨z.toNat, by omega⟩
        have d0 : decide ((j : Int) < 0) = false := decide_eq_false hz0
        have hj : j < m.L.length := by have := hT.out.2.1; omega
        obtain ⟨b2, o2, e2, hcj⟩ := HA.out j hj
        injection e2 with e2
        injection e2 with e2 e3
        subst e2 e3
        have hd : m.L.getD j 0 = m.L[j] := by rw [List.getD_eq_getElem?_getD, List.getElem?_eq_getElem hj]; rfl
        rw [Int.toNat_natCast, hd, decide_eq_false hz0, Bool.false_or] at hst
        generalize m.L[j] = y at *
        have HST := Lib.hid hst
        have hj64 : (j : Int) < m.L.length := by omega
        clear hst hT hd
        cases hg : gtB x y with
        | true =>
          have hge : (FloatKind.f64.format.order x y == some .gt) = true := (gtB_eq x y).symm.trans hg
          have HG := Lib.hid hg
          clear hg
          go_wp2_with fail
          go_quiet (fail)
          go_wp2_with fail
          go_roundw
          case measure => simp only [intOf]; omega
          case rel => exact ⟨k + 1, _, k, by omega, rfl, by go_num, rfl, by omega, by omega, by have := HST.out; rw [HG.out] at this; simpa using this⟩
        | false =>
          have hge : (FloatKind.f64.format.order x y == some .gt) = false := (gtB_eq x y).symm.trans hg
          have HG := Lib.hid hg
          clear hg
          go_wp2_with fail
          go_quiet (fail)
          go_wp2_with fail
          go_roundw
          case measure => simp only [intOf]; omega
          case rel => exact ⟨k + 1, _, j, by omega, rfl, by go_num, rfl, by omega, by omega, by have := HST.out; rw [HG.out] at this; simpa using this⟩
    · obtain rfl : m.L.length = k := by omega
      have hz : Hid (z = topF m.L (-1) 0 m.L) := by have := hT.out.2.2; rw [List.drop_length, topF_nil] at this; exact this
      clear hT
      go_wp2_with fail
      go_ret
      exact ⟨by rw [hz.out]; rfl, E1.out.drewN _⟩
end Go.Proofs.Ytjgdeijodjihlaa
