/- SealTold: the walk of the law. -/
import Derived.Test.YtbamkkbdcodafaaL2b
namespace Go.Proofs.Ytbamkkbdcodafaa
open Go.RowKit
set_option linter.unusedVariables false

set_option maxHeartbeats 1000000 in
theorem told_walk (sv : Value) (p : List (BitVec 8)) (a : Int) (td : List (BitVec 8)) (htd : td.length = 4) (W : World) (hp : Rd W cb sv p) (hm : p.length ≤ 140737488351232) (hb : -9223372036854775808 ≤ a ∧ a ≤ 9223372036854775807) :
    Calls Try.prog 4 #[sv, .int .i64 a, .agg (V cb td)] W fun e w' => e = .returned (.bool true) ∧ Ext W w' := by
  have hm' : (p.length : Int) ≤ 140737488351232 := by omega
  have hp1 := hp
  obtain ⟨ad, c, rfl, hat⟩ := hp1.at
  clear hat hp1
  have HP := Lib.hid hp
  have HM := Lib.hid hm
  have HTD := Lib.hid htd
  have HB := Lib.hid hb
  have hT := Blk.new W (V cb td) 30
  have eT := Ext.of_alloc (w := W) (.cells (V cb td) 30)
  have HTs : Hid ((W.alloc (.cells (V cb td) 30)).heap.size = W.heap.size + 1) := by show _ = _; simp
  have H17 := Lib.hid (known_calls (W.alloc (.cells (V cb td) 30)))
  obtain ⟨gT, hgT⟩ : ∃ g, W.heap.size = g := ⟨_, rfl⟩
  have HG := Lib.hid hgT
  have HT := Lib.hid hT
  have HE := Lib.hid eT
  clear hp hm htd hb hT eT hgT
  go_enter Try.func4, Try.ntmps4
  go_wp2_with (first
    | (go_at_call 17; refine H17.out.mono ?_; clear H17; rintro e w2 ⟨rfl, e2⟩
       have H18 := Lib.hid (joined_calls _ (.slice none 0 0) p [] w2 ((HE.out.trans e2).rd HP.out) Rd.nil (by have := HM.out; simp; omega)))
    | (go_at_call 18; refine H18.out.mono ?_; clear H18; rintro e w3 ⟨qv, rfl, ho3, e3⟩; rw [List.append_nil] at ho3)
    | fail)
  have eW : Ext W w3 := (HE.out.trans e2).trans e3
  have hbT : Blk w3 gT (V cb td) 30 := by have := (HT.out.ext e2).ext e3; rw [HG.out] at this; exact this
  have hB : gT < w2.heap.size := by have h1 := e2.size; have h2 := HTs.out; have h3 := HG.out; omega
  have hBW : W.heap.size ≤ w2.heap.size := by have h3 := HG.out; omega
  rw [HG.out]
  clear e2 e3 HE HT HTs
  generalize w2.heap.size = B at *
  clear w2
  obtain ⟨qa, qc, rfl, hf⟩ := ho3.form
  clear hf
  obtain ⟨A, hA⟩ : ∃ A : Nat, (a < 0 → A = p.length) ∧ (0 ≤ a → a = (A : Int)) := by
    by_cases h : a < 0
    · exact ⟨p.length, fun _ => rfl, fun h2 => absurd h (by omega)⟩
    · exact ⟨a.toNat, fun h2 => absurd h2 h, fun _ => by omega⟩
  have HA := Lib.hid hA
  have HHB := Lib.hid hB
  have HBW := Lib.hid hBW
  clear hA hB hBW
  go_loopw [8, 9] (fun u i wr => ∃ k : Nat, k ≤ 4 ∧ i = .int .i64 k ∧ u = .int .i64 (cnt p A td k : Nat) ∧ Own wr B 5 cb (.slice qa p.length qc) (trn p A td k) ∧ Blk wr gT (V cb td) 30 ∧ Ext W wr) (fun _ i _ => (4 - (intOf i).toNat))
  case atStart => exact ⟨0, by omega, rfl, by rw [show cnt p A td 0 = 0 by unfold cnt; rfl]; rfl, by rw [trn_zero]; exact ho3, hbT, eW⟩
  case round =>
    clear ho3 hbT eW w3
    obtain ⟨k, hk, rfl, rfl, ho3, hbT, eW⟩ := hrel
    have hcl := cnt_le p A td k
    by_cases hlt : k < 4
    · by_cases hin : A + k < p.length
      · obtain ha : a = (A : Int) := by
          rcases (by omega : a < 0 ∨ 0 ≤ a) with h | h
          · have := HA.out.1 h; omega
          · exact HA.out.2 h
        subst ha
        have t1 : decide ((0 : Int) ≤ (A : Int)) = true := decide_eq_true (by omega)
        have t2 : decide ((A : Int) < (p.length : Int) - (k : Int)) = true := decide_eq_true (by omega)
        have hin' : A + k < (trn p A td k).length := by rw [trn_len]; exact hin
        obtain ⟨qa', qc', hq, hf⟩ := ho3.form
        obtain ⟨g, hqa, hBg, hglt, hcell, hfree, hset⟩ := hf (A + k) hin'
        obtain ⟨rfl, hxx, rfl⟩ : qa = qa' ∧ p.length = (trn p A td k).length ∧ qc = qc' := by simpa using hq
        clear hxx
        subst hqa
        have hTg : gT ≠ g := by have := HHB.out; omega
        have hgT : g ≠ gT := Ne.symm hTg
        have hti : k < td.length := by rw [HTD.out]; exact hlt
        have hct : wr.cell? ⟨gT, k, none⟩ = some (cb td[k]) := by rw [hbT.cell, V_get, List.getElem?_eq_getElem hti]; rfl
        have e1 : trn p A td (k + 1) = (trn p A td k).set (A + k) ((trn p A td k)[A + k] ^^^ td[k]) := by
          rw [trn_in p A td k hin, List.getD_eq_getElem?_getD, List.getElem?_eq_getElem hin', List.getD_eq_getElem?_getD, List.getElem?_eq_getElem hti]; rfl
        have e2 : cnt p A td (k + 1) = if td[k] = 0#8 then cnt p A td k else cnt p A td k + 1 := by
          rw [cnt_in p A td k hin, List.getD_eq_getElem?_getD, List.getElem?_eq_getElem hti]; rfl
        generalize (trn p A td k)[A + k] = x at *
        generalize td[k] = y at *
        have E1 := Lib.hid e1
        have E2 := Lib.hid e2
        have HS := Lib.hid hset
        have HBT := Lib.hid hbT
        have HBg := Lib.hid hBg
        clear ho3 hf hq hbT e1 e2 hin' hBg hset
        generalize hu : cnt p A td k = u at *
        clear hu
        cases hy : (y != 0#8) with
        | true =>
          go_wp2_with fail
          go_region
          go_wp2_with fail
          go_roundw
          case measure => simp only [intOf]; omega
          case rel =>
            have hy0 : y ≠ 0#8 := by simpa using hy
            refine ⟨k + 1, by omega, by go_num, ?_, ?_, ?_, ?_⟩
            · rw [E2.out, if_neg hy0]; go_num
            · rw [E1.out]; exact Own.drew (HS.out _)
            · exact (HBT.out.far ⟨g, A + k, none⟩ hTg _)
            · exact (eW.set (p := ⟨g, A + k, none⟩) (by have := HBg.out; have := HBW.out; show _ ≤ g; omega) _).drew
        | false =>
          go_wp2_with fail
          go_region
          go_wp2_with fail
          go_roundw
          case measure => simp only [intOf]; omega
          case rel =>
            have hy0 : y = 0#8 := by simpa using hy
            refine ⟨k + 1, by omega, by go_num, ?_, ?_, ?_, ?_⟩
            · rw [E2.out, if_pos hy0]
            · rw [E1.out]; exact Own.drew (HS.out _)
            · exact (HBT.out.far ⟨g, A + k, none⟩ hTg _)
            · exact (eW.set (p := ⟨g, A + k, none⟩) (by have := HBg.out; have := HBW.out; show _ ≤ g; omega) _).drew
      · have E1 := Lib.hid (trn_out p A td k hin)
        have E2 := Lib.hid (cnt_out p A td k hin)
        have HO := Lib.hid ho3
        have HBT := Lib.hid hbT
        clear ho3 hbT
        have t12 : decide ((0 : Int) ≤ a) = false ∨ (decide ((0 : Int) ≤ a) = true ∧ decide (a < (p.length : Int) - (k : Int)) = false) := by
          rcases (by omega : a < 0 ∨ 0 ≤ a) with h | h
          · exact Or.inl (decide_eq_false (by omega))
          · have := HA.out.2 h
            exact Or.inr ⟨decide_eq_true h, decide_eq_false (by omega)⟩
        generalize hu : cnt p A td k = u at *
        rcases t12 with t1 | ⟨t1, t2⟩
        · clear hu
          go_wp2_with fail
          go_roundw
          case measure => simp only [intOf]; omega
          case rel =>
            exact ⟨k + 1, by omega, by go_num, by rw [E2.out], by rw [E1.out]; exact HO.out, HBT.out, eW⟩
        · clear hu
          go_wp2_with fail
          go_roundw
          case measure => simp only [intOf]; omega
          case rel =>
            exact ⟨k + 1, by omega, by go_num, by rw [E2.out], by rw [E1.out]; exact HO.out, HBT.out, eW⟩
    · obtain rfl : k = 4 := by omega
      clear hbT
      have hq : Rd wr cb (.slice qa p.length qc) (trn p A td 4) := ho3.rd
      have hp : Rd wr cb (.slice ad p.length c) p := eW.rd HP.out
      have hlen := trn_len p A td 4
      have hml : p.length ≤ 9223372036854775807 := by have := HM.out; omega
      have hmq : (trn p A td 4).length ≤ 9223372036854775807 := by rw [hlen]; exact hml
      have H1 := Lib.hid (crc_calls _ p wr hp hml)
      have HC := crc_tells p A td HTD.out 0xFFFFFFFF#32
      have HC0 := cnt_zero p A td 4
      have HC1 := cnt_one p A td 4
      generalize hu : cnt p A td 4 = u at *
      generalize hQ : trn p A td 4 = Q at *
      clear hu hQ ho3 hcl
      have HQ := Lib.hid hq
      have HP2 := Lib.hid hp
      have HML := Lib.hid hml
      have HMQ := Lib.hid hmq
      clear hq hp hlen hml hmq
      generalize hX : tkn 0xFFFFFFFF#32 p = X at *
      generalize hY : tkn 0xFFFFFFFF#32 Q = Y at *
      rcases Nat.eq_zero_or_pos u with h0 | h0
      · subst h0
        have hqp := HC0 rfl
        subst hqp
        rw [hX] at hY
        subst hY
        have HX := Lib.hid hX
        clear HC HC0 HC1 hX
        generalize hF : fnvs off0 [Q] = F at *
        have HF := Lib.hid hF
        clear hF
        have k1 : (Bv (~~~X) == Bv (~~~X)) = true := by simp
        have k2 : (Bv F == Bv F) = true := by simp
        go_wp2_with (first
          | (go_at_call 19; refine H1.out.mono ?_; clear H1; rintro e w4 ⟨rfl, e4⟩
             have H2 := Lib.hid (crc_calls _ Q w4 (e4.rd HQ.out) HMQ.out)
             rw [HX.out] at H2)
          | (go_at_call 19; refine H2.out.mono ?_; clear H2; rintro e w5 ⟨rfl, e5⟩
             have e45 := e4.trans e5
             have H3 := Lib.hid (fnv_calls _ [Q] _ (Rds.one (e45.rd HP2.out) HML.out) (by simp))
             have e6 := e45.alloc (.cells #[.slice ad Q.length c] 23)
             have H4 := Lib.hid (fnv_calls _ [Q] _ (Rds.one (e6.rd HQ.out) HMQ.out) (by simp))
             have e7 := Lib.hid (e6.alloc (.cells #[.slice qa Q.length qc] 23))
             rw [HF.out] at H3 H4
             simp only [World.size_alloc] at H4)
          | (go_at_call 14; refine H3.out.mono ?_; clear H3; rintro e w6 ⟨rfl, rfl⟩)
          | (go_at_call 14; refine H4.out.mono ?_; clear H4; rintro e w6 ⟨rfl, rfl⟩)
          | fail)
        go_ret
        exact ⟨rfl, eW.trans e7.out⟩
      · have hne : X ≠ Y := fun h => by have := HC h; omega
        have k1 : (~~~X != ~~~Y) = true := by
          rw [bne_iff_ne]
          intro h
          exact hne (by simpa using congrArg (~~~ ·) h)
        have t0 : ((u : Int) == 0) = false := by simp; omega
        have HY := Lib.hid hY
        rcases (by omega : u = 1 ∨ 1 < u) with h1 | h1
        · subst h1
          obtain ⟨i, y, hi, hq, hy⟩ := HC1 rfl
          have hf := fnv_tells p i y hi hy off0
          rw [← hq] at hf
          have F1 := fnvs_one off0 p
          have F2 := fnvs_one off0 Q
          rw [← F1, ← F2] at hf
          clear HC HC0 HC1 hX hY hy hq hi hne h0
          generalize hF : fnvs off0 [p] = F at *
          generalize hG : fnvs off0 [Q] = G at *
          have HF := Lib.hid hF
          have HG := Lib.hid hG
          have k2 : (F != G) = true := by simpa using hf
          have t3 : decide ((1 : Int) < (1 : Nat)) = false := by decide
          clear hF hG F1 F2 hf
          go_wp2_with (first
            | (go_at_call 19; refine H1.out.mono ?_; clear H1; rintro e w4 ⟨rfl, e4⟩
               have H2 := Lib.hid (crc_calls _ Q w4 (e4.rd HQ.out) HMQ.out)
               rw [HY.out] at H2)
            | (go_at_call 19; refine H2.out.mono ?_; clear H2; rintro e w5 ⟨rfl, e5⟩
               have e45 := e4.trans e5
               have H3 := Lib.hid (fnv_calls _ [p] _ (Rds.one (e45.rd HP2.out) HML.out) (by simp))
               have e6 := e45.alloc (.cells #[.slice ad p.length c] 23)
               have H4 := Lib.hid (fnv_calls _ [Q] _ (Rds.one (e6.rd HQ.out) HMQ.out) (by simp))
               have e7 := Lib.hid (e6.alloc (.cells #[.slice qa p.length qc] 23))
               rw [HF.out] at H3
               rw [HG.out] at H4
               simp only [World.size_alloc] at H4)
            | (go_at_call 14; refine H3.out.mono ?_; clear H3; rintro e w6 ⟨rfl, rfl⟩)
            | (go_at_call 14; refine H4.out.mono ?_; clear H4; rintro e w6 ⟨rfl, rfl⟩)
            | fail)
          go_ret
          exact ⟨rfl, eW.trans e7.out⟩
        · have t3 : decide ((1 : Int) < (u : Int)) = true := decide_eq_true (by omega)
          clear HC HC0 HC1 hX hY hne
          go_wp2_with (first
            | (go_at_call 19; refine H1.out.mono ?_; clear H1; rintro e w4 ⟨rfl, e4⟩
               have H2 := Lib.hid (crc_calls _ Q w4 (e4.rd HQ.out) HMQ.out)
               rw [HY.out] at H2)
            | (go_at_call 19; refine H2.out.mono ?_; clear H2; rintro e w5 ⟨rfl, e5⟩
               have e45 := e4.trans e5)
            | fail)
          go_ret
          exact ⟨rfl, eW.trans e45⟩
theorem told_walk' (sv : Value) (p : List (BitVec 8)) (a : Int) (td : List (BitVec 8)) (htd : td.length = 4) (W : World) (hp : Rd W cb sv p) (hm : p.length * 1 ≤ 140737488351232) (hb : -9223372036854775808 ≤ a ∧ a ≤ 9223372036854775807) :
    Calls Try.prog 4 #[sv, .int .i64 a, .agg (V cb td)] W fun e w' => e = .returned (.bool true) ∧ Below W.heap.size W w' :=
  (told_walk sv p a td htd W hp (by omega) hb).mono fun e w' h => ⟨h.1, h.2.to⟩
end Go.Proofs.Ytbamkkbdcodafaa
