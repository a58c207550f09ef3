/- LoadRefuses: the walk of the law. -/
import Derived.Test.YtjgdeijodjihlaaD9y
import Derived.Test.YtjgdeijodjihlaaD9j
import Derived.Test.YtjgdeijodjihlaaD9i
import Derived.Deep.DeepCutAuto
import Derived.Deep.CutRange
import Derived.Deep.QuietTactic
import Derived.BigQuiet
namespace Go.Proofs.Ytjgdeijodjihlaa
open Go.RowKit
set_option linter.unusedVariables false

def rightB (c n : Int) (o : Sc) : Bool := decide (c ≤ o.now ∧ o.now ≤ 1099511627776) && (decide (o.kind = 2) || (decide (o.kind = 1 ∧ 0 ≤ o.shard ∧ o.shard < n) && wtB o.wt.toNat))
theorem set_right (m : Mt) (o : Sc) (hk : o.kind = 1 ∨ o.kind = 2) : (setP m o).1 = rightB m.now m.L.length o := by
  have ho : ∀ t : Int, ((onP m t).1 == 0) = decide ((m.now : Int) ≤ t ∧ t ≤ 1099511627776) := fun t => by
    unfold onP
    split
    · rw [decide_eq_false (by omega)]; rfl
    · split
      · rw [decide_eq_false (by omega)]; rfl
      · rw [decide_eq_true (by omega)]; rfl
  unfold setP rightB
  rcases hk with hk | hk
  · rw [if_pos hk, hk]
    unfold hitP
    have e2 : decide ((1 : Int) = 2) = false := by decide
    rw [e2, Bool.false_or]
    by_cases c : o.shard < 0 ∨ (m.L.length : Int) ≤ o.shard ∨ wtB o.wt.toNat = false
    · rw [if_pos c]
      rcases c with c | c | c
      · rw [decide_eq_false (p := (1 : Int) = 1 ∧ 0 ≤ o.shard ∧ o.shard < (m.L.length : Int)) (by omega)]; simp
      · rw [decide_eq_false (p := (1 : Int) = 1 ∧ 0 ≤ o.shard ∧ o.shard < (m.L.length : Int)) (by omega)]; simp
      · rw [c]; simp
    · rw [if_neg c]
      simp only [not_or] at c
      have hw : wtB o.wt.toNat = true := by simpa using c.2.2
      rw [decide_eq_true (p := (1 : Int) = 1 ∧ 0 ≤ o.shard ∧ o.shard < (m.L.length : Int)) (by omega), hw, Bool.and_true, Bool.and_true, ← ho]
      by_cases h0 : (onP m o.now).1 = 0
      · rw [if_pos h0, h0]
      · rw [if_neg h0]
  · rw [if_neg (by omega), if_pos hk, hk]
    rw [show decide ((2 : Int) = 2) = true by decide, Bool.true_or, Bool.and_true]
    exact ho _
theorem go_now {m : Mt} (h : m.ok) : (onP m m.now).1 = 0 := by
  have h2 := h.n1
  unfold onP
  rw [if_neg (by omega), if_neg (by omega)]
set_option maxRecDepth 100000 in
set_option maxHeartbeats 2000000 in
theorem refuses_bad (n h : Int) (sv : Value) (o : Sc) (W : World) (hf : fitB n h = false) :
    Calls Try.prog 5 #[ci n, ci h, sv, scv o] W fun e w' => e = .returned (.bool true) ∧ Ext W w' := by
  obtain ⟨kd, who, s, t, x⟩ := o
  have HK := Lib.hid (known_calls (W.alloc (.cells (scc ⟨kd, who, s, t, x⟩) 41)))
  have HM := Lib.hid (fun w => made_bad n h sv w hf)
  have HF := Lib.hid (fun w => fit_calls n h w)
  rw [hf] at HF
  clear hf
  unfold scv scc at *
  go_enter Try.func5, Try.ntmps5
  go_wp2_with (first
    | (go_at_call 9; refine HK.out.mono ?_; clear HK; rintro e w1 ⟨rfl, h1⟩; have E1 := Lib.hid ((Ext.of_alloc (w := W) _).trans h1); clear h1)
    | (go_at_call 10; refine (HM.out _).mono ?_; rintro e w2 ⟨rfl, rfl⟩)
    | (go_at_call 11; refine (HF.out _).mono ?_; clear HF; rintro e w2 ⟨rfl, rfl⟩)
    | fail)
  go_ret
  exact ⟨rfl, E1.out⟩
set_option maxRecDepth 100000 in
set_option maxHeartbeats 8000000 in
theorem refuses_fit (n h : Int) (sv : Value) (l : List Sc) (o : Sc) (W : World) (hf : fitB n h = true) (hs : RdS W sv l) (hl : l.length * 40 ≤ 140737488351232) :
    Calls Try.prog 5 #[ci n, ci h, sv, scv o] W fun e w' => e = .returned (.bool true) ∧ Ext W w' := by
  have hn := (fitB_iff n h).1 hf
  have hbn := run_bnd n.toNat h.toNat l hl
  have e0 := Ext.of_alloc (w := W) (.cells (scc o) 41)
  have hs0 := hs.ext e0
  have b0 := Blk.new W (scc o) 41
  obtain ⟨W0, hW0⟩ : ∃ z, W.alloc (.cells (scc o) 41) = z := ⟨_, rfl⟩
  rw [hW0] at e0 hs0 b0
  have HW0 := Lib.hid hW0
  have HK := Lib.hid (known_calls W0)
  have HM := Lib.hid (fun w (e : Ext W0 w) => made_fit n h sv l w hf (hs0.ext e) (by omega))
  have HN := Lib.hid num_calls
  obtain ⟨m1, hm1⟩ : ∃ M, (runM (newM n.toNat h.toNat) 0 l).1 = M := ⟨_, rfl⟩
  have hck : (runM (newM n.toNat h.toNat) 0 l).2 = (m1.now : Int) := by rw [← hm1]; exact (run_clock l _ 0 rfl).symm
  rw [hm1, hck] at HM
  rw [hm1] at hbn
  have hlen : (m1.L.length : Int) = n := by
    have : ∀ (l : List Sc) (m : Mt) (c : Int), (runM m c l).1.L.length = m.L.length := fun l => by
      induction l with
      | nil => intro m c; rfl
      | cons o r ih => intro m c; rw [runM_cons, ih, setP_len]
    rw [← hm1, this]
    unfold newM
    simp
    omega
  have HR := Lib.hid (set_right m1 o)
  rw [hlen] at HR
  have HC := Lib.hid (set_clock m1 o).2
  have HB := Lib.hid hbn
  have E0 := Lib.hid e0
  have B0 := Lib.hid b0
  have hn2 : n ≤ 64 := hn.2.1
  have hn1 : 1 ≤ n := hn.1
  obtain ⟨bx, hbx⟩ : ∃ b, W.heap.size = b := ⟨_, rfl⟩
  have HBX := Lib.hid hbx
  rw [hbx] at B0
  obtain ⟨kd, who, s, t, x⟩ := o
  have hfb : ∀ (w : World), (callFunc 17 #[.int .u64 (Bv x)]).run Try.prog w = .ok (.value (cf x.toNat)) w := fun w => frombits (Bv x) w
  unfold scv scc at *
  simp only at *
  clear hf hs hs0 hl hn hm1 hck hbn hW0 e0 b0 hlen hbx
  go_enter Try.func5, Try.ntmps5
  go_wp2_with fail
  rw [HW0.out, HBX.out]
  go_upto_region 7 with (first
    | (go_at_call 9; refine HK.out.mono ?_; clear HK; rintro e w1 ⟨rfl, h1⟩; have E1 := Lib.hid h1; clear h1)
    | (go_at_call 10; refine (HM.out _ E1.out).mono ?_; rintro e w2 ⟨g, lb, rfl, h1, h2, h3, h4⟩
       have LO := Lib.hid (And.intro h1 h2)
       have M2 := Lib.hid h3
       have E2 := Lib.hid (E1.out.trans h4)
       clear h1 h2 h3 h4)
    | (go_at_call 10; refine (HM.out _ E2.out).mono ?_; clear HM; rintro e w3 ⟨g2, lb2, rfl, h1, h2, h3, h4⟩
       have LO2 := Lib.hid (And.intro h1 h2)
       have M3 := Lib.hid (M2.out.ext h4)
       have N3 := Lib.hid h3
       have E3 := Lib.hid (E2.out.trans h4)
       have F4 : Hid (Far4 W0 g2 lb2 g lb) := by
         have s1 := E1.out.size
         have s2 := E2.out.size
         have a1 := M2.out.b.lt
         have a2 := M2.out.l.lt
         have a3 := LO.out.1
         have a4 := LO.out.2
         exact ⟨⟨by omega, by omega, by omega, by omega⟩, ⟨by omega, by omega, by omega, by omega⟩⟩
       clear h1 h2 h3 h4 M2 LO)
    | fail)
  have b3 := B0.out.ext E3.out
  have y0 : w3.cell? ⟨bx, 0, none⟩ = some (ci kd) := b3.cell 0
  have y1 : w3.cell? ⟨bx, 1, none⟩ = some (ci who) := b3.cell 1
  have y2 : w3.cell? ⟨bx, 2, none⟩ = some (ci s) := b3.cell 2
  have y3 : w3.cell? ⟨bx, 3, none⟩ = some (ci t) := b3.cell 3
  have y4 : w3.cell? ⟨bx, 4, none⟩ = some (.int .u64 (Bv x)) := b3.cell 4
  clear b3 E1 E2
  go_upto_region 8 with (fail)
  go_cut [14] (fun c wx => c = .bool (rightB m1.now n ⟨kd, who, s, t, x⟩) ∧ wx = w3)
  case first =>
    by_cases h1 : (m1.now : Int) ≤ t
    · by_cases h2 : t ≤ 1099511627776
      · by_cases hk2 : kd = 2
        · subst hk2
          have hv : rightB m1.now n ⟨2, who, s, t, x⟩ = true := by simp [rightB, h1, h2]
          have HV := Lib.hid hv
          clear hv
          go_wp2_with fail
          go_meet
          exact ⟨by rw [HV.out], rfl⟩
        · have hkd2 : decide (kd = 2) = false := decide_eq_false hk2
          have hkb2 : (kd == 2) = false := by simpa using hk2
          by_cases hk1 : kd = 1
          · subst hk1
            by_cases hs0 : 0 ≤ s
            · by_cases hsn : s < n
              · cases hg : gb x.toNat with
                | false =>
                  have hg' : (FloatKind.f64.format.order x.toNat 0 == some .gt || FloatKind.f64.format.order x.toNat 0 == some .eq) = false := (gb_eq x.toNat).symm.trans hg
                  have hv : rightB m1.now n ⟨1, who, s, t, x⟩ = false := by simp [rightB, wtB, hg]
                  clear hg
                  have HV := Lib.hid hv
                  clear hv
                  go_wp2_with fail
                  go_meet
                  exact ⟨by rw [HV.out], rfl⟩
                | true =>
                  have hg' : (FloatKind.f64.format.order x.toNat 0 == some .gt || FloatKind.f64.format.order x.toNat 0 == some .eq) = true := (gb_eq x.toNat).symm.trans hg
                  cases hq : leB x.toNat 4787326403894837248 with
                  | false =>
                    have hl' : (FloatKind.f64.format.order x.toNat 4787326403894837248 == some .lt || FloatKind.f64.format.order x.toNat 4787326403894837248 == some .eq) = false := (leB_eq _ _).symm.trans hq
                    have hv : rightB m1.now n ⟨1, who, s, t, x⟩ = false := by simp [rightB, wtB, hq]
                    clear hg hq
                    have HV := Lib.hid hv
                    clear hv
                    go_wp2_with fail
                    go_meet
                    exact ⟨by rw [HV.out], rfl⟩
                  | true =>
                    have hl' : (FloatKind.f64.format.order x.toNat 4787326403894837248 == some .lt || FloatKind.f64.format.order x.toNat 4787326403894837248 == some .eq) = true := (leB_eq _ _).symm.trans hq
                    have hv : rightB m1.now n ⟨1, who, s, t, x⟩ = true := by simp [rightB, wtB, hg, hq, h1, h2, hs0, hsn]
                    clear hg hq
                    have HV := Lib.hid hv
                    clear hv
                    go_wp2_with fail
                    go_meet
                    exact ⟨by rw [HV.out], rfl⟩
              · have hv : rightB m1.now n ⟨1, who, s, t, x⟩ = false := by simp [rightB, hsn]
                have HV := Lib.hid hv
                clear hv
                go_wp2_with fail
                go_meet
                exact ⟨by rw [HV.out], rfl⟩
            · have hv : rightB m1.now n ⟨1, who, s, t, x⟩ = false := by simp [rightB, hs0]
              have HV := Lib.hid hv
              clear hv
              go_wp2_with fail
              go_meet
              exact ⟨by rw [HV.out], rfl⟩
          · have hkd1 : decide (kd = 1) = false := decide_eq_false hk1
            have hkb1 : (kd == 1) = false := by simpa using hk1
            have hv : rightB m1.now n ⟨kd, who, s, t, x⟩ = false := by simp [rightB, hk1, hk2]
            have HV := Lib.hid hv
            clear hv
            go_wp2_with fail
            go_meet
            exact ⟨by rw [HV.out], rfl⟩
      · have hv : rightB m1.now n ⟨kd, who, s, t, x⟩ = false := by simp [rightB, h2]
        have HV := Lib.hid hv
        clear hv
        go_wp2_with fail
        go_meet
        exact ⟨by rw [HV.out], rfl⟩
    · have hv : rightB m1.now n ⟨kd, who, s, t, x⟩ = false := by simp [rightB, h1]
      have HV := Lib.hid hv
      clear hv
      go_wp2_with fail
      go_meet
      exact ⟨by rw [HV.out], rfl⟩
  case rest =>
    obtain ⟨rfl, rfl⟩ := hcut
    obtain ⟨R, hRv⟩ : ∃ R, rightB m1.now n ⟨kd, who, s, t, x⟩ = R := ⟨_, rfl⟩
    rw [hRv] at HR ⊢
    clear hRv
    by_cases hk12 : kd = 1 ∨ kd = 2
    · have HRR := Lib.hid (HR.out hk12)
      have HS := Lib.hid (set_any g lb m1 kd who s t x wc M3.out)
      rw [HRR.out] at HS HC
      obtain ⟨m2, hm2⟩ : ∃ M, (setP m1 ⟨kd, who, s, t, x⟩).2 = M := ⟨_, rfl⟩
      rw [hm2] at HS HC
      clear HR HRR hm2
      cases R with
      | true =>
        rcases hk12 with rfl | rfl
        all_goals
          go_wp2_with (first
            | (go_at_call 18; refine HS.out.mono ?_; clear HS; rintro e w5 ⟨rfl, k1, k2⟩
               have E5 := Lib.hid (E3.out.grw2 k2 F4.out.a.2.2.1 F4.out.a.2.2.2)
               clear k1 k2)
            | fail)
          go_ret
          exact ⟨rfl, E0.out.trans E5.out⟩
      | false =>
        have hmm := HC.out rfl
        subst hmm
        have HW8 := Lib.hid (wave_eq m2.win (HB.out.win (by omega)) M3.out.ok.w8)
        have HG0 := Lib.hid (go_now M3.out.ok)
        clear HC
        rcases hk12 with rfl | rfl
        all_goals
          go_wp2_with (first
            | (go_at_call 18; refine HS.out.mono ?_; clear HS; rintro e w5 ⟨rfl, k1, k2⟩
               have E5 := Lib.hid (E3.out.grw2 k2 F4.out.a.2.2.1 F4.out.a.2.2.2)
               have M5 := Lib.hid k1
               have N5 := Lib.hid (N3.out.grw2 k2 F4.out.b.1 F4.out.b.2.1 F4.out.b.2.2.1 F4.out.b.2.2.2)
               have R5 := Lib.hid (row_calls g lb m2 w5 k1)
               clear k1 k2)
            | (go_at_call_of 12 (Value.pointer (some ⟨g, 0, none⟩)); refine R5.out.mono ?_; clear R5; rintro e w6 ⟨v6, rfl, h1, h2⟩
               have A6 := Lib.hid h1.rd
               have E6 := Lib.hid (E5.out.trans h2)
               have M6 := Lib.hid (M5.out.ext h2)
               have N6 := Lib.hid (N5.out.ext h2)
               have R6 := Lib.hid (row_calls g2 lb2 m2 w6 N6.out)
               clear h1 h2 M5 N5 E5)
            | (go_at_call_of 12 (Value.pointer (some ⟨g2, 0, none⟩)); refine R6.out.mono ?_; clear R6; rintro e w7 ⟨v7, rfl, h1, h2⟩
               have E7 := Lib.hid (E6.out.trans h2)
               have M7 := Lib.hid (M6.out.ext h2)
               have N7 := Lib.hid (N6.out.ext h2)
               have R7 := Lib.hid (rows_calls v6 v7 m2.L w7 (h2.rd A6.out) h1.rd (by have := M7.out.ok.l2; omega))
               clear h1 h2 M6 N6 E6 A6)
            | (go_at_call 15; refine R7.out.mono ?_; clear R7; rintro e w8 ⟨rfl, n8, h8⟩
               have x8 : Ext w7 w8 := by rw [← h8]; exact (Ext.refl w7).drewN n8
               have E8 := Lib.hid (E7.out.trans x8)
               have M8 := Lib.hid (M7.out.ext x8)
               have N8 := Lib.hid (N7.out.ext x8)
               have V8 := Lib.hid (wave_calls g lb m2 w8 M8.out (HB.out.win (by omega)))
               clear h8 x8 M7 N7 E7)
            | (go_at_call_of 21 (Value.pointer (some ⟨g, 0, none⟩)); refine V8.out.mono ?_; clear V8; rintro e w9 ⟨rfl, h2⟩
               have E9 := Lib.hid (E8.out.trans h2)
               have M9 := Lib.hid (M8.out.ext h2)
               have N9 := Lib.hid (N8.out.ext h2)
               have V9 := Lib.hid (wave_calls g2 lb2 m2 w9 N9.out (HB.out.win (by omega)))
               clear h2 M8 N8 E8)
            | (go_at_call_of 21 (Value.pointer (some ⟨g2, 0, none⟩)); refine V9.out.mono ?_; clear V9; rintro e w10 ⟨rfl, h2⟩
               have E10 := Lib.hid (E9.out.trans h2)
               have M10 := Lib.hid (M9.out.ext h2)
               have G10 := Lib.hid (go_calls g lb m2 m2.now w10 M10.out)
               rw [HG0.out] at G10
               have hweq := fun w => HW8.out w
               clear h2 M9 N9 E9)
            | (go_at_call 22; refine G10.out.mono ?_; clear G10; rintro e w11 ⟨rfl, k1, k2⟩
               have E11 := Lib.hid (E10.out.grw2 k2 F4.out.a.2.2.1 F4.out.a.2.2.2)
               clear k1 k2)
            | (go_at_call 13; refine (HN.out _ _).mono ?_; rintro e w12 ⟨rfl, rfl⟩)
            | fail)
          go_ret
          exact ⟨rfl, E0.out.trans E11.out⟩
    · have hk1 : decide (kd = 1) = false := decide_eq_false (fun h => hk12 (Or.inl h))
      have hk2 : decide (kd = 2) = false := decide_eq_false (fun h => hk12 (Or.inr h))
      have hb1 : (kd == 1) = false := by simpa using fun h => hk12 (Or.inl h)
      have hb2 : (kd == 2) = false := by simpa using fun h => hk12 (Or.inr h)
      have hn1 : (kd != 1) = true := by simpa using fun h => hk12 (Or.inl h)
      have hn2 : (kd != 2) = true := by simpa using fun h => hk12 (Or.inr h)
      clear hk12
      go_wp2_with fail
      go_ret
      exact ⟨rfl, E0.out.trans E3.out⟩
theorem refuses_walk (n h : Int) (sv : Value) (l : List Sc) (o : Sc) (W : World) (hs : RdS W sv l) (hl : l.length * 40 ≤ 140737488351232) :
    Calls Try.prog 5 #[ci n, ci h, sv, scv o] W fun e w' => e = .returned (.bool true) ∧ Below W.heap.size W w' := by
  cases hf : fitB n h with
  | true => exact (refuses_fit n h sv l o W hf hs hl).mono fun e w' ⟨h1, h2⟩ => ⟨h1, h2.to⟩
  | false => exact (refuses_bad n h sv o W hf).mono fun e w' ⟨h1, h2⟩ => ⟨h1, h2.to⟩
end Go.Proofs.Ytjgdeijodjihlaa
