/- LoadHalves: the walk of the law. -/
import Derived.Test.YtjgdeijodjihlaaD9u
import Derived.Test.YtjgdeijodjihlaaD9i
import Derived.IntWalk
import Derived.Deep.DeepCutAuto
namespace Go.Proofs.Ytjgdeijodjihlaa
open Go.RowKit
set_option linter.unusedVariables false

theorem run_half : ∀ (l : List Sc) (m : Mt) (c : Int), (runM m c l).1.half = m.half ∧ (runM m c l).1.L.length = m.L.length
  | [], m, c => ⟨rfl, rfl⟩
  | o :: r, m, c => by
    rw [runM_cons]
    obtain ⟨h1, h2⟩ := run_half r (setP m o).2 (if (setP m o).1 = true then o.now else c)
    rw [h1, h2]
    refine ⟨?_, setP_len _ _⟩
    have on : ∀ t : Int, (onP m t).2.half = m.half := fun t => by
      unfold onP
      split
      · rfl
      · split <;> rfl
    unfold setP
    split
    · unfold hitP
      split
      · rfl
      · split
        · unfold addM; exact on _
        · rfl
    · split
      · exact on _
      · rfl
set_option maxRecDepth 100000 in
set_option maxHeartbeats 2000000 in
theorem halves_bad (n h a b : Int) (sv : Value) (W : World) (hf : fitB n h = false) :
    Calls Try.prog 7 #[ci n, ci h, sv, ci a, ci b] W fun e w' => e = .returned (.bool true) ∧ Ext W w' := by
  have HK := Lib.hid (known_calls W)
  have HM := Lib.hid (fun w => made_bad n h sv w hf)
  have HF := Lib.hid (fun w => fit_calls n h w)
  rw [hf] at HF
  clear hf
  go_enter Try.func7, Try.ntmps7
  go_wp2_with (first
    | (go_at_call 9; refine HK.out.mono ?_; clear HK; rintro e w1 ⟨rfl, h1⟩; have E1 := Lib.hid h1; clear h1)
    | (go_at_call 10; refine (HM.out _).mono ?_; rintro e w2 ⟨rfl, rfl⟩)
    | (go_at_call 11; refine (HF.out _).mono ?_; clear HF; rintro e w2 ⟨rfl, rfl⟩)
    | fail)
  go_ret
  exact ⟨rfl, E1.out⟩
/-- two meters alike -/
structure Tw (W w : World) (g lb g2 lb2 : Nat) (m n : Mt) : Prop where
  m : MB w g lb m
  n : MB w g2 lb2 n
  ext : Ext W w
theorem Tw.ext' {W w w' : World} {g lb g2 lb2 : Nat} {m n : Mt} (h : Tw W w g lb g2 lb2 m n) (e : Ext w w') : Tw W w' g lb g2 lb2 m n := ⟨h.m.ext e, h.n.ext e, h.ext.trans e⟩
theorem Tw.first {W w w' : World} {g lb g2 lb2 : Nat} {m n m' : Mt} (h : Tw W w g lb g2 lb2 m n) (f : Far4 W g2 lb2 g lb) (k : MB w' g lb m') (e : Grw2 w w' g lb) : Tw W w' g lb g2 lb2 m' n :=
  ⟨k, h.n.grw2 e f.b.1 f.b.2.1 f.b.2.2.1 f.b.2.2.2, h.ext.grw2 e f.a.2.2.1 f.a.2.2.2⟩
theorem Tw.second {W w w' : World} {g lb g2 lb2 : Nat} {m n n' : Mt} (h : Tw W w g lb g2 lb2 m n) (f : Far4 W g2 lb2 g lb) (k : MB w' g2 lb2 n') (e : Grw2 w w' g2 lb2) : Tw W w' g lb g2 lb2 m n' :=
  ⟨h.m.grw2 e (Ne.symm f.b.1) (Ne.symm f.b.2.2.1) (Ne.symm f.b.2.1) (Ne.symm f.b.2.2.2), k, h.ext.grw2 e f.a.1 f.a.2.1⟩
set_option maxRecDepth 100000 in
set_option maxHeartbeats 8000000 in
theorem halves_fit (n h a b : Int) (sv : Value) (l : List Sc) (W : World) (hf : fitB n h = true) (hs : RdS W sv l) (hl : l.length * 40 ≤ 140737488351232) (ha : -9223372036854775808 ≤ a ∧ a ≤ 9223372036854775807) (hb : -9223372036854775808 ≤ b ∧ b ≤ 9223372036854775807) :
    Calls Try.prog 7 #[ci n, ci h, sv, ci a, ci b] W fun e w' => e = .returned (.bool true) ∧ Ext W w' := by
  have hn := (fitB_iff n h).1 hf
  obtain ⟨N, rfl⟩ : ∃ k : Nat, n = (k : Int) := ⟨n.toNat, by omega⟩
  obtain ⟨D, rfl⟩ : ∃ k : Nat, h = (k : Int) := ⟨h.toNat, by omega⟩
  have hbn := run_bnd N D l hl
  obtain ⟨hh, hlen⟩ := run_half l (newM N D) 0
  have HK := Lib.hid (known_calls W)
  have HM := Lib.hid (fun w (e : Ext W w) => made_fit (N : Int) (D : Int) sv l w hf (hs.ext e) (by omega))
  simp only [Int.toNat_natCast] at HM
  have HF := Lib.hid (fun w => fit_calls (N : Int) (D : Int) w)
  rw [hf] at HF
  have HN := Lib.hid num_calls
  obtain ⟨m1, hm1⟩ : ∃ M, (runM (newM N D) 0 l).1 = M := ⟨_, rfl⟩
  have hck : (runM (newM N D) 0 l).2 = (m1.now : Int) := by rw [← hm1]; exact (run_clock l _ 0 rfl).symm
  rw [hm1, hck] at HM
  rw [hm1] at hbn hh hlen
  have hlen : m1.L.length = N := by rw [hlen]; unfold newM; simp
  have hh : m1.half = D := hh
  obtain ⟨A, hA⟩ : ∃ k : Nat, a % 2300 = (k : Int) := ⟨(a % 2300).toNat, by omega⟩
  obtain ⟨B, hB⟩ : ∃ k : Nat, b % 40 = (k : Int) := ⟨(b % 40).toNat, by omega⟩
  have HP1 := Lib.hid (fun w => place_calls a 2300 ha.1 ha.2 (by omega) (by omega) w)
  have HP2 := Lib.hid (fun w => place_calls b 40 hb.1 hb.2 (by omega) (by omega) w)
  rw [hA] at HP1
  rw [hB] at HP2
  have hA2 : (A : Int) ≤ 2299 := by omega
  have hB2 : (B : Int) ≤ 39 := by omega
  have hD1 : (1 : Int) ≤ D := hn.2.2.1
  have hD2 : (D : Int) ≤ 1048576 := hn.2.2.2
  have hN1 : (1 : Int) ≤ N := hn.1
  have hN2 : (N : Int) ≤ 64 := hn.2.1
  obtain ⟨P1, hP1⟩ : ∃ P, D * A = P := ⟨_, rfl⟩
  obtain ⟨P2, hP2⟩ : ∃ P, D * (A + B) = P := ⟨_, rfl⟩
  have hPle : P1 ≤ P2 := by rw [← hP1, ← hP2]; exact Nat.mul_le_mul_left _ (by omega)
  have hP2b : P2 ≤ 1048576 * 2338 := by rw [← hP2]; exact Nat.mul_le_mul (by omega) (by omega)
  have q1 : (D : Int) * (A : Int) = (P1 : Int) := by rw [← hP1]; exact (Int.natCast_mul D A).symm
  have q2 : (D : Int) * ((A : Int) + (B : Int)) = (P2 : Int) := by rw [← hP2, Int.natCast_mul, Int.natCast_add]
  have HB := Lib.hid hbn
  have HL := Lib.hid hlen
  have HAP : Hid (m1.ok → ages m1 (m1.now + P1) = A ∧ onM (onM m1 (m1.now + P1)) (m1.now + P2) = onM m1 (m1.now + P2) ∧ ∀ i, (hi : i < m1.L.length) → ofP (onM m1 (m1.now + P1)) i = halves A m1.L[i]) := fun hok => by
    refine ⟨?_, ?_, fun i hi => ?_⟩
    · rw [← hP1, ← hh]; exact ages_whole m1 A hok.h1
    · rw [← hP1, ← hP2, ← hh]; exact on_two hbn (by omega) hok A B
    · rw [← hP1, ← hh]; exact of_on hbn (by omega) hok A i hi
  clear hf hs hl hn hm1 hck hbn hh hlen hA hB ha hb hP1 hP2
  go_enter Try.func7, Try.ntmps7
  go_wp2_with (first
    | (go_at_call 9; refine HK.out.mono ?_; clear HK; rintro e w1 ⟨rfl, h1⟩; have E1 := Lib.hid h1; clear h1)
    | (go_at_call 10; refine (HM.out _ E1.out).mono ?_; rintro e w2 ⟨g, lb, rfl, h1, h2, h3, h4⟩
       have LO := Lib.hid (And.intro h1 h2)
       have M2 := Lib.hid h3
       have E2 := Lib.hid (E1.out.trans h4)
       clear h1 h2 h3 h4)
    | (go_at_call 10; refine (HM.out _ E2.out).mono ?_; clear HM; rintro e w3 ⟨g2, lb2, rfl, h1, h2, h3, h4⟩
       have T3 : Hid (Tw W w3 g lb g2 lb2 m1 m1) := ⟨M2.out.ext h4, h3, E2.out.trans h4⟩
       have hnow : (m1.now : Int) ≤ 1099511627776 := by have := h3.ok.n1; omega
       have F4 : Hid (Far4 W g2 lb2 g lb) := by
         have s1 := E1.out.size
         have s2 := E2.out.size
         have a1 := M2.out.b.lt
         have a2 := M2.out.l.lt
         have a3 := LO.out.1
         have a4 := LO.out.2
         exact ⟨⟨by omega, by omega, by omega, by omega⟩, ⟨by omega, by omega, by omega, by omega⟩⟩
       clear h1 h2 h3 h4 M2 LO E1 E2)
    | (go_at_call 11; refine (HF.out _).mono ?_; rintro e w4 ⟨rfl, rfl⟩)
    | fail)
  refine (HP1.out _).mono ?_
  rintro e w4 ⟨rfl, rfl⟩
  go_wp2_with fail
  refine (HP2.out _).mono ?_
  rintro e w4 ⟨rfl, rfl⟩
  by_cases hT : 1099511627776 < (m1.now : Int) + (P2 : Int)
  · go_wp2_with fail
    go_ret
    exact ⟨rfl, T3.out.ext⟩
  · have hok := T3.out.m.ok
    obtain ⟨g1, g2', g3⟩ := HAP.out hok
    have hNL := HL.out
    have e1 : onP m1 ((m1.now : Int) + (P1 : Int)) = (0, onM m1 (m1.now + P1)) := by
      have := onP_whole hok (m1.now + P1) (by omega) (by omega)
      rw [Int.natCast_add] at this; exact this
    have e2 : onP m1 ((m1.now : Int) + (P2 : Int)) = (0, onM m1 (m1.now + P2)) := by
      have := onP_whole hok (m1.now + P2) (by omega) (by omega)
      rw [Int.natCast_add] at this; exact this
    have e3 : onP (onM m1 (m1.now + P1)) ((m1.now : Int) + (P2 : Int)) = (0, onM m1 (m1.now + P2)) := by
      have := onP_whole (onM_ok hok (t := m1.now + P1) (by omega)) (m1.now + P2) (by show m1.now + P1 ≤ _; omega) (by omega)
      rw [Int.natCast_add, g2'] at this; exact this
    have E1' := Lib.hid e1
    have E2' := Lib.hid e2
    have E3' := Lib.hid e3
    have G3 := Lib.hid g3
    have hB3 := HB.out.onM (by omega) (by omega) (m1.now + P2)
    have W8 : m1.win.length = 8 := hok.w8
    obtain ⟨m2, hm2⟩ : ∃ M, onM m1 (m1.now + P1) = M := ⟨_, rfl⟩
    obtain ⟨m3, hm3⟩ : ∃ M, onM m1 (m1.now + P2) = M := ⟨_, rfl⟩
    rw [hm2] at E1' E3' G3
    rw [hm3] at E2' E3' hB3
    have HB3 := Lib.hid hB3
    have HR := Lib.hid (row_calls g lb m1 w3 T3.out.m)
    clear e1 e2 e3 g1 g2' g3 hm2 hm3 hB3 HAP
    go_wp2_with (first
      | (go_at_call 12; refine HR.out.mono ?_; clear HR; rintro e w4 ⟨v4, rfl, h1, h2⟩
         obtain ⟨ga, ca, rfl, sa, la1, la2, la3, la4⟩ := h1.spn hNL (by omega)
         have SA := Lib.hid sa
         have NE := Lib.hid (show ga ≠ g ∧ ga ≠ lb from ⟨by have := T3.out.m.b.lt; omega, by have := T3.out.m.l.lt; omega⟩)
         have T4 := Lib.hid (T3.out.ext' h2)
         have hca : (ca : Int) ≤ 9223372036854775807 := by simp only [maxLen] at la4; omega
         have hcb : (N : Int) ≤ ca := by omega
         have HG := Lib.hid (go_calls g lb m1 ((m1.now : Int) + (P1 : Int)) w4 T4.out.m)
         rw [E1'.out] at HG
         clear h1 h2 sa la1 la2 la3 la4)
      | (go_at_call 22; refine HG.out.mono ?_; clear HG; rintro e w5 ⟨rfl, k1, k2⟩
         have T5 := Lib.hid (T4.out.first F4.out k1 k2)
         have S5 := Lib.hid (SA.out.grw2 k2 NE.out.1 NE.out.2)
         clear k1 k2 T4 SA)
      | (go_at_call 13; refine (HN.out _ _).mono ?_; rintro e w6 ⟨rfl, rfl⟩)
      | fail)
    go_loop [16] (fun iv => ∃ (i : Nat), i ≤ N ∧ iv = .int .i64 i) (fun iv => (N - (intOf iv).toNat))
    case atStart => exact ⟨0, by omega, rfl⟩
    case round =>
      obtain ⟨i, hi, rfl⟩ := hrel
      by_cases hlt : i < N
      · have hil : i < m1.L.length := by omega
        have hci := S5.out.cell i hil
        have hv := HB.out.l m1.L[i] (List.getElem_mem _)
        have OF := Lib.hid (of_calls g lb m2 i w5 T5.out.m)
        rw [G3.out i hil] at OF
        generalize m1.L[i] = x at *
        have HV := Lib.hid hv
        clear hv hil
        go_wp2_with fail
        go_loop [17, 18] (fun tv kv => ∃ (k : Nat), k ≤ A ∧ kv = .int .i64 k ∧ tv = cf (halves k x)) (fun _ kv => (A - (intOf kv).toNat))
        case atStart => exact ⟨0, by omega, rfl, rfl⟩
        case round =>
          obtain ⟨k, hk, rfl, rfl⟩ := hrel
          have hvk := vle_halves HV.out (by omega) (by omega) k
          have hz := gt_zero hvk.1
          have hsucc : halves (k + 1) x = fhalf (halves k x) := rfl
          have hadd : ∀ d, halves (k + d) x = halves d (halves k x) := fun d => halves_add k d x
          have LK := Lib.hid (like_calls (halves A x))
          by_cases hkA : k < A
          · by_cases h0 : halves k x = 0
            · have hend : halves A x = 0 := by
                obtain ⟨d, hd⟩ : ∃ d, A = k + d := ⟨A - k, by omega⟩
                rw [hd, hadd, h0]; exact halves_nil d
              rw [hend] at LK
              have OF0 := OF
              rw [hend] at OF0
              rw [h0] at hz ⊢
              have hgt : (FloatKind.f64.format.order 0 0 == some .gt) = false := by kernel_rfl
              clear hz hsucc hadd hvk h0 hend OF
              go_wp2_with (first
                | (go_at_call 20; refine OF0.out.mono ?_; clear OF0; rintro e w6 ⟨rfl, rfl⟩)
                | (go_at_call 19; refine (LK.out _).mono ?_; rintro e w6 ⟨rfl, rfl⟩)
                | fail)
              go_round
              case measure => simp only [intOf]; omega
              case rel => exact ⟨i + 1, by omega, by go_num⟩
            · rw [decide_eq_true h0] at hz
              have hz' := (gtB_eq _ _).symm.trans hz
              have hmul := fun w => run_float_arith (P := Try.prog) w .mul 33 .f64 _ _ _ (fhalf_eq (vle_good hvk)).1
              obtain ⟨y, hy⟩ : ∃ y, halves k x = y := ⟨_, rfl⟩
              rw [hy] at hz' hmul hsucc ⊢
              have HSU := Lib.hid hsucc
              clear hz hsucc hadd hvk h0 hy
              go_wp2_with fail
              go_round
              case measure => simp only [intOf]; omega
              case rel => exact ⟨k + 1, by omega, by go_num, by rw [HSU.out]⟩
          · obtain rfl : A = k := by omega
            obtain ⟨y, hy⟩ : ∃ y, halves A x = y := ⟨_, rfl⟩
            rw [hy] at OF LK ⊢
            clear hz hsucc hadd hvk hy
            go_wp2_with (first
              | (go_at_call 20; refine OF.out.mono ?_; clear OF; rintro e w6 ⟨rfl, rfl⟩)
              | (go_at_call 19; refine (LK.out _).mono ?_; rintro e w6 ⟨rfl, rfl⟩)
              | fail)
            go_round
            case measure => simp only [intOf]; omega
            case rel => exact ⟨i + 1, by omega, by go_num⟩
      · obtain rfl : N = i := by omega
        clear hi hlt G3 S5
        have HG2 := Lib.hid (go_calls g lb m2 ((m1.now : Int) + (P2 : Int)) w5 T5.out.m)
        rw [E3'.out] at HG2
        go_wp2_with (first
          | (go_at_call_of 22 (Value.pointer (some ⟨g, 0, none⟩)); refine HG2.out.mono ?_; clear HG2; rintro e w6 ⟨rfl, k1, k2⟩
             have T6 := Lib.hid (T5.out.first F4.out k1 k2)
             have HG3 := Lib.hid (go_calls g2 lb2 m1 ((m1.now : Int) + (P2 : Int)) w6 T6.out.n)
             rw [E2'.out] at HG3
             clear k1 k2 T5)
          | (go_at_call_of 22 (Value.pointer (some ⟨g2, 0, none⟩)); refine HG3.out.mono ?_; clear HG3; rintro e w7 ⟨rfl, k1, k2⟩
             have T7 := Lib.hid (T6.out.second F4.out k1 k2)
             have R7 := Lib.hid (row_calls g lb m3 w7 T7.out.m)
             clear k1 k2 T6)
          | (go_at_call 13; refine (HN.out _ _).mono ?_; rintro e w6 ⟨rfl, rfl⟩)
          | (go_at_call_of 12 (Value.pointer (some ⟨g, 0, none⟩)); refine R7.out.mono ?_; clear R7; rintro e w8 ⟨v8, rfl, h1, h2⟩
             have A8 := Lib.hid h1.rd
             have T8 := Lib.hid (T7.out.ext' h2)
             have R8 := Lib.hid (row_calls g2 lb2 m3 w8 T8.out.n)
             clear h1 h2 T7)
          | (go_at_call_of 12 (Value.pointer (some ⟨g2, 0, none⟩)); refine R8.out.mono ?_; clear R8; rintro e w9 ⟨v9, rfl, h1, h2⟩
             have T9 := Lib.hid (T8.out.ext' h2)
             have R9 := Lib.hid (rows_calls v8 v9 m3.L w9 (h2.rd A8.out) h1.rd (by have := T9.out.m.ok.l2; omega))
             clear h1 h2 T8 A8)
          | (go_at_call 15; refine R9.out.mono ?_; clear R9; rintro e w10 ⟨rfl, n10, h10⟩
             have x10 : Ext w9 w10 := by rw [← h10]; exact (Ext.refl w9).drewN n10
             have T10 := Lib.hid (T9.out.ext' x10)
             have V10 := Lib.hid (wave_calls g lb m3 w10 T10.out.m (HB3.out.win (by omega)))
             clear h10 x10 T9)
          | (go_at_call_of 21 (Value.pointer (some ⟨g, 0, none⟩)); refine V10.out.mono ?_; clear V10; rintro e w11 ⟨rfl, h2⟩
             have T11 := Lib.hid (T10.out.ext' h2)
             have V11 := Lib.hid (wave_calls g2 lb2 m3 w11 T11.out.n (HB3.out.win (by omega)))
             clear h2 T10)
          | (go_at_call_of 21 (Value.pointer (some ⟨g2, 0, none⟩)); refine V11.out.mono ?_; clear V11; rintro e w12 ⟨rfl, h2⟩
             have T12 := Lib.hid (T11.out.ext' h2)
             have S12 := Lib.hid (spread_calls g lb m3 w12 T12.out.m (HB3.out.row (by omega)))
             have hweq := fun w => wave_eq m3.win (HB3.out.win (by omega)) T12.out.m.ok.w8 w
             clear h2 T11)
          | (go_at_call_of 26 (Value.pointer (some ⟨g, 0, none⟩)); refine S12.out.mono ?_; clear S12; rintro e w13 ⟨rfl, h2⟩
             have T13 := Lib.hid (T12.out.ext' h2)
             have S13 := Lib.hid (spread_calls g2 lb2 m3 w13 T13.out.n (HB3.out.row (by omega)))
             clear h2 T12)
          | (go_at_call_of 26 (Value.pointer (some ⟨g2, 0, none⟩)); refine S13.out.mono ?_; clear S13; rintro e w14 ⟨rfl, h2⟩
             have T14 := Lib.hid (T13.out.ext' h2)
             have LK := Lib.hid (like_calls (spreadP m3.L))
             clear h2 T13)
          | (go_at_call 19; refine (LK.out _).mono ?_; rintro e w15 ⟨rfl, rfl⟩)
          | fail)
        go_ret
        exact ⟨rfl, T14.out.ext⟩
theorem halves_walk (n h a b : Int) (sv : Value) (l : List Sc) (W : World) (hs : RdS W sv l) (hl : l.length * 40 ≤ 140737488351232) (ha : -9223372036854775808 ≤ a ∧ a ≤ 9223372036854775807) (hb : -9223372036854775808 ≤ b ∧ b ≤ 9223372036854775807) :
    Calls Try.prog 7 #[ci n, ci h, sv, ci a, ci b] W fun e w' => e = .returned (.bool true) ∧ Below W.heap.size W w' := by
  cases hf : fitB n h with
  | true => exact (halves_fit n h a b sv l W hf hs hl ha hb).mono fun e w' ⟨h1, h2⟩ => ⟨h1, h2.to⟩
  | false => exact (halves_bad n h a b sv W hf).mono fun e w' ⟨h1, h2⟩ => ⟨h1, h2.to⟩
end Go.Proofs.Ytjgdeijodjihlaa
