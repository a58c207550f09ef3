/- LoadApart: the walk of the law. -/
import Derived.Test.YtjgdeijodjihlaaD9h
namespace Go.Proofs.Ytjgdeijodjihlaa
open Go.RowKit
set_option linter.unusedVariables false

theorem Blk.setbox {w : World} {g : Nat} {a b c d x u : Value} {t : TypeId} (h : Blk w g #[a, b, c, d, x] t) : Blk (w.setCell ⟨g, 0, none⟩ u) g #[u, b, c, d, x] t := h.set 0 u
theorem set_any (g lb : Nat) (m : Mt) (k who s t : Int) (x : BitVec 64) (w : World) (h : MB w g lb m) :
    Calls Try.prog 18 #[.pointer (some ⟨g, 0, none⟩), .agg #[ci k, ci who, ci s, ci t, .int .u64 (Bv x)]] w fun e w' => e = .returned (.bool (setP m ⟨k, who, s, t, x⟩).1) ∧ MB w' g lb (setP m ⟨k, who, s, t, x⟩).2 ∧ Grw2 w w' g lb :=
  set_calls g lb m ⟨k, who, s, t, x⟩ w h
set_option maxHeartbeats 4000000 in
theorem apart_bad (n h : Int) (sv : Value) (sh : Int) (W : World) (hf : fitB n h = false) :
    Calls Try.prog 4 #[ci n, ci h, sv, ci sh] W fun e w' => e = .returned (.bool true) ∧ Ext W w' := by
  have HK := Lib.hid (known_calls W)
  have HM := Lib.hid (fun w => made_bad n h sv w hf)
  have HW := Lib.hid (fun w => new_bad n h w hf)
  have HF := Lib.hid (fun w => fit_calls n h w)
  rw [hf] at HF
  have HN := Lib.hid num_calls
  clear hf
  go_enter Try.func4, Try.ntmps4
  go_wp2_with (first
    | (go_at_call 9; refine HK.out.mono ?_; clear HK; rintro e w1 ⟨rfl, h1⟩; have E1 := Lib.hid h1; clear h1)
    | (go_at_call 10; refine (HM.out _).mono ?_; clear HM; rintro e w2 ⟨rfl, rfl⟩)
    | (go_at_call 16; refine (HW.out _).mono ?_; clear HW; rintro e w2 ⟨rfl, rfl⟩)
    | (go_at_call 11; refine (HF.out _).mono ?_; clear HF; rintro e w2 ⟨rfl, rfl⟩)
    | (go_at_call 13; refine (HN.out _ _).mono ?_; rintro e w2 ⟨rfl, rfl⟩)
    | fail)
  go_ret
  exact ⟨rfl, E1.out⟩
theorem setP_two (m : Mt) (who s t : Int) (x : BitVec 64) : (setP m ⟨2, who, s, t, x⟩).2 = (onP m t).2 := by
  simp [setP]
theorem runA_step {sh n : Int} {m : Mt} {l : List Sc} {k : Nat} (h : k < l.length) : runA sh n m (l.drop k) = runA sh n (apP sh n m l[k]) (l.drop (k + 1)) := by
  rw [dropcons h, runA_cons]
structure Ap (W wr : World) (g lb g2 lb2 : Nat) (m n : Mt) : Prop where
  m : MB wr g lb m
  n : MB wr g2 lb2 n
  ext : Ext W wr
structure Far4 (W : World) (g lb g2 lb2 : Nat) : Prop where
  a : W.heap.size ≤ g ∧ W.heap.size ≤ lb ∧ W.heap.size ≤ g2 ∧ W.heap.size ≤ lb2
  b : g ≠ g2 ∧ g ≠ lb2 ∧ lb ≠ g2 ∧ lb ≠ lb2
theorem Ap.ext' {W wr w : World} {g lb g2 lb2 : Nat} {m n : Mt} (h : Ap W wr g lb g2 lb2 m n) (e : Ext wr w) : Ap W w g lb g2 lb2 m n := ⟨h.m.ext e, h.n.ext e, h.ext.trans e⟩
theorem Ap.step {W wr w : World} {g lb g2 lb2 : Nat} {m n n' : Mt} (h : Ap W wr g lb g2 lb2 m n) (f : Far4 W g lb g2 lb2) (k : MB w g2 lb2 n') (e : Grw2 wr w g2 lb2) : Ap W w g lb g2 lb2 m n' :=
  ⟨h.m.grw2 e f.b.1 f.b.2.1 f.b.2.2.1 f.b.2.2.2, k, h.ext.grw2 e f.a.2.2.1 f.a.2.2.2⟩
theorem Ap.cell0 {W wr w : World} {g lb g2 lb2 : Nat} {m n : Mt} (h : Ap W wr g lb g2 lb2 m n) {b : Nat} {c : Array Value} (k : Blk wr b c 41) : b ≠ g2 ∧ b ≠ lb2 :=
  ⟨fun e => by subst e; exact absurd (Blk.type h.n.b k) (by decide), fun e => by subst e; exact absurd (Blk.type h.n.l k) (by decide)⟩
set_option maxHeartbeats 8000000 in
theorem apart_fit (n h : Int) (sv : Value) (l : List Sc) (sh : Int) (W : World) (hf : fitB n h = true) (hs : RdS W sv l) (hl : l.length ≤ 9223372036854775807) (hsh : -9223372036854775808 ≤ sh ∧ sh ≤ 9223372036854775807) :
    Calls Try.prog 4 #[ci n, ci h, sv, ci sh] W fun e w' => e = .returned (.bool true) ∧ Ext W w' := by
  have hl' : (l.length : Int) ≤ 9223372036854775807 := by omega
  have hn := (fitB_iff n h).1 hf
  obtain ⟨N, rfl⟩ : ∃ k : Nat, n = (k : Int) := ⟨n.toNat, by omega⟩
  obtain ⟨D, rfl⟩ : ∃ k : Nat, h = (k : Int) := ⟨h.toNat, by omega⟩
  have HAP := Lib.hid (apart_of sh N D l)
  have HK := Lib.hid (known_calls W)
  have HM := Lib.hid (fun w (e : Ext W w) => made_fit (N : Int) (D : Int) sv l w hf (hs.ext e) hl)
  have HW := Lib.hid (fun w => new_fit (N : Int) (D : Int) w hf)
  simp only [Int.toNat_natCast] at HM HW
  have HN := Lib.hid num_calls
  have HS := Lib.hid hs
  have hs1 := hs
  obtain ⟨ad, c, rfl, _⟩ := hs1.at
  have hN2 : (N : Int) ≤ 64 := hn.2.1
  obtain ⟨M1, hM1⟩ : ∃ M, (runM (newM N D) 0 l).1 = M := ⟨_, rfl⟩
  obtain ⟨R, hR⟩ : ∃ M, runA sh N (newM N D) l = M := ⟨_, rfl⟩
  rw [hM1, hR] at HAP
  rw [hM1] at HM
  obtain ⟨n0, hn0⟩ : ∃ M, newM N D = M := ⟨_, rfl⟩
  rw [hn0] at HW hR
  have HR := Lib.hid hR
  clear hf hs hl hn hs1 hM1 hR
  go_enter Try.func4, Try.ntmps4
  go_wp2_with (first
    | (go_at_call 9; refine HK.out.mono ?_; clear HK; rintro e w1 ⟨rfl, h1⟩; have E1 := Lib.hid h1; clear h1)
    | (go_at_call 10; refine (HM.out _ E1.out).mono ?_; clear HM; rintro e w2 ⟨g, lb, rfl, h1, h2, h3, h4⟩
       have LO := Lib.hid (And.intro h1 h2)
       have MA := Lib.hid h3
       have E2 := Lib.hid h4
       clear h1 h2 h3 h4)
    | (go_at_call 16; refine (HW.out _).mono ?_; clear HW; rintro e w3 ⟨g2, lb2, rfl, h1, h2, h3, h4⟩
       have A3 : Hid (Ap W w3 g lb g2 lb2 M1 n0) := ⟨MA.out.ext h4, h3, (E1.out.trans E2.out).trans h4⟩
       have F4 : Hid (Far4 W g lb g2 lb2) := by
         have s1 := E1.out.size
         have s2 := E2.out.size
         have a1 := MA.out.b.lt
         have a2 := MA.out.l.lt
         have a3 := LO.out.1
         have a4 := LO.out.2
         exact ⟨⟨by omega, by omega, by omega, by omega⟩, ⟨by omega, by omega, by omega, by omega⟩⟩
       clear h1 h2 h3 h4 E1 E2 MA LO)
    | (go_at_call 13; refine (HN.out _ _).mono ?_; rintro e w2 ⟨rfl, rfl⟩)
    | fail)
  go_loopw [13] (fun iv wx => ∃ (k : Nat) (m : Mt), k ≤ l.length ∧ iv = .int .i64 k ∧ Hid (Ap W wx g lb g2 lb2 M1 m ∧ runA sh N m (l.drop k) = R)) (fun iv _ => (l.length - (intOf iv).toNat))
  case atStart => exact ⟨0, n0, by omega, rfl, A3.out, by rw [List.drop_zero]; exact HR.out⟩
  case round =>
    clear A3 HR
    obtain ⟨k, m, hk, rfl, hT⟩ := hrel
    by_cases hlt : k < l.length
    · have hrd := HS.out.ext hT.out.1.ext
      obtain ⟨ad2, c2, hv, hcells⟩ := hrd.at
      injection hv with hv1 hv2 hv3
      subst hv1
      obtain ⟨b, o, rfl, a0, a1, a2, a3, a4⟩ := hcells k hlt
      have hst := hT.out.2
      rw [runA_step hlt] at hst
      have HA := Lib.hid hT.out.1
      clear hrd hcells hv2 hv3 hT
      generalize l[k] = q at *
      obtain ⟨kd, who, s, t, x⟩ := q
      simp only at a0 a1 a2 a3 a4
      have hfb : ∀ (w : World), (callFunc 17 #[.int .u64 (Bv x)]).run Try.prog w = .ok (.value (cf x.toNat)) w := fun w => frombits (Bv x) w
      unfold apP at hst
      simp only at hst
      have XT := Lib.hid (fun ob => HA.out.ext' (Ext.of_alloc (w := wr) ob))
      have SA := Lib.hid (fun (c : Array Value) (k : Int) => set_any g2 lb2 m k who s t x (wr.alloc (.cells c 41)) (XT.out (.cells c 41)).n)
      clear HA
      by_cases hk1 : kd = 1
      · subst hk1
        by_cases hne : s = sh
        · subst hne
          rw [if_neg (fun c => c.2 rfl)] at hst
          have HST := Lib.hid hst
          clear hst
          go_wp2_with (first
            | (go_at_call 18; refine (SA.out _ _).mono ?_; clear SA; rintro e w5 ⟨rfl, k1, k2⟩
               have A5 := Lib.hid ((XT.out _).step F4.out k1 k2)
               clear k1 k2 XT)
            | fail)
          go_roundw
          case measure => simp only [intOf]; omega
          case rel => exact ⟨k + 1, _, by omega, by go_num, A5.out, HST.out⟩
        · rw [if_pos ⟨rfl, hne⟩] at hst
          have hned : decide (s = sh) = false := decide_eq_false hne
          have hneb : (s == sh) = false := by simpa using hne
          by_cases h0 : s < 0
          · have hst' : runA sh N m (l.drop (k + 1)) = R := by
              rw [if_pos (by unfold skipB; simp [h0])] at hst; exact hst
            have HST := Lib.hid hst'
            clear hst hst' SA
            go_wp2_with fail
            go_roundw
            case measure => simp only [intOf]; omega
            case rel => exact ⟨k + 1, m, by omega, by go_num, XT.out _, HST.out⟩
          · by_cases h1 : (N : Int) ≤ s
            · have hst' : runA sh N m (l.drop (k + 1)) = R := by
                rw [if_pos (by unfold skipB; simp [h1])] at hst; exact hst
              have HST := Lib.hid hst'
              clear hst hst' SA
              go_wp2_with fail
              go_roundw
              case measure => simp only [intOf]; omega
              case rel => exact ⟨k + 1, m, by omega, by go_num, XT.out _, HST.out⟩
            · cases hg : gb x.toNat with
              | false =>
                have hst' : runA sh N m (l.drop (k + 1)) = R := by
                  rw [if_pos (by unfold skipB; simp [hg])] at hst; exact hst
                have HST := Lib.hid hst'
                have hg' : (FloatKind.f64.format.order x.toNat 0 == some .gt || FloatKind.f64.format.order x.toNat 0 == some .eq) = false := (gb_eq x.toNat).symm.trans hg
                clear hst hst' hg SA
                go_wp2_with fail
                go_roundw
                case measure => simp only [intOf]; omega
                case rel => exact ⟨k + 1, m, by omega, by go_num, XT.out _, HST.out⟩
              | true =>
                have hg' : (FloatKind.f64.format.order x.toNat 0 == some .gt || FloatKind.f64.format.order x.toNat 0 == some .eq) = true := (gb_eq x.toNat).symm.trans hg
                cases ht : gtB x.toNat 4787326403894837248 with
                | true =>
                  have hst' : runA sh N m (l.drop (k + 1)) = R := by
                    rw [if_pos (by unfold skipB; simp [ht])] at hst; exact hst
                  have HST := Lib.hid hst'
                  have ht' : (FloatKind.f64.format.order x.toNat 4787326403894837248 == some .gt) = true := (gtB_eq _ _).symm.trans ht
                  clear hst hst' hg ht SA
                  go_wp2_with fail
                  go_roundw
                  case measure => simp only [intOf]; omega
                  case rel => exact ⟨k + 1, m, by omega, by go_num, XT.out _, HST.out⟩
                | false =>
                  have hst' : runA sh N (onP m t).2 (l.drop (k + 1)) = R := by
                    rw [if_neg (by unfold skipB; simp [ht, hg, h0, h1])] at hst; exact hst
                  have HST := Lib.hid hst'
                  have ht' : (FloatKind.f64.format.order x.toNat 4787326403894837248 == some .gt) = false := (gtB_eq _ _).symm.trans ht
                  clear hst hst' hg ht
                  go_wp2_with (first
                    | (go_at_call 18; refine (SA.out _ _).mono ?_; clear SA; rintro e w5 ⟨rfl, k1, k2⟩
                       rw [setP_two] at k1
                       have A5 := Lib.hid ((XT.out _).step F4.out k1 k2)
                       clear k1 k2 XT)
                    | fail)
                  go_roundw
                  case measure => simp only [intOf]; omega
                  case rel => exact ⟨k + 1, _, by omega, by go_num, A5.out, HST.out⟩
      · rw [if_neg (fun c => hk1 c.1)] at hst
        have hkd : decide (kd = 1) = false := decide_eq_false hk1
        have hkb : (kd == 1) = false := by simpa using hk1
        have HST := Lib.hid hst
        clear hst
        go_wp2_with (first
          | (go_at_call 18; refine (SA.out _ _).mono ?_; clear SA; rintro e w5 ⟨rfl, k1, k2⟩
             have A5 := Lib.hid ((XT.out _).step F4.out k1 k2)
             clear k1 k2 XT)
          | fail)
        go_roundw
        case measure => simp only [intOf]; omega
        case rel => exact ⟨k + 1, _, by omega, by go_num, A5.out, HST.out⟩
    · obtain rfl : l.length = k := by omega
      have hz : Hid (m = R) := by have := hT.out.2; rw [List.drop_length, runA_nil] at this; exact this
      have F := Lib.hid hT.out.1
      clear hT
      have O1 := Lib.hid (fun w (e : Ext wr w) => of_calls g lb M1 sh w (F.out.m.ext e))
      have O2 := Lib.hid (fun w (e : Ext wr w) => of_calls g2 lb2 m sh w (F.out.n.ext e))
      rw [hz.out, ← HAP.out] at O2
      obtain ⟨y, hy⟩ : ∃ y, ofP M1 sh = y := ⟨_, rfl⟩
      rw [hy] at O1 O2
      have LK := Lib.hid (like_calls y)
      clear hy hlt
      go_wp2_with (first
        | (go_at_call_of 20 (Value.pointer (some ⟨g, 0, none⟩)); refine (O1.out _ (Ext.refl _)).mono ?_; rintro e w5 ⟨rfl, rfl⟩)
        | (go_at_call_of 20 (Value.pointer (some ⟨g2, 0, none⟩)); refine (O2.out _ (Ext.refl _)).mono ?_; rintro e w5 ⟨rfl, rfl⟩)
        | (go_at_call 19; refine (LK.out _).mono ?_; rintro e w5 ⟨rfl, rfl⟩)
        | fail)
      go_ret
      exact ⟨rfl, F.out.ext⟩
theorem apart_walk (n h : Int) (sv : Value) (l : List Sc) (sh : Int) (W : World) (hs : RdS W sv l) (hl : l.length ≤ 9223372036854775807) (hsh : -9223372036854775808 ≤ sh ∧ sh ≤ 9223372036854775807) :
    Calls Try.prog 4 #[ci n, ci h, sv, ci sh] W fun e w' => e = .returned (.bool true) ∧ Below W.heap.size W w' := by
  cases hf : fitB n h with
  | true => exact (apart_fit n h sv l sh W hf hs hl hsh).mono fun e w' ⟨h1, h2⟩ => ⟨h1, h2.to⟩
  | false => exact (apart_bad n h sv sh W hf).mono fun e w' ⟨h1, h2⟩ => ⟨h1, h2.to⟩
end Go.Proofs.Ytjgdeijodjihlaa
