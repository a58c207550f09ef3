/- Layer 9 (load): hits; scripts. -/
import Derived.Test.YtjgdeijodjihlaaD9c
import Derived.Deep.RegionHeld
namespace Go.Proofs.Ytjgdeijodjihlaa
open Go.RowKit
set_option linter.unusedVariables false

theorem onP_ok {m : Mt} {t : Int} (h : (onP m t).1 = 0) : 0 ≤ t ∧ t ≤ 1099511627776 ∧ (m.now : Int) ≤ t ∧ onP m t = (0, onM m t.toNat) := by
  unfold onP at *
  by_cases h1 : t < 0 ∨ 1099511627776 < t
  · rw [if_pos h1] at h; cases h
  · rw [if_neg h1] at h ⊢
    by_cases h2 : t < m.now
    · rw [if_pos h2] at h; cases h
    · rw [if_neg h2]; exact ⟨by omega, by omega, by omega, rfl⟩
theorem onP_bad {m : Mt} {t : Int} (h : (onP m t).1 ≠ 0) : (onP m t).2 = m := by
  unfold onP at *
  by_cases h1 : t < 0 ∨ 1099511627776 < t
  · rw [if_pos h1]
  · rw [if_neg h1] at h ⊢
    by_cases h2 : t < m.now
    · rw [if_pos h2]
    · rw [if_neg h2] at h; exact absurd rfl h
theorem onP_calls (g lb : Nat) (m : Mt) (t : Int) (w : World) (h : MB w g lb m) :
    Calls Try.prog 31 #[.pointer (some ⟨g, 0, none⟩), ci t] w fun e w' => e = .returned (ci (onP m t).1) ∧ MB w' g lb (onP m t).2 ∧ Grw2 w w' g lb := by
  by_cases h0 : (onP m t).1 = 0
  · obtain ⟨h1, h2, h3, h4⟩ := onP_ok h0
    rw [h4]
    obtain ⟨k, rfl⟩ : ∃ k : Nat, t = (k : Int) := ⟨t.toNat, by omega⟩
    exact on_calls g lb m k w h h2 h3
  · refine (on_bad g lb m t w h h0).mono fun e w' ⟨he, hw⟩ => ?_
    subst hw
    exact ⟨he, by rw [onP_bad h0]; exact h, Grw2.refl _ _ _⟩
theorem go_calls (g lb : Nat) (m : Mt) (t : Int) (w : World) (h : MB w g lb m) :
    Calls Try.prog 22 #[.pointer (some ⟨g, 0, none⟩), ci t] w fun e w' => e = .returned (ci (onP m t).1) ∧ MB w' g lb (onP m t).2 ∧ Grw2 w w' g lb := by
  have H := Lib.hid (onP_calls g lb m t w h)
  clear h
  go_enter Try.func22, Try.ntmps22
  go_wp2_with (first | (go_at_call 31; refine H.out.mono ?_; clear H; rintro e w1 ⟨rfl, h1, h2⟩; have P := Lib.hid (And.intro h1 h2); clear h1 h2) | fail)
  go_ret
  exact ⟨rfl, P.out.1, P.out.2⟩
def addM (m : Mt) (i x : Nat) : Mt := ⟨m.half, m.now, m.L.set i (fadd (m.L.getD i 0) x), m.win.set 7 (fadd (m.win.getD 7 0) x)⟩
def wtB (x : Nat) : Bool := gb x && leB x 4787326403894837248
def hitP (m : Mt) (s t : Int) (x : Nat) : Int × Mt :=
  if s < 0 ∨ (m.L.length : Int) ≤ s ∨ wtB x = false then (2, m) else if (onP m t).1 = 0 then (0, addM (onP m t).2 s.toNat x) else ((onP m t).1, m)
theorem onP_len (m : Mt) (t : Int) : (onP m t).2.L.length = m.L.length := by
  unfold onP
  split
  · rfl
  · split
    · rfl
    · unfold onM; simp
theorem addM_ok {m : Mt} (h : m.ok) {i x : Nat} (hi : i < m.L.length) (hx : nn x) : (addM m i x).ok := by
  refine ⟨h.h1, h.h2, h.n1, by unfold addM; simpa using h.l1, by unfold addM; simpa using h.l2, by unfold addM; simpa using h.w8, fun y hy => ?_, fun y hy => ?_⟩
  · unfold addM at hy
    rcases List.mem_or_eq_of_mem_set hy with h1 | h1
    · exact h.gl y h1
    · rw [h1, List.getD_eq_getElem?_getD, List.getElem?_eq_getElem hi]
      exact (fadd_eq (h.gl _ (List.getElem_mem _)) hx).2
  · unfold addM at hy
    rcases List.mem_or_eq_of_mem_set hy with h1 | h1
    · exact h.gw y h1
    · rw [h1, List.getD_eq_getElem?_getD, List.getElem?_eq_getElem (by rw [h.w8]; omega)]
      exact (fadd_eq (h.gw _ (List.getElem_mem _)) hx).2
theorem mc_ten (m : Mt) (lb x : Nat) : (mc m lb).setIfInBounds 10 (cf x) = mc ⟨m.half, m.now, m.L, m.win.set 7 x⟩ lb := by
  unfold mc
  rw [Array.setIfInBounds_append_right (by simp)]
  rw [show 10 - (#[ci ↑m.half, ci ↑m.now, Value.slice (some ⟨lb, 0, none⟩) m.L.length m.L.length] : Array Value).size = 7 from rfl, V_set]
theorem MB.add {w : World} {g lb : Nat} {m : Mt} (h : MB w g lb m) (i x a b : Nat) (hi : i < m.L.length) (hx : nn x) (ha : fadd (m.L.getD i 0) x = a) (hb : fadd (m.win.getD 7 0) x = b) (n : Nat) :
    MB (((w.setCell ⟨lb, i, none⟩ (cf a)).drewN n).setCell ⟨g, 10, none⟩ (cf b)) g lb (addM m i x) := by
  have hok := addM_ok h.ok hi hx
  have e : addM m i x = ⟨m.half, m.now, m.L.set i a, m.win.set 7 b⟩ := by unfold addM; rw [ha, hb]
  rw [e] at hok ⊢
  refine ⟨?_, ?_, hok⟩
  · have h1 := (((h.b.far ⟨lb, i, none⟩ h.ne (cf a)).ext ((Ext.refl _).drewN n)).set 10 (cf b))
    rw [mc_ten] at h1
    unfold mc at h1 ⊢
    simp only [List.length_set]
    exact h1
  · have h1 := (((h.l.set i (cf a)).ext ((Ext.refl _).drewN n)).far ⟨g, 10, none⟩ (Ne.symm h.ne) (cf b))
    rw [V_set] at h1
    exact h1
structure HitF (w : World) (g lb : Nat) (m : Mt) (i x y z u v : Nat) : Prop where
  ne : lb ≠ g
  cy : w.cell? ⟨lb, i, none⟩ = some (cf y)
  fy : w.frozen? ⟨lb, i, none⟩ = false
  cz : ∀ n, ((w.setCell ⟨lb, i, none⟩ (cf u)).drewN n).cell? ⟨g, 10, none⟩ = some (cf z)
  fz : ∀ n, ((w.setCell ⟨lb, i, none⟩ (cf u)).drewN n).frozen? ⟨g, 10, none⟩ = false
  ay : floatBits .add .f64 y x = some u
  az : floatBits .add .f64 z x = some v
  fin : ∀ n, MB (((w.setCell ⟨lb, i, none⟩ (cf u)).drewN n).setCell ⟨g, 10, none⟩ (cf v)) g lb (addM m i x)
theorem MB.hit {w : World} {g lb : Nat} {m : Mt} (k : MB w g lb m) {i x : Nat} (hi : i < m.L.length) (hx : nn x) : ∃ y z u v, HitF w g lb m i x y z u v := by
  have h7 : 7 < m.win.length := by rw [k.ok.w8]; omega
  have hD : m.L.getD i 0 = m.L[i] := by rw [List.getD_eq_getElem?_getD, List.getElem?_eq_getElem hi]; rfl
  have hE : m.win.getD 7 0 = m.win[7] := by rw [List.getD_eq_getElem?_getD, List.getElem?_eq_getElem h7]; rfl
  have hb : ∀ u n, Blk ((w.setCell ⟨lb, i, none⟩ (cf u)).drewN n) g (mc m lb) 66 := fun u n => (k.b.far ⟨lb, i, none⟩ k.ne (cf u)).ext ((Ext.refl _).drewN n)
  refine ⟨m.L[i], m.win[7], fadd m.L[i] x, fadd m.win[7] x, Ne.symm k.ne, k.at i hi, k.l.free i, fun n => ?_, fun n => (hb _ n).free 10, (fadd_eq (k.ok.gl _ (List.getElem_mem hi)) hx).1, (fadd_eq (k.ok.gw _ (List.getElem_mem h7)) hx).1, fun n => ?_⟩
  · rw [(hb _ n).cell]
    have := mc_get m lb 7
    rw [List.getElem?_eq_getElem h7] at this
    exact this
  · exact k.add i x _ _ hi hx (by rw [hD]) (by rw [hE]) n
set_option maxHeartbeats 2000000 in
theorem hit_calls (g lb : Nat) (m : Mt) (s t : Int) (x : Nat) (w : World) (h : MB w g lb m) (hx : x < 18446744073709551616) :
    Calls Try.prog 14 #[.pointer (some ⟨g, 0, none⟩), ci s, ci t, cf x] w fun e w' => e = .returned (ci (hitP m s t x).1) ∧ MB w' g lb (hitP m s t x).2 ∧ Grw2 w w' g lb := by
  have hld := h.loads
  have hl2 : (m.L.length : Int) ≤ 64 := by have := h.ok.l2; omega
  have H := Lib.hid h
  have H31 := Lib.hid (onP_calls g lb m t w h)
  unfold hitP
  by_cases h1 : s < 0
  · rw [if_pos (Or.inl h1)]
    clear h H31
    go_enter Try.func14, Try.ntmps14
    go_wp2_with fail
    go_ret
    exact ⟨rfl, H.out, Grw2.refl _ _ _⟩
  · by_cases h2 : (m.L.length : Int) ≤ s
    · rw [if_pos (Or.inr (Or.inl h2))]
      clear h H31
      go_enter Try.func14, Try.ntmps14
      go_wp2_with fail
      go_ret
      exact ⟨rfl, H.out, Grw2.refl _ _ _⟩
    · obtain ⟨i, rfl⟩ : ∃ k : Nat, s = (k : Int) := ⟨s.toNat, by omega⟩
      cases hw : wtB x with
      | false =>
        rw [if_pos (Or.inr (Or.inr rfl))]
        unfold wtB at hw
        clear h H31
        cases hg : gb x with
        | false =>
          have hg' : (FloatKind.f64.format.order x 0 == some .gt || FloatKind.f64.format.order x 0 == some .eq) = false := (gb_eq x).symm.trans hg
          clear hg hw
          go_enter Try.func14, Try.ntmps14
          go_wp2_with fail
          go_ret
          exact ⟨rfl, H.out, Grw2.refl _ _ _⟩
        | true =>
          have hg' : (FloatKind.f64.format.order x 0 == some .gt || FloatKind.f64.format.order x 0 == some .eq) = true := (gb_eq x).symm.trans hg
          rw [hg, Bool.true_and] at hw
          have hl' : (FloatKind.f64.format.order x 4787326403894837248 == some .lt || FloatKind.f64.format.order x 4787326403894837248 == some .eq) = false := (leB_eq x _).symm.trans hw
          clear hg hw
          go_enter Try.func14, Try.ntmps14
          go_wp2_with fail
          go_ret
          exact ⟨rfl, H.out, Grw2.refl _ _ _⟩
      | true =>
        have hi : i < m.L.length := by omega
        rw [if_neg (by simp; omega)]
        unfold wtB at hw
        rw [Bool.and_eq_true] at hw
        have hnn := gb_nn hx hw.1
        have hg' : (FloatKind.f64.format.order x 0 == some .gt || FloatKind.f64.format.order x 0 == some .eq) = true := (gb_eq x).symm.trans hw.1
        have hl' : (FloatKind.f64.format.order x 4787326403894837248 == some .lt || FloatKind.f64.format.order x 4787326403894837248 == some .eq) = true := (leB_eq x _).symm.trans hw.2
        have HN := Lib.hid hnn
        clear h hw hnn
        by_cases h0 : (onP m t).1 = 0
        · rw [if_pos h0, Int.toNat_natCast]
          rw [h0] at H31
          have hil : i < (onP m t).2.L.length := by rw [onP_len]; exact hi
          have hil2 : (i : Int) < ((onP m t).2.L.length : Int) := by omega
          have hil3 : ((onP m t).2.L.length : Int) ≤ 64 := by rw [onP_len]; omega
          generalize (onP m t).2 = m1 at *
          have HI := Lib.hid hil
          clear h0
          go_enter Try.func14, Try.ntmps14
          go_wp2_with (first
            | (go_at_call 31; refine H31.out.mono ?_; clear H31; rintro e w1 ⟨rfl, k1, k2⟩
               have K2 := Lib.hid k2
               obtain ⟨y, z, u, v, hf⟩ := k1.hit HI.out HN.out
               have hld1 := k1.loads
               have hcy := hf.cy
               have hfy := hf.fy
               have hcz := hf.cz
               have hfz := hf.fz
               have hld2 : (w1.setCell ⟨lb, i, none⟩ (cf u)).cell? ⟨g, 2, none⟩ = some (.slice (some ⟨lb, 0, none⟩) m1.L.length m1.L.length) := by rw [World.cell?_setCell_far _ _ _ _ hf.ne]; exact hld1
               have hadd := fun w => run_float_arith (P := Try.prog) w .add 33 .f64 _ _ _ hf.ay
               have hadd2 := fun w => run_float_arith (P := Try.prog) w .add 33 .f64 _ _ _ hf.az
               have HF := Lib.hid hf
               clear k1 k2 hf)
            | fail)
          have hcz1 : ((w1.setCell ⟨lb, i, none⟩ (.float .f64 u)).drew).cell? ⟨g, 10, none⟩ = some (.float .f64 z) := hcz 1
          have hfz1 : ((w1.setCell ⟨lb, i, none⟩ (.float .f64 u)).drew).frozen? ⟨g, 10, none⟩ = false := hfz 1
          clear hcz hfz
          go_region
          go_wp2_with fail
          go_ret
          exact ⟨rfl, HF.out.fin 1, ((K2.out.set ⟨lb, i, none⟩ (Or.inr rfl) _).ext ((Ext.refl _).drewN 1)).set ⟨g, 10, none⟩ (Or.inl rfl) _⟩
        · rw [if_neg h0]
          rw [onP_bad h0] at H31
          obtain ⟨e, he⟩ : ∃ e, (onP m t).1 = e := ⟨_, rfl⟩
          rw [he] at h0 H31 ⊢
          have hne : (e != 0) = true := by simpa using h0
          clear he
          go_enter Try.func14, Try.ntmps14
          go_wp2_with (first
            | (go_at_call 31; refine H31.out.mono ?_; clear H31; rintro e w1 ⟨rfl, k1, k2⟩
               have K2 := Lib.hid k2
               have K1 := Lib.hid k1
               clear k1 k2)
            | fail)
          go_ret
          exact ⟨rfl, K1.out, K2.out⟩
end Go.Proofs.Ytjgdeijodjihlaa
