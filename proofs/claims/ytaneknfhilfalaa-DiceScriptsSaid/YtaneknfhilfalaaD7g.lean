/- Layer 7 (dice): the weighted pick. -/
import Derived.Test.YtaneknfhilfalaaD7f
import Derived.Test.YtaneknfhilfalaaL7e
import Derived.Test.YtaneknfhilfalaaFlp
namespace Go.Proofs.Ytaneknfhilfalaa
open Go.RowKit
set_option linter.unusedVariables false

def fadd (x y : Nat) : Nat := (floatBits .add .f64 x y).getD 0
def fmul (x y : Nat) : Nat := (floatBits .mul .f64 x y).getD 0
theorem fadd_eq {x y : Nat} (hx : good x) (hy : nn y) : floatBits .add .f64 x y = some (fadd x y) ∧ good (fadd x y) := by
  obtain ⟨z, hz, h⟩ := add_good hx hy
  unfold fadd
  rw [h]; exact ⟨rfl, hz⟩
theorem fmul_eq {x y : Nat} (hx : good x) (nx : num x) (hy : good y) (ny : num y) : floatBits .mul .f64 x y = some (fmul x y) ∧ good (fmul x y) := by
  obtain ⟨z, hz, h⟩ := mul_good hx nx hy ny
  unfold fmul
  rw [h]; exact ⟨rfl, hz⟩
def fin64 (x : Nat) : Bool := (floatBits .sub .f64 x x).isSome
def okB (x : Nat) : Bool := !(FloatKind.f64.format.order x 0 == some .lt) && fin64 x
def gtB (x y : Nat) : Bool := FloatKind.f64.format.order x y == some .gt
theorem gtB_eq (x y : Nat) : gtB x y = (FloatKind.f64.format.order x y == some .gt) := rfl
/-- the weights' sum, where all are right -/
def chk : Nat → List Nat → Option Nat
  | T, [] => some T
  | T, x :: r => if okB x = true then chk (fadd T x) r else none
theorem chk_nil (T : Nat) : chk T [] = some T := rfl
theorem chk_cons (T x : Nat) (r : List Nat) : chk T (x :: r) = if okB x = true then chk (fadd T x) r else none := rfl
def scan (x : Nat) : Nat → Int → Nat → List Nat → Int
  | _, last, _, [] => last
  | sum, last, i, w :: r => if gtB (fadd sum w) x = true then (i : Int) else scan x (fadd sum w) (if gtB w 0 = true then (i : Int) else last) (i + 1) r
theorem scan_nil (x sum : Nat) (last : Int) (i : Nat) : scan x sum last i [] = last := rfl
theorem scan_cons (x sum : Nat) (last : Int) (i w : Nat) (r : List Nat) : scan x sum last i (w :: r) = if gtB (fadd sum w) x = true then (i : Int) else scan x (fadd sum w) (if gtB w 0 = true then (i : Int) else last) (i + 1) r := rfl
def totB (T : Nat) : Bool := !(FloatKind.f64.format.order T 0 == some .eq) && fin64 T
/-- what Pick answers, and the state behind it -/
noncomputable def pick (ws : List Nat) (s : BitVec 64) : Int × Int × BitVec 64 :=
  match chk 0 ws with
  | none => (0, 2, s)
  | some T => if totB T = true then (scan (fmul (realW (mix (s + stride) >>> 11).toNat) T) 0 0 0 ws, 0, s + stride) else (0, 2, s)
theorem fin_num {x : Nat} (hx : x < 18446744073709551616) : fin64 x = true ↔ num x := by
  unfold fin64
  by_cases h : num x
  · rw [sub_num h]; simp [h]
  · rw [sub_none hx h]; simp [h]
theorem chk_nn {l : List Nat} (hb : ∀ x ∈ l, x < 18446744073709551616) : ∀ (T z : Nat), chk T l = some z → ∀ x ∈ l, nn x := by
  induction l with
  | nil => intro T z _ x hx; cases hx
  | cons y r ih =>
    intro T z h x hx
    rw [chk_cons] at h
    split at h
    · rename_i ho
      rcases List.mem_cons.1 hx with rfl | hx
      · unfold okB at ho
        rw [Bool.and_eq_true] at ho
        exact nn_of (hb x (by simp)) ((fin_num (hb x (by simp))).1 ho.2) (by simpa using ho.1)
      · exact ih (fun x hx => hb x (by simp [hx])) _ z h x hx
    · cases h
attribute [irreducible] fadd fmul fin64 gtB chk scan
theorem good_lt {x : Nat} (h : good x) : x < 18446744073709551616 := by unfold good inf64 at h; omega
theorem Rd.setFar {α : Type} {w : World} {f : α → Value} {v : Value} {l : List α} {b : Nat} {u u' : Value} (h : Rd w f v l) (hc : w.cell? ⟨b, 0, none⟩ = some u) (hne : ∀ x, f x ≠ u) : Rd (w.setCell ⟨b, 0, none⟩ u') f v l := by
  rcases h with h | ⟨b', o, c, n, h1, h2, h3, h⟩
  · exact Or.inl h
  · refine Or.inr ⟨b', o, c, n, h1, h2, h3, fun i hi => ?_⟩
    rw [World.cell?_setCell_other]
    · exact h i hi
    · intro e
      rw [e] at hc
      rw [h i hi] at hc
      exact hne _ (Option.some.inj hc)
theorem dropcons {α : Type} {l : List α} {k : Nat} (h : k < l.length) : l.drop k = l[k] :: l.drop (k + 1) := List.drop_eq_getElem_cons h
set_option maxHeartbeats 2000000 in
theorem pick_calls (b : Nat) (s : BitVec 64) (wv : Value) (ws : List Nat) (w : World) (hd : Die w b s) (hw : Rd w cf wv ws) (hb : ∀ x ∈ ws, x < 18446744073709551616) (hm : ws.length ≤ 9223372036854775807) :
    Calls Try.prog 31 #[.pointer (some ⟨b, 0, none⟩), wv] w fun e w' => e = .returned (.tuple #[ci (pick ws s).1, ci (pick ws s).2.1]) ∧ ∃ k, (w.setCell ⟨b, 0, none⟩ (.int .u64 (Bv (pick ws s).2.2))).drewN k = w' := by
  have hm' : (ws.length : Int) ≤ 9223372036854775807 := by omega
  have hself : w.setCell ⟨b, 0, none⟩ (.int .u64 (Bv s)) = w := setCell_self w _ _ hd.cell
  have HSELF := Lib.hid hself
  have HREAL := Lib.hid (real_calls b s w hd)
  have HW2 := Lib.hid (hw.setFar (u' := .int .u64 (Bv (s + stride))) hd.cell (fun x => by intro h; cases h))
  obtain ⟨ad, c, rfl, hat⟩ := hw.at
  have HA := Lib.hid hat
  have HB := Lib.hid hb
  obtain ⟨P, hP⟩ : ∃ P, pick ws s = P := ⟨_, rfl⟩
  have HP := Lib.hid hP
  rw [hP]
  clear hd hw hat hb hm hself hP
  obtain ⟨C, hC⟩ : ∃ C, chk 0 ws = C := ⟨_, rfl⟩
  have HC := Lib.hid hC
  have HP1 : Hid (C = none → P = (0, 2, s)) := fun h => by rw [← HP.out]; unfold pick; rw [hC, h]
  have HP2 : Hid (∀ T, C = some T → totB T = false → P = (0, 2, s)) := fun T h h2 => by rw [← HP.out]; unfold pick; rw [hC, h]; simp [h2]
  have HP3 : Hid (∀ T, C = some T → totB T = true → P = (scan (fmul (realW (mix (s + stride) >>> 11).toNat) T) 0 0 0 ws, 0, s + stride)) := fun T h h2 => by rw [← HP.out]; unfold pick; rw [hC, h]; simp [h2]
  have HALL : Hid (∀ T, C = some T → ∀ x ∈ ws, nn x) := fun T h => chk_nn HB.out 0 T (by rw [hC, h])
  clear hC HP
  go_enter Try.func31, Try.ntmps31
  go_wp2_with fail
  go_loop [6, 8, 18] (fun y _ i => ∃ (k z : Nat), k ≤ ws.length ∧ i = .int .i64 k ∧ y = cf z ∧ Hid (good z ∧ chk z (ws.drop k) = C)) (fun _ _ i => ws.length - (intOf i).toNat)
  case atStart => exact ⟨0, 0, by omega, rfl, rfl, ⟨by unfold good inf64; omega, by rw [List.drop_zero]; exact HC.out⟩⟩
  case round =>
    clear HC
    obtain ⟨k, z, hk, rfl, rfl, hT⟩ := hrel
    by_cases hlt : k < ws.length
    · obtain ⟨b1, o1, rfl, hc⟩ := HA.out k hlt
      have hst := hT.out.2
      rw [dropcons hlt, chk_cons] at hst
      have hxb := HB.out ws[k] (List.getElem_mem _)
      generalize ws[k] = x at *
      have HST := Lib.hid hst
      clear hst
      cases hl : (FloatKind.f64.format.order x 0 == some .lt) with
      | true =>
        have hp := Lib.hid (HP1.out (by have := HST.out; rw [show okB x = false by unfold okB; rw [hl]; rfl] at this; simpa using this.symm))
        go_wp2_with fail
        go_ret2
        exact ⟨by rw [hp.out]; rfl, 0, by rw [hp.out]; exact HSELF.out⟩
      | false =>
        by_cases hn : num x
        · have hs := fun w => run_float_arith (P := Try.prog) w .sub 37 .f64 _ _ _ (sub_num hn)
          have ho := order_zero
          obtain ⟨ha, hgz⟩ := fadd_eq hT.out.1 (nn_of hxb hn hl)
          have hadd := fun w => run_float_arith (P := Try.prog) w .add 37 .f64 _ _ _ ha
          have hnx : Hid (chk (fadd z x) (ws.drop (k + 1)) = C) := by
            show _ = _
            have := HST.out
            rw [show okB x = true by unfold okB; rw [hl, (fin_num hxb).2 hn]; rfl] at this
            simpa using this
          have HGZ := Lib.hid hgz
          clear hn ha hgz
          go_wp2_with fail
          go_round
          case measure => simp only [intOf]; omega
          case rel => exact ⟨k + 1, _, by omega, by go_num, rfl, HGZ.out, hnx.out⟩
        · obtain ⟨q, hq, hrun⟩ := run_sub_nan (P := Try.prog) 37 x x (sub_none hxb hn) w
          have ho := nan_order hq
          have hp := Lib.hid (HP1.out (by
            have := HST.out
            rw [show okB x = false by
              unfold okB
              cases hf : fin64 x with
              | true => exact absurd ((fin_num hxb).1 hf) hn
              | false => simp] at this
            simpa using this.symm))
          clear hn hq
          go_wp2_with fail
          go_ret2
          exact ⟨by rw [hp.out]; rfl, 1, by rw [hp.out]; show (w.setCell _ _).drewN 1 = _; rw [HSELF.out]; rfl⟩
    · obtain rfl : ws.length = k := by omega
      have hCz : Hid (C = some z) := by show _ = _; have := hT.out.2; rw [List.drop_length, chk_nil] at this; exact this.symm
      have hgz := hT.out.1
      cases he : (FloatKind.f64.format.order z 0 == some .eq) with
      | true =>
        have hp := Lib.hid (HP2.out z hCz.out (by unfold totB; rw [he]; rfl))
        go_wp2_with fail
        go_ret2
        exact ⟨by rw [hp.out]; rfl, 0, by rw [hp.out]; exact HSELF.out⟩
      | false =>
        by_cases hn : num z
        · have hs := fun w => run_float_arith (P := Try.prog) w .sub 37 .f64 _ _ _ (sub_num hn)
          have ho := order_zero
          have hp := Lib.hid (HP3.out z hCz.out (by unfold totB; rw [he, (fin_num (good_lt hgz)).2 hn]; rfl))
          obtain ⟨hmu, hmg⟩ := fmul_eq (real_good (shr11_lt (mix (s + stride)))).1 (real_good (shr11_lt (mix (s + stride)))).2 hgz hn
          have hmul := fun w => run_float_arith (P := Try.prog) w .mul 37 .f64 _ _ _ hmu
          generalize realW (mix (s + stride) >>> 11).toNat = r at *
          generalize hx : fmul r z = x at *
          have HX := Lib.hid hx
          obtain ⟨I, hI⟩ : ∃ I, scan x 0 0 0 ws = I := ⟨_, rfl⟩
          have HI := Lib.hid hI
          have hp2 : Hid (P = (I, 0, s + stride)) := by show _ = _; rw [hp.out, hI]
          obtain ⟨ad2, c2, hv2, hat2⟩ := HW2.out.at
          injection hv2 with hv21 hv22 hv23
          subst hv21
          have HA2 := Lib.hid hat2
          clear hn hmu hmg hx hI hp hat2 hv22 hv23 hT hgz
          go_wp2_with (first
            | (go_at_call 27; refine HREAL.out.mono ?_; clear HREAL; rintro e w2 ⟨rfl, hw2⟩; rw [hw2] at HA2)
            | fail)
          go_loop [10, 11, 12, 13, 48] (fun y l _ _ i => ∃ (k z : Nat) (a : Int), k ≤ ws.length ∧ i = .int .i64 k ∧ y = cf z ∧ l = .int .i64 a ∧ Hid (good z ∧ scan x z a k (ws.drop k) = I)) (fun _ _ _ _ i => ws.length - (intOf i).toNat)
          case atStart => exact ⟨0, 0, 0, by omega, rfl, rfl, rfl, ⟨by unfold good inf64; omega, by rw [List.drop_zero]; exact HI.out⟩⟩
          case round =>
            clear HI
            obtain ⟨k, y, a, hk, rfl, rfl, rfl, hT⟩ := hrel
            by_cases hlt : k < ws.length
            · obtain ⟨b1, o1, rfl, hc⟩ := HA2.out k hlt
              have hst := hT.out.2
              rw [dropcons hlt, scan_cons] at hst
              have hxn := HALL.out z hCz.out ws[k] (List.getElem_mem _)
              generalize ws[k] = v at *
              have HST := Lib.hid hst
              obtain ⟨ha, hgz⟩ := fadd_eq hT.out.1 hxn
              have hadd := fun w => run_float_arith (P := Try.prog) w .add 37 .f64 _ _ _ ha
              have HGZ := Lib.hid hgz
              clear hst hxn ha hgz
              generalize fadd y v = y' at *
              cases hgt : gtB y' x with
              | true =>
                have hI : Hid (I = (k : Int)) := by show _ = _; have := HST.out; rw [hgt] at this; simpa using this.symm
                rw [gtB_eq] at hgt
                go_wp2_with fail
                go_ret2
                exact ⟨by rw [hp2.out, hI.out]; rfl, 0, by rw [hp2.out]; exact hw2⟩
              | false =>
                have hs2 : Hid (scan x y' (if gtB v 0 = true then (k : Int) else a) (k + 1) (ws.drop (k + 1)) = I) := by show _ = _; have := HST.out; rw [hgt] at this; simpa using this
                rw [gtB_eq] at hgt
                cases hg0 : gtB v 0 with
                | true =>
                  rw [hg0] at hs2
                  rw [gtB_eq] at hg0
                  go_wp2_with fail
                  go_round
                  case measure => simp only [intOf]; omega
                  case rel => exact ⟨k + 1, y', k, by omega, by go_num, rfl, rfl, HGZ.out, by have := hs2.out; simpa using this⟩
                | false =>
                  rw [hg0] at hs2
                  rw [gtB_eq] at hg0
                  go_wp2_with fail
                  go_round
                  case measure => simp only [intOf]; omega
                  case rel => exact ⟨k + 1, y', a, by omega, by go_num, rfl, rfl, HGZ.out, by have := hs2.out; simpa using this⟩
            · obtain rfl : ws.length = k := by omega
              have hI : Hid (I = a) := by show _ = _; have := hT.out.2; rw [List.drop_length, scan_nil] at this; exact this.symm
              go_wp2_with fail
              go_ret2
              exact ⟨by rw [hp2.out, hI.out]; rfl, 0, by rw [hp2.out]; exact hw2⟩
        · obtain ⟨q, hq, hrun⟩ := run_sub_nan (P := Try.prog) 37 z z (sub_none (good_lt hgz) hn) w
          have ho := nan_order hq
          have hp := Lib.hid (HP2.out z hCz.out (by
            unfold totB
            cases hf : fin64 z with
            | true => exact absurd ((fin_num (good_lt hgz)).1 hf) hn
            | false => simp))
          clear hn hq
          go_wp2_with fail
          go_ret2
          exact ⟨by rw [hp.out]; rfl, 1, by rw [hp.out]; show (w.setCell _ _).drewN 1 = _; rw [HSELF.out]; rfl⟩
end Go.Proofs.Ytaneknfhilfalaa
