/- LoadPlays: the walk of the law, to the loops. -/
import Derived.Test.YtjgdeijodjihlaaR9m
import Derived.Deep.RegionHeld3
import Derived.Deep.DeepCutAuto
namespace Go.Proofs.Ytjgdeijodjihlaa
open Go.RowKit
set_option linter.unusedVariables false

/-- two places, and the lists of the three -/
structure PS (W w : World) (gl gm : Nat) (qa qb qx qy : Option Addr) (o1 o2 : Pl) (K : Nat) : Prop where
  s1 : Slot w (.pointer qa) (.pointer qx) o1 K
  s2 : Slot w (.pointer qb) (.pointer qy) o2 K
  d : ∀ q, bks o1 q → ¬ bks o2 q
  l : Blk w gl #[.pointer qa, .pointer qb, .pointer none] 24
  m : Blk w gm #[.pointer qx, .pointer qy, .pointer none] 52
  n1 : ∀ q, bks o1 q → W.heap.size ≤ q ∧ q ≠ gl ∧ q ≠ gm
  n2 : ∀ q, bks o2 q → W.heap.size ≤ q ∧ q ≠ gl ∧ q ≠ gm
  e : Ext W w
section
variable {W w w' : World} {gl gm : Nat} {qa qb qx qy : Option Addr} {o1 o2 o' : Pl} {K : Nat}
theorem PS.ext (h : PS W w gl gm qa qb qx qy o1 o2 K) (x : Ext w w') : PS W w' gl gm qa qb qx qy o1 o2 K := ⟨h.s1.ext x, h.s2.ext x, h.d, h.l.ext x, h.m.ext x, h.n1, h.n2, h.e.trans x⟩
theorem PS.first (h : PS W w gl gm qa qb qx qy o1 o2 K) (hK : K + 1 < 5000000000000) (k1 : Slot w' (.pointer qa) (.pointer qx) o' (K + 1)) (k2 : Onl w w' (bks o1)) (k3 : ∀ q, bks o' q → bks o1 q ∨ w.heap.size ≤ q) : PS W w' gl gm qa qb qx qy o' o2 (K + 1) := by
  refine ⟨k1, (h.s2.onl k2 fun q hq c => h.d q c hq).mono (Nat.le_succ _) hK, fun q hq hq2 => ?_, h.l.onl k2 fun c => (h.n1 _ c).2.1 rfl, h.m.onl k2 fun c => (h.n1 _ c).2.2 rfl, fun q hq => ?_, h.n2, Onl.below h.e k2 fun q hq => (h.n1 q hq).1⟩
  · rcases k3 q hq with c | c
    · exact h.d q c hq2
    · have := h.s2.lt q hq2; omega
  · rcases k3 q hq with c | c
    · exact h.n1 q c
    · have := h.l.lt; have := h.m.lt; have := h.e.size
      exact ⟨by omega, by omega, by omega⟩
theorem PS.second (h : PS W w gl gm qa qb qx qy o1 o2 K) (hK : K + 1 < 5000000000000) (k1 : Slot w' (.pointer qb) (.pointer qy) o' (K + 1)) (k2 : Onl w w' (bks o2)) (k3 : ∀ q, bks o' q → bks o2 q ∨ w.heap.size ≤ q) : PS W w' gl gm qa qb qx qy o1 o' (K + 1) := by
  refine ⟨(h.s1.onl k2 fun q hq c => h.d q hq c).mono (Nat.le_succ _) hK, k1, fun q hq hq2 => ?_, h.l.onl k2 fun c => (h.n2 _ c).2.1 rfl, h.m.onl k2 fun c => (h.n2 _ c).2.2 rfl, h.n1, fun q hq => ?_, Onl.below h.e k2 fun q hq => (h.n2 q hq).1⟩
  · rcases k3 q hq2 with c | c
    · exact h.d q hq c
    · have := h.s1.lt q hq; omega
  · rcases k3 q hq with c | c
    · exact h.n2 q c
    · have := h.l.lt; have := h.m.lt; have := h.e.size
      exact ⟨by omega, by omega, by omega⟩
theorem PS.third (h : PS W w gl gm qa qb qx qy o1 o2 K) (hK : K + 1 < 5000000000000) (k2 : Onl w w' (bks none)) : PS W w' gl gm qa qb qx qy o1 o2 (K + 1) :=
  ⟨(h.s1.onl k2 fun _ _ c => c).mono (Nat.le_succ _) hK, (h.s2.onl k2 fun _ _ c => c).mono (Nat.le_succ _) hK, h.d, h.l.onl k2 fun c => c, h.m.onl k2 fun c => c, h.n1, h.n2, Onl.below h.e k2 fun _ c => c.elim⟩
/-- a step at any of the three -/
theorem PS.step (h : PS W w gl gm qa qb qx qy o1 o2 K) (hK : K + 1 < 5000000000000) (j : Nat) (hj : j < 3) (k who s t : Int) (x : BitVec 64) :
    ∃ pv rv, w.cell? ⟨gl, j, none⟩ = some pv ∧ w.cell? ⟨gm, j, none⟩ = some rv ∧ ∀ w0, Ext w w0 → Calls Try.prog 25 #[pv, rv, .agg #[ci k, ci who, ci s, ci t, .int .u64 (Bv x)]] w0 fun e w' => e = .returned (.bool true) ∧ ∃ o1' o2', PS W w' gl gm qa qb qx qy o1' o2' (K + 1) := by
  have hj3 : j = 0 ∨ j = 1 ∨ j = 2 := by omega
  rcases hj3 with rfl | rfl | rfl
  · refine ⟨_, _, h.l.cell 0, h.m.cell 0, fun w0 e => ?_⟩
    have h0 := h.ext e
    exact (step_slot _ _ o1 K k who s t x w0 h0.s1 hK).mono fun e w' ⟨a, o', b, c, d⟩ => ⟨a, o', o2, h0.first hK b c d⟩
  · refine ⟨_, _, h.l.cell 1, h.m.cell 1, fun w0 e => ?_⟩
    have h0 := h.ext e
    exact (step_slot _ _ o2 K k who s t x w0 h0.s2 hK).mono fun e w' ⟨a, o', b, c, d⟩ => ⟨a, o1, o', h0.second hK b c d⟩
  · refine ⟨_, _, h.l.cell 2, h.m.cell 2, fun w0 e => ?_⟩
    have h0 := h.ext e
    exact (step_slot (.pointer none) (.pointer none) none K k who s t x w0 ⟨rfl, rfl⟩ hK).mono fun e w' ⟨a, o', b, c, d⟩ => ⟨a, o1, o2, h0.third hK c⟩
end
set_option maxHeartbeats 4000000 in
set_option maxRecDepth 100000 in
theorem plays_walk (n h n2 h2 : Int) (sv : Value) (l : List Sc) (W : World) (hs : RdS W sv l) (hl : l.length * 40 ≤ 140737488351232) (hbo : ∀ o ∈ l, -9223372036854775808 ≤ o.who ∧ o.who ≤ 9223372036854775807) :
    Calls Try.prog 6 #[ci n, ci h, ci n2, ci h2, sv] W fun e w' => e = .returned (.bool true) ∧ Ext W w' := by
  obtain ⟨ad, sc, rfl, hat⟩ := hs.at
  have HAT := Lib.hid hat
  have HN := Lib.hid num_calls
  have HLL := Lib.hid hl
  have HBO := Lib.hid hbo
  have hl' : (l.length : Int) ≤ 3518437208784 := by omega
  clear hs hat hl hbo
  go_enter Try.func6, Try.ntmps6
  go_upto_region 5 with (first
    | (go_at_call 23; refine (rnew_any n2 h2 w3).mono ?_; rintro e w4 ⟨qy, dy, rfl, ky, x4⟩; have R2 := Lib.hid ky; have X4 := Lib.hid x4; clear ky x4)
    | (go_at_call 23; refine (rnew_any n h w2).mono ?_; rintro e w3 ⟨qx, dx, rfl, kx, x3⟩; have R1 := Lib.hid kx; have X3 := Lib.hid x3; clear kx x3)
    | (go_at_call 16; refine (new_any n2 h2 w1).mono ?_; rintro e w2 ⟨qb, db, rfl, kb, x2⟩; have M2 := Lib.hid kb; have X2 := Lib.hid x2; clear kb x2)
    | (go_at_call 16; refine (new_any n h W).mono ?_; rintro e w1 ⟨qa, da, rfl, ka, x1⟩; have M1 := Lib.hid ka; have X1 := Lib.hid x1; clear ka x1)
    | fail)
  obtain ⟨rfl, hn1, o1, sl1, b1⟩ := mk_slot M1.out R1.out (X2.out.trans (X3.out.trans X4.out)) X4.out
  obtain ⟨rfl, hn2, o2, sl2, b2⟩ := mk_slot M2.out R2.out (X3.out.trans X4.out) (Ext.refl _)
  have z1 := X1.out.size
  have z2 := X2.out.size
  have z3 := X3.out.size
  have P6 : Hid (PS W ((w4.alloc (.cells #[.pointer qa, .pointer qb, .pointer none] 24)).alloc (.cells #[.pointer qx, .pointer qy, .pointer none] 52)) w4.heap.size (w4.heap.size + 1) qa qb qx qy o1 o2 1) := by
    have bl := (Blk.new w4 #[.pointer qa, .pointer qb, .pointer none] 24).alloc (.cells #[.pointer qx, .pointer qy, .pointer none] 52)
    have bm := Blk.new (w4.alloc (.cells #[.pointer qa, .pointer qb, .pointer none] 24)) #[.pointer qx, .pointer qy, .pointer none] 52
    rw [World.size_alloc] at bm
    have l1 := sl1.lt
    have l2 := sl2.lt
    refine ⟨sl1.ext (Ext.of_alloc2 _ _), sl2.ext (Ext.of_alloc2 _ _), fun q hq hq2 => ?_, bl, bm, fun q hq => ?_, fun q hq => ?_, (X1.out.trans (X2.out.trans (X3.out.trans X4.out))).trans (Ext.of_alloc2 _ _)⟩
    · have := b1 q hq; have := b2 q hq2; omega
    · have := b1 q hq; have := l1 q hq; exact ⟨by omega, by omega, by omega⟩
    · have := b2 q hq; have := l2 q hq; exact ⟨by omega, by omega, by omega⟩
  have HN1 := Lib.hid (And.intro hn1 hn2)
  clear M1 M2 R1 R2 X1 X2 X3 X4 sl1 sl2 b1 b2 hn1 hn2 z1 z2 z3
  go_cut [74] (fun v wx => v = .bool false ∧ wx = w4)
  case first =>
    obtain ⟨hn1, hn2⟩ := HN1.out
    rcases hn1 with ⟨rfl, rfl⟩ | ⟨p1, q1, rfl, rfl⟩ <;> rcases hn2 with ⟨rfl, rfl⟩ | ⟨p2, q2, rfl, rfl⟩
    all_goals go_wp2_with (first
      | (go_at_call 13; refine (HN.out _ _).mono ?_; rintro e w9 ⟨rfl, rfl⟩)
      | fail)
    all_goals go_meet
    all_goals exact ⟨by first | rfl | trivial, by first | rfl | trivial⟩
  case rest =>
    obtain ⟨rfl, hw⟩ := hcut
    subst hw
    go_upto_region 12 with fail
    obtain ⟨w6, hw6⟩ : ∃ x, (wc.alloc (.cells #[.pointer qa, .pointer qb, .pointer none] 24)).alloc (.cells #[.pointer qx, .pointer qy, .pointer none] 52) = x := ⟨_, rfl⟩
    rw [hw6] at P6 ⊢
    obtain ⟨gl, hgl⟩ : ∃ x, wc.heap.size = x := ⟨_, rfl⟩
    rw [hgl] at P6 ⊢
    obtain ⟨gm, hgm⟩ : ∃ x, gl + 1 = x := ⟨_, rfl⟩
    rw [hgm] at P6 ⊢
    clear hw6 hgl hgm HN1 HN
    go_loopw [23] (fun iv wr => ∃ (i : Nat) (o1 o2 : Pl), i ≤ l.length ∧ iv = .int .i64 i ∧ Hid (PS W wr gl gm qa qb qx qy o1 o2 (1 + i))) (fun iv _ => (l.length - (intOf iv).toNat))
    case atStart => exact ⟨0, o1, o2, by omega, rfl, P6.out⟩
    case round =>
      clear P6
      obtain ⟨i, o1, o2, hi, rfl, hT⟩ := hrel
      by_cases hlt : i < l.length
      · have hlt' : (i : Int) < l.length := by omega
        obtain ⟨b, o, rfl, c0, c1, c2, c3, c4⟩ := HAT.out i hlt
        have hKb : 1 + i + 1 < 5000000000000 := by have := HLL.out; omega
        have hwb := HBO.out l[i] (List.getElem_mem _)
        generalize l[i] = op at *
        obtain ⟨k, who, s, t, x⟩ := op
        simp only at c0 c1 c2 c3 c4 hwb
        obtain ⟨j, hj⟩ : ∃ j : Nat, (who % 3).toNat = j := ⟨_, rfl⟩
        have hj3 : j < 3 := by omega
        have hjw : who % 3 = (j : Int) := by omega
        have hj3' : (j : Int) < 3 := by omega
        obtain ⟨pv, rv, d1, d2, hst⟩ := hT.out.step hKb j hj3 k who s t x
        have HST := Lib.hid hst
        have HP := Lib.hid (place_calls who 3 hwb.1 hwb.2 (by omega) (by omega) wr)
        rw [hjw] at HP
        have y0 := hT.out.e.cell c0
        have y1 := hT.out.e.cell c1
        have y2 := hT.out.e.cell c2
        have y3 := hT.out.e.cell c3
        have y4 := hT.out.e.cell c4
        have HCS := Lib.hid (And.intro c0 (And.intro c1 (And.intro c2 (And.intro c3 c4))))
        have HD := Lib.hid (And.intro d1 d2)
        have K0 : wr.cell? ⟨gl, j, none⟩ = some pv ∧ wr.cell? ⟨gm, j, none⟩ = some rv ∧ wr.cell? ⟨b, o + i * 5, none⟩ = some (ci k) ∧ wr.cell? ⟨b, o + i * 5 + 1, none⟩ = some (ci who) ∧ wr.cell? ⟨b, o + i * 5 + 2, none⟩ = some (ci s) ∧ wr.cell? ⟨b, o + i * 5 + 3, none⟩ = some (ci t) ∧ wr.cell? ⟨b, o + i * 5 + 4, none⟩ = some (.int .u64 (Bv x)) := ⟨d1, d2, y0, y1, y2, y3, y4⟩
        clear c0 c2 c3 c4 c1 hst hj hjw hwb hKb hj3 y0 y2 y3 y4 d1 d2
        go_upto_region 15 with (first
          | (go_at_call 24; refine HP.out.mono ?_; clear HP; rintro e w9 ⟨rfl, rfl⟩)
          | fail)
        go_region_held3 (fun w' => w'.cell? ⟨gl, j, none⟩ = some pv ∧ w'.cell? ⟨gm, j, none⟩ = some rv ∧ w'.cell? ⟨b, o + i * 5, none⟩ = some (ci k) ∧ w'.cell? ⟨b, o + i * 5 + 1, none⟩ = some (ci who) ∧ w'.cell? ⟨b, o + i * 5 + 2, none⟩ = some (ci s) ∧ w'.cell? ⟨b, o + i * 5 + 3, none⟩ = some (ci t) ∧ w'.cell? ⟨b, o + i * 5 + 4, none⟩ = some (.int .u64 (Bv x))) (first | exact K1 | exact K0)
          (first
          | (go_at_call 25; refine (HST.out wr.drew (Ext.refl _).drew).mono ?_; rintro e w9 ⟨rfl, o1', o2', k1⟩
             have PT := Lib.hid k1
             have K1 : w9.cell? ⟨gl, j, none⟩ = some pv ∧ w9.cell? ⟨gm, j, none⟩ = some rv ∧ w9.cell? ⟨b, o + i * 5, none⟩ = some (ci k) ∧ w9.cell? ⟨b, o + i * 5 + 1, none⟩ = some (ci who) ∧ w9.cell? ⟨b, o + i * 5 + 2, none⟩ = some (ci s) ∧ w9.cell? ⟨b, o + i * 5 + 3, none⟩ = some (ci t) ∧ w9.cell? ⟨b, o + i * 5 + 4, none⟩ = some (.int .u64 (Bv x)) :=
               ⟨by rw [k1.l.cell, ← hT.out.l.cell]; exact HD.out.1, by rw [k1.m.cell, ← hT.out.m.cell]; exact HD.out.2, k1.e.cell HCS.out.1, k1.e.cell HCS.out.2.1, k1.e.cell HCS.out.2.2.1, k1.e.cell HCS.out.2.2.2.1, k1.e.cell HCS.out.2.2.2.2⟩
             clear k1))
        go_wp2_with fail
        go_roundw
        case measure => simp only [intOf]; omega
        case rel => exact ⟨i + 1, o1', o2', by omega, by go_num, by rw [show 1 + (i + 1) = 1 + i + 1 by omega]; exact PT.out⟩
      · obtain rfl : l.length = i := by omega
        have PE := Lib.hid hT.out
        have hKb : 1 + l.length + 9 < 5000000000000 := by have := HLL.out; omega
        clear hT hi hlt HAT HBO
        go_wp2_with fail
        go_loopw [25] (fun iv wr => ∃ (j : Nat) (o1 o2 : Pl), j ≤ 3 ∧ iv = .int .i64 j ∧ Hid (PS W wr gl gm qa qb qx qy o1 o2 (1 + l.length + 3 * j))) (fun iv _ => (3 - (intOf iv).toNat))
        case atStart => exact ⟨0, o1, o2, by omega, rfl, PE.out⟩
        case round =>
          clear PE
          obtain ⟨j, o1, o2, hj, rfl, hT⟩ := hrel
          by_cases hlt : j < 3
          · have hlt' : (j : Int) < 3 := by omega
            go_wp2_with fail
            go_loopw [26] (fun kv wr => ∃ (q : Nat) (o1 o2 : Pl), q ≤ 3 ∧ kv = .int .i64 ((3 : Int) + q) ∧ Hid (PS W wr gl gm qa qb qx qy o1 o2 (1 + l.length + 3 * j + q))) (fun kv _ => (6 - (intOf kv).toNat))
            case atStart => exact ⟨0, o1, o2, by omega, rfl, hT.out⟩
            case round =>
              clear hT
              obtain ⟨q, o1, o2, hq, rfl, hU⟩ := hrel
              have hw1 : IntKind.i64.wrap ((3 : Int) + q - 3) = (q : Int) := by rw [show (3 : Int) + q - 3 = q by omega]; exact IntWalk.i64_in _ (by omega)
              by_cases hlq : q < 3
              · have d6 : decide ((3 : Int) + q < 6) = true := decide_eq_true (by omega)
                obtain ⟨pv, rv, d1, d2, hst⟩ := hU.out.step (by omega) j hlt (3 + q) 0 q 0 0#64
                rw [show (Bv 0#64) = 0 from rfl] at hst
                have HST := Lib.hid hst
                have HD := Lib.hid (And.intro d1 d2)
                have K0 : wr.cell? ⟨gl, j, none⟩ = some pv ∧ wr.cell? ⟨gm, j, none⟩ = some rv := ⟨d1, d2⟩
                clear hst d1 d2
                go_wp2_with fail
                go_region_held3 (fun w' => w'.cell? ⟨gl, j, none⟩ = some pv ∧ w'.cell? ⟨gm, j, none⟩ = some rv) (first | exact K1 | exact K0)
                  (first
                  | (go_at_call 25; refine (HST.out wr.drew (Ext.refl _).drew).mono ?_; rintro e w9 ⟨rfl, o1', o2', k1⟩
                     have PT := Lib.hid k1
                     have K1 : w9.cell? ⟨gl, j, none⟩ = some pv ∧ w9.cell? ⟨gm, j, none⟩ = some rv := ⟨by rw [k1.l.cell, ← hU.out.l.cell]; exact HD.out.1, by rw [k1.m.cell, ← hU.out.m.cell]; exact HD.out.2⟩
                     clear k1))
                go_wp2_with fail
                go_roundw
                case measure => simp only [intOf]; omega
                case rel => exact ⟨q + 1, o1', o2', by omega, by go_num, PT.out⟩
              · have d6 : decide ((3 : Int) + q < 6) = false := decide_eq_false (by omega)
                obtain rfl : q = 3 := by omega
                have HU := Lib.hid hU.out
                clear hU
                go_wp2_with fail
                go_roundw
                case measure => simp only [intOf]; omega
                case rel => exact ⟨j + 1, o1, o2, by omega, by go_num, by rw [show 1 + l.length + 3 * (j + 1) = 1 + l.length + 3 * j + 3 by omega]; exact HU.out⟩
          · obtain rfl : j = 3 := by omega
            rw [show ((3 : Nat) : Int) = 3 from rfl]
            have HT := Lib.hid hT.out.e
            clear hT
            go_wp2_with fail
            go_ret
            exact ⟨rfl, HT.out⟩
theorem plays_walk' (n h n2 h2 : Int) (sv : Value) (l : List Sc) (W : World) (hs : RdS W sv l) (hl : l.length * 40 ≤ 140737488351232) (hbo : ∀ o ∈ l, -9223372036854775808 ≤ o.who ∧ o.who ≤ 9223372036854775807) :
    Calls Try.prog 6 #[ci n, ci h, ci n2, ci h2, sv] W fun e w' => e = .returned (.bool true) ∧ Below W.heap.size W w' :=
  (plays_walk n h n2 h2 sv l W hs hl hbo).mono fun e w' ⟨h1, h2⟩ => ⟨h1, h2.to⟩
end Go.Proofs.Ytjgdeijodjihlaa
