/- Layer 9 (load): rows, sums, tops; a new meter. -/
import Derived.Test.YtjgdeijodjihlaaD9a
import Derived.Deep.QuietTactic
import Derived.BigQuiet
namespace Go.Proofs.Ytjgdeijodjihlaa
open Go.RowKit
set_option linter.unusedVariables false

theorem rows_calls (sa sb : Value) (l : List Nat) (w : World) (ha : Rd w cf sa l) (hb : Rd w cf sb l) (hl : l.length ≤ 9223372036854775807) :
    Calls Try.prog 15 #[sa, sb] w fun e w' => e = .returned (.bool true) ∧ ∃ n, w.drewN n = w' := by
  have hl' : (l.length : Int) ≤ 9223372036854775807 := by omega
  obtain ⟨ad, c, rfl, hA⟩ := ha.at
  obtain ⟨bd, d, rfl, hB⟩ := hb.at
  have HA := Lib.hid hA
  have HB := Lib.hid hB
  clear ha hb hA hB hl
  go_enter Try.func15, Try.ntmps15
  go_wp2_with fail
  go_loopw [5] (fun i wr => ∃ (k n : Nat), k ≤ l.length ∧ i = .int .i64 k ∧ wr = w.drewN n) (fun i _ => (l.length - (intOf i).toNat))
  case atStart => exact ⟨0, 0, by omega, rfl, rfl⟩
  case round =>
    obtain ⟨k, n, hk, rfl, rfl⟩ := hrel
    by_cases hlt : k < l.length
    · obtain ⟨b1, o1, rfl, hc1⟩ := HA.out k hlt
      obtain ⟨b2, o2, rfl, hc2⟩ := HB.out k hlt
      generalize l[k] = y at *
      have HS : Hid (∀ m', Calls Try.prog 19 #[cf y, cf y] (w.drewN m') fun e w' => e = .returned (.bool true) ∧ ∃ n, (w.drewN m').drewN n = w') := fun m' => (like_calls y _).mono fun _ _ h => ⟨h.1, 0, h.2⟩
      go_wp2_with fail
      go_quiet ((go_at_call 19; exact quiet_add HS.out _ _))
      go_wp2_with fail
      go_roundw
      case measure => simp only [intOf]; omega
      case rel => exact ⟨k + 1, _, by omega, by go_num, rfl⟩
    · obtain rfl : l.length = k := by omega
      go_wp2_with fail
      go_ret
      exact ⟨rfl, _, rfl⟩
theorem Try.u28 : Try.prog.underlying 28 = some (.slice 33) := by kernel_rfl
theorem Try.info33 : (Try.prog.info? 33).map (fun i => (i.zero, i.size, i.bytes)) = some (some (.float .f64 0), 1, 8) := by kernel_rfl
theorem run_store_float {P : Program} {w : World} {a : Addr} {m : Mode} (k : FloatKind) (n : Nat) : (store a (.float k n) m).run P w = stored P w a (.float k n) m := run_store P w a _ m rfl
attribute [go_sem] run_store_float
theorem clone_calls (sv : Value) (l : List Nat) (w : World) (hl : Rd w cf sv l) (h1 : 1 ≤ l.length) (hm : l.length * 8 ≤ 140737488351232) :
    Calls Try.prog 30 #[sv] w fun e w' => ∃ v', e = .returned v' ∧ Own w' w.heap.size 33 cf v' l ∧ Ext w w' := by
  obtain ⟨i3, j1, j2, j3, j4⟩ := info_parts Try.info33
  have hz : i3.zero = some (cf 0) := j2
  have heq := fun (w : World) (a : Option Addr) (n c : Nat) => Lib.run_eql_slice_nil (P := Try.prog) w 28 33 a n c 0 0 Try.u28
  have hl1 := hl
  obtain ⟨ad, c, rfl, hat⟩ := hl1.at
  obtain ⟨b, o, rfl, hz0⟩ := hat 0 (by omega)
  clear hz0
  have e1 := Ext.of_alloc (w := w) (.cells #[] 33)
  have HL := Lib.hid (e1.rd hl)
  have O1 : Hid (Own (w.alloc (.cells #[] 33)) w.heap.size 33 cf (.slice (some ⟨w.heap.size, 0, none⟩) 0 0) []) := Own.made (Nat.le_refl _)
  have S1 := Lib.hid (e1.size)
  have B1 : Hid ((([] : List Nat).length + l.length) * 8 ≤ 140737488355328) := by show _ ≤ _; simp; omega
  have M1 : Hid ((([] : List Nat).length + l.length) ≤ 9223372036854775807) := by show _ ≤ _; simp; omega
  have E1 := Lib.hid e1
  clear hat hl1 hl e1 hm h1
  go_enter Try.func30, Try.ntmps30
  go_wp2_with (first
    | (at_builtin; refine wpList_append_rd cf cf_one rfl (.tmp 5) (.tmp 6) 28 rfl w.heap.size 33 i3 0 8 Try.u28 j1 hz j3 j4 rfl (.slice (some ⟨w.heap.size, 0, none⟩) 0 0) [] rfl O1.out _ l rfl HL.out B1.out M1.out S1.out ?_
       intro v' w3 ho3 hg3
       rw [List.nil_append] at ho3
       have P3 := Lib.hid (And.intro ho3 (E1.out.grown hg3 (fun k hk => by cases hk; exact Nat.le_refl _)))
       clear ho3 hg3 O1 S1 B1 M1)
    | fail)
  go_ret
  exact ⟨_, rfl, P3.out.1, P3.out.2⟩
theorem row_calls (g lb : Nat) (m : Mt) (w : World) (h : MB w g lb m) :
    Calls Try.prog 12 #[.pointer (some ⟨g, 0, none⟩)] w fun e w' => ∃ v', e = .returned v' ∧ Own w' w.heap.size 33 cf v' m.L ∧ Ext w w' := by
  have H := Lib.hid (clone_calls (.slice (some ⟨lb, 0, none⟩) m.L.length m.L.length) m.L w h.rd h.ok.l1 (by have := h.ok.l2; omega))
  have hc := h.loads
  clear h
  go_enter Try.func12, Try.ntmps12
  go_wp2_with (first | (go_at_call 30; refine H.out.mono ?_; clear H; rintro e w1 ⟨v1, rfl, h1, h2⟩; have P := Lib.hid (And.intro h1 h2); clear h1 h2) | fail)
  go_ret
  exact ⟨_, rfl, P.out.1, P.out.2⟩
def ofP (m : Mt) (i : Int) : Nat := if 0 ≤ i ∧ i < m.L.length then m.L.getD i.toNat 0 else 0
theorem of_calls (g lb : Nat) (m : Mt) (i : Int) (w : World) (h : MB w g lb m) :
    Calls Try.prog 20 #[.pointer (some ⟨g, 0, none⟩), ci i] w fun e w' => e = .returned (cf (ofP m i)) ∧ w = w' := by
  have hc := h.loads
  unfold ofP
  by_cases h0 : 0 ≤ i
  · obtain ⟨k, rfl⟩ : ∃ k : Nat, i = (k : Int) := ⟨i.toNat, by omega⟩
    by_cases h1 : (k : Int) < m.L.length
    · have hk : k < m.L.length := by omega
      have ha := h.at k hk
      rw [if_pos ⟨h0, h1⟩, Int.toNat_natCast, List.getD_eq_getElem?_getD, List.getElem?_eq_getElem hk]
      generalize m.L[k] = y at *
      clear h
      go_enter Try.func20, Try.ntmps20
      go_wp2_with fail
      go_ret
      exact ⟨rfl, rfl⟩
    · rw [if_neg (fun c => h1 c.2)]
      clear h
      go_enter Try.func20, Try.ntmps20
      go_wp2_with fail
      go_ret
      exact ⟨rfl, rfl⟩
  · rw [if_neg (fun c => h0 c.1)]
    clear h
    go_enter Try.func20, Try.ntmps20
    go_wp2_with fail
    go_ret
    exact ⟨rfl, rfl⟩
def sumF : Nat → List Nat → Nat
  | y, [] => y
  | y, x :: r => sumF (fadd y x) r
theorem sumF_nil (y : Nat) : sumF y [] = y := rfl
theorem sumF_cons (y x : Nat) (r : List Nat) : sumF y (x :: r) = sumF (fadd y x) r := rfl
theorem dropcons {α : Type} {l : List α} {k : Nat} (h : k < l.length) : l.drop k = l[k] :: l.drop (k + 1) := List.drop_eq_getElem_cons h
theorem sum_calls (g lb : Nat) (m : Mt) (w : World) (h : MB w g lb m) :
    Calls Try.prog 27 #[.pointer (some ⟨g, 0, none⟩)] w fun e w' => e = .returned (cf (sumF 0 m.L)) ∧ Ext w w' := by
  have H := Lib.hid (row_calls g lb m w h)
  have hl2 : (m.L.length : Int) ≤ 64 := by have := h.ok.l2; omega
  have HG := Lib.hid h.ok.gl
  clear h
  go_enter Try.func27, Try.ntmps27
  go_wp2_with (first | (go_at_call 12; refine H.out.mono ?_; clear H; rintro e w1 ⟨v1, rfl, h1, h2⟩
                        obtain ⟨ad, c, hv, hat⟩ := h1.rd.at
                        subst hv
                        have E1 := Lib.hid h2
                        have HA := Lib.hid hat
                        clear h1 h2 hat) | fail)
  go_loop [3, 5, 9] (fun y _ i => ∃ (k z : Nat), k ≤ m.L.length ∧ i = .int .i64 k ∧ y = cf z ∧ Hid (good z ∧ sumF z (m.L.drop k) = sumF 0 m.L)) (fun _ _ i => m.L.length - (intOf i).toNat)
  case atStart => exact ⟨0, 0, by omega, rfl, rfl, good0, by rw [List.drop_zero]⟩
  case round =>
    obtain ⟨k, z, hk, rfl, rfl, hT⟩ := hrel
    by_cases hlt : k < m.L.length
    · obtain ⟨b, o, rfl, hc⟩ := HA.out k hlt
      have hgo := HG.out m.L[k] (List.getElem_mem _)
      have hst := hT.out.2
      rw [dropcons hlt, sumF_cons] at hst
      have HST := Lib.hid hst
      generalize m.L[k] = x at *
      obtain ⟨ha, hgz⟩ := fadd_eq hT.out.1 (Or.inl hgo)
      have hadd := fun w => run_float_arith (P := Try.prog) w .add 33 .f64 _ _ _ ha
      have HGZ := Lib.hid hgz
      clear hgo hst ha hgz hT
      go_wp2_with fail
      go_round
      case measure => simp only [intOf]; omega
      case rel => exact ⟨k + 1, _, by omega, by go_num, rfl, HGZ.out, HST.out⟩
    · obtain rfl : m.L.length = k := by omega
      have hz : Hid (z = sumF 0 m.L) := by have := hT.out.2; rw [List.drop_length, sumF_nil] at this; exact this
      clear hT
      go_wp2_with fail
      go_ret
      exact ⟨by rw [hz.out]; rfl, E1.out⟩
def topF (L : List Nat) : Int → Nat → List Nat → Int
  | t, _, [] => t
  | t, i, x :: r => topF L (if (decide (t < 0) || gtB x (L.getD t.toNat 0)) = true then i else t) (i + 1) r
theorem topF_nil (L : List Nat) (t : Int) (i : Nat) : topF L t i [] = t := rfl
theorem topF_cons (L : List Nat) (t : Int) (i x : Nat) (r : List Nat) : topF L t i (x :: r) = topF L (if (decide (t < 0) || gtB x (L.getD t.toNat 0)) = true then i else t) (i + 1) r := rfl
theorem top_calls (g lb : Nat) (m : Mt) (w : World) (h : MB w g lb m) :
    Calls Try.prog 29 #[.pointer (some ⟨g, 0, none⟩)] w fun e w' => e = .returned (ci (topF m.L (-1) 0 m.L)) ∧ Ext w w' := by
  have H := Lib.hid (row_calls g lb m w h)
  have hl2 : (m.L.length : Int) ≤ 64 := by have := h.ok.l2; omega
  have HM := Lib.hid h
  clear h
  go_enter Try.func29, Try.ntmps29
  go_wp2_with (first | (go_at_call 12; refine H.out.mono ?_; clear H; rintro e w1 ⟨v1, rfl, h1, h2⟩
                        obtain ⟨ad, c, hv, hat⟩ := h1.rd.at
                        subst hv
                        have E1 := Lib.hid h2
                        have HA := Lib.hid hat
                        have HM1 := Lib.hid (HM.out.ext h2)
                        have hc2 := HM1.out.loads
                        clear h1 h2 hat) | fail)
  go_loop [3, 4, 5, 9] (fun t _ _ i => ∃ (k : Nat) (z : Int), k ≤ m.L.length ∧ i = .int .i64 k ∧ t = ci z ∧ Hid (-1 ≤ z ∧ z < m.L.length ∧ topF m.L z k (m.L.drop k) = topF m.L (-1) 0 m.L)) (fun _ _ _ i => m.L.length - (intOf i).toNat)
  case atStart => exact ⟨0, -1, by omega, rfl, rfl, by omega, by omega, by rw [List.drop_zero]⟩
  case round =>
    obtain ⟨k, z, hk, rfl, rfl, hT⟩ := hrel
    by_cases hlt : k < m.L.length
    · obtain ⟨b, o, rfl, hc⟩ := HA.out k hlt
      have hst := hT.out.2.2
      rw [dropcons hlt, topF_cons] at hst
      generalize m.L[k] = x at *
      by_cases hz0 : z < 0
      · have HST := Lib.hid hst
        clear hst hT
        go_wp2_with fail
        go_round
        case measure => simp only [intOf]; omega
        case rel => exact ⟨k + 1, k, by omega, by go_num, rfl, by omega, by omega, by have := HST.out; rw [decide_eq_true hz0] at this; simpa using this⟩
      · obtain ⟨j, rfl⟩ : ∃ j : Nat, z = (j : Int) := ⟨z.toNat, by omega⟩
        have hj : j < m.L.length := by have := hT.out.2.1; omega
        have hcj := HM1.out.at j hj
        have hd : m.L.getD j 0 = m.L[j] := by rw [List.getD_eq_getElem?_getD, List.getElem?_eq_getElem hj]; rfl
        rw [Int.toNat_natCast, hd, decide_eq_false hz0, Bool.false_or] at hst
        generalize m.L[j] = y at *
        have HST := Lib.hid hst
        clear hst hT hd
        cases hg : gtB x y with
        | true =>
          have hge : (FloatKind.f64.format.order x y == some .gt) = true := (gtB_eq x y).symm.trans hg
          have HG := Lib.hid hg
          clear hg
          go_wp2_with fail
          go_round
          case measure => simp only [intOf]; omega
          case rel => exact ⟨k + 1, k, by omega, by go_num, rfl, by omega, by omega, by have := HST.out; rw [HG.out] at this; simpa using this⟩
        | false =>
          have hge : (FloatKind.f64.format.order x y == some .gt) = false := (gtB_eq x y).symm.trans hg
          have HG := Lib.hid hg
          clear hg
          go_wp2_with fail
          go_round
          case measure => simp only [intOf]; omega
          case rel => exact ⟨k + 1, j, by omega, by go_num, rfl, by omega, by omega, by have := HST.out; rw [HG.out] at this; simpa using this⟩
    · obtain rfl : m.L.length = k := by omega
      have hz : Hid (z = topF m.L (-1) 0 m.L) := by have := hT.out.2.2; rw [List.drop_length, topF_nil] at this; exact this
      clear hT
      go_wp2_with fail
      go_ret
      exact ⟨by rw [hz.out]; rfl, E1.out⟩
end Go.Proofs.Ytjgdeijodjihlaa
