/- Layer 25 (balance): lists compared, cloned, lent; the crowd. -/
import Derived.Test.YtkpjnikmcojdlaaProg
import Derived.Test.YtkpjnikmcojdlaaGen
import Derived.WalkLawsBesides
namespace Go.Proofs.Ytkpjnikmcojdlaa
open Go.RowKit
set_option linter.unusedVariables false

theorem Try.u22 : Try.prog.underlying 22 = some (.slice 3) := by kernel_rfl
theorem Try.info3 : (Try.prog.info? 3).map (fun i => (i.zero, i.size, i.bytes)) = some (some (.int .i64 0), 1, 8) := by kernel_rfl
theorem ci_one (a : Int) : (ci a).oneCell' = true := rfl
theorem Rd.at {α : Type} {w : World} {f : α → Value} {v : Value} {l : List α} (h : Rd w f v l) : ∃ ad c, v = .slice ad l.length c ∧ ∀ i, (hi : i < l.length) → ∃ b o, ad = some ⟨b, o, none⟩ ∧ w.cell? ⟨b, o + i, none⟩ = some (f l[i]) := by
  rcases h with ⟨a, c, rfl, h0, _⟩ | ⟨b, o, c, n, rfl, hn, hp, hc⟩
  · subst h0
    exact ⟨a, c, rfl, fun i hi => absurd hi (by simp)⟩
  · exact ⟨some ⟨b, o, none⟩, c, by rw [hn], fun i hi => ⟨b, o, rfl, hc i hi⟩⟩
theorem take_succ_eq {α : Type} {a b : List α} {k : Nat} (ha : k < a.length) (hb : k < b.length) (h : a.take k = b.take k) (hk : a[k] = b[k]) : a.take (k + 1) = b.take (k + 1) := by
  rw [List.take_add_one, List.take_add_one, h, List.getElem?_eq_getElem ha, List.getElem?_eq_getElem hb, hk]
theorem same_calls (sa sb : Value) (a b : List Int) (w : World) (ha : Rd w ci sa a) (hb : Rd w ci sb b) (hla : a.length ≤ 9223372036854775807) (hlb : b.length ≤ 9223372036854775807) :
    Calls Try.prog 16 #[sa, sb] w fun e w' => e = .returned (.bool (decide (a = b))) ∧ ∃ n, w.drewN n = w' := by
  have hla' : (a.length : Int) ≤ 9223372036854775807 := by omega
  have hlb' : (b.length : Int) ≤ 9223372036854775807 := by omega
  clear hla hlb
  obtain ⟨ad, c, rfl, hA⟩ := ha.at
  obtain ⟨bd, d, rfl, hB⟩ := hb.at
  have HA := Lib.hid hA
  have HB := Lib.hid hB
  clear ha hb hA hB
  go_enter Try.func16, Try.ntmps16
  by_cases hl : a.length = b.length
  · have hll : (a.length : Int) = b.length := by omega
    have HL := Lib.hid hl
    clear hl
    go_wp2_with fail
    go_loopw [5] (fun i wr => ∃ (k n : Nat), k ≤ b.length ∧ i = .int .i64 k ∧ wr = w.drewN n ∧ Hid (a.take k = b.take k)) (fun i _ => (b.length - (intOf i).toNat))
    case atStart => exact ⟨0, 0, by omega, rfl, rfl, by show List.take 0 a = _; rw [List.take_zero, List.take_zero]⟩
    case round =>
      obtain ⟨k, n, hk, rfl, rfl, ht⟩ := hrel
      by_cases hlt : k < b.length
      · have hlt2 : k < a.length := by rw [HL.out]; exact hlt
        obtain ⟨b1, o1, rfl, hc1⟩ := HA.out k hlt2
        obtain ⟨b2, o2, rfl, hc2⟩ := HB.out k hlt
        by_cases hx : a[k] = b[k]
        · have ht' := Lib.hid (take_succ_eq hlt2 hlt ht.out hx)
          rw [hx] at hc1
          generalize b[k] = y at *
          clear ht hx
          have hyy : (y != y) = false := by simp
          go_wp2_with fail
          go_quiet (fail)
          go_wp2_with fail
          go_roundw
          case measure => simp only [intOf]; omega
          case rel => exact ⟨k + 1, _, by omega, by go_num, rfl, ht'⟩
        · have hne : (a[k] != b[k]) = true := by simp [hx]
          have hab := Lib.hid (show a ≠ b from fun h => hx (by subst h; rfl))
          generalize b[k] = y at *
          generalize a[k] = x at *
          clear ht hx
          go_wp2_with fail
          go_quiet (fail)
          go_wp2_with fail
          go_ret
          exact ⟨by rw [decide_eq_false hab.out]; rfl, _, (World.drewN_drewN ..).symm⟩
      · obtain rfl : k = b.length := by omega
        have hab := Lib.hid (show a = b by have := ht.out; rw [List.take_length, ← HL.out, List.take_length] at this; exact this)
        clear ht
        go_wp2_with fail
        go_ret
        exact ⟨by rw [decide_eq_true hab.out]; rfl, _, rfl⟩
  · have hll : ((a.length : Int) != b.length) = true := by simp; omega
    have hab := Lib.hid (show a ≠ b from fun h => hl (by rw [h]))
    clear hl
    go_wp2_with fail
    go_ret
    exact ⟨by rw [decide_eq_false hab.out]; rfl, 0, rfl⟩
/-- is this none of the servers? -/
def stranger (s x : Int) : Bool := decide (x < 0) || decide (s ≤ x)
theorem stranger_calls (x s : Int) (g : Nat) (w : World) (hg : w.cell? ⟨g, 0, none⟩ = some (ci s)) :
    Calls Try.prog 44 #[ci x, .pointer (some ⟨g, 0, none⟩)] w fun e w' => e = .returned (.bool (stranger s x)) ∧ w = w' := by
  unfold stranger
  go_enter Try.func44, Try.ntmps44
  by_cases h0 : x < 0
  · have hd : decide (x < 0) = true := decide_eq_true h0
    clear h0
    go_wp2_with fail
    go_ret
    exact ⟨by rw [hd]; rfl, rfl⟩
  · have hd : decide (x < 0) = false := decide_eq_false h0
    clear h0
    go_wp2_with fail
    go_ret
    exact ⟨by rw [hd]; rfl, rfl⟩
theorem index_calls (sv : Value) (l : List Int) (s : Int) (g : Nat) (w : World) (hl : Rd w ci sv l) (hm : l.length ≤ 9223372036854775807) (hg : w.cell? ⟨g, 0, none⟩ = some (ci s)) :
    Calls Try.prog 51 #[sv, .func (.func 44) #[] #[.pointer (some ⟨g, 0, none⟩)]] w fun e w' => ∃ r : Int, e = .returned (ci r) ∧ decide (0 ≤ r) = l.any (stranger s) ∧ w = w' := by
  have hm' : (l.length : Int) ≤ 9223372036854775807 := by omega
  clear hm
  obtain ⟨ad, c, rfl, hat⟩ := hl.at
  have HA := Lib.hid hat
  clear hat hl
  go_enter Try.func51, Try.ntmps51
  go_wp2_with fail
  go_loop [5, 8] (fun _ i => ∃ (k : Nat), k ≤ l.length ∧ i = .int .i64 k ∧ Hid ((l.take k).any (stranger s) = false)) (fun _ i => l.length - (intOf i).toNat)
  case atStart => exact ⟨0, by omega, rfl, by show _ = _; rw [List.take_zero]; rfl⟩
  case round =>
    obtain ⟨k, hk, rfl, hy⟩ := hrel
    by_cases hlt : k < l.length
    · obtain ⟨b, o, rfl, hci⟩ := HA.out k hlt
      have H44 := stranger_calls l[k] s g w hg
      have hstep : Hid (stranger s l[k] = false → (l.take (k + 1)).any (stranger s) = false) := fun h => by
        rw [List.take_add_one, List.getElem?_eq_getElem hlt, List.any_append, hy.out]
        simp [h]
      have hfound : Hid (stranger s l[k] = true → l.any (stranger s) = true) := fun h => List.any_eq_true.2 ⟨l[k], List.getElem_mem _, h⟩
      generalize hst : stranger s l[k] = r at *
      have HST := Lib.hid hst
      generalize l[k] = x at *
      clear hst hy
      have H := Lib.hid H44
      clear H44
      cases r with
      | true =>
        go_wp2_with (first | (go_at_call 44; refine H.out.mono ?_; rintro e w' ⟨rfl, rfl⟩) | fail)
        go_ret
        exact ⟨_, rfl, by rw [hfound.out trivial]; exact decide_eq_true (by omega), rfl⟩
      | false =>
        go_wp2_with (first | (go_at_call 44; refine H.out.mono ?_; rintro e w' ⟨rfl, rfl⟩) | fail)
        go_round
        case measure => simp only [intOf]; omega
        case rel => exact ⟨k + 1, by omega, by go_num, hstep.out trivial⟩
    · obtain rfl : l.length = k := by omega
      have hy' := Lib.hid (show l.any (stranger s) = false by have := hy.out; rw [List.take_length] at this; exact this)
      clear hy
      go_wp2_with fail
      go_ret
      exact ⟨_, rfl, by rw [hy'.out]; rfl, rfl⟩
theorem contains_calls (sv : Value) (l : List Int) (s : Int) (g : Nat) (w : World) (hl : Rd w ci sv l) (hm : l.length ≤ 9223372036854775807) (hg : w.cell? ⟨g, 0, none⟩ = some (ci s)) :
    Calls Try.prog 45 #[sv, .func (.func 44) #[] #[.pointer (some ⟨g, 0, none⟩)]] w fun e w' => e = .returned (.bool (l.any (stranger s))) ∧ w = w' := by
  have H := Lib.hid (index_calls sv l s g w hl hm hg)
  clear hl hm hg
  go_enter Try.func45, Try.ntmps45
  go_wp2_with (first | (go_at_call 51; refine H.out.mono ?_; clear H; rintro e w' ⟨r, rfl, hr, rfl⟩) | fail)
  go_ret
  exact ⟨rfl, rfl⟩
def crowd (l : List Int) (s : Int) : Bool := decide (l.length ≤ 64) && (decide (0 < s) && (decide (s ≤ 8) && !l.any (stranger s)))
theorem crowd_calls (sv : Value) (l : List Int) (s : Int) (w : World) (hl : Rd w ci sv l) (hm : l.length ≤ 9223372036854775807) :
    Calls Try.prog 33 #[sv, ci s] w fun e w' => e = .returned (.bool (crowd l s)) ∧ Ext w w' := by
  have hmf : ∀ (fn : Fn) (first cap : Array Value) (w : World), (Instr.makeFunc fn first cap).run Try.prog w = .ok (.func fn first cap) w := fun _ _ _ _ => rfl
  have hm' : (l.length : Int) ≤ 9223372036854775807 := by omega
  have H := Lib.hid (contains_calls sv l s w.heap.size (w.alloc (.cells #[ci s] 3)) hl.alloc hm (by rw [World.cell?_alloc_new]; rfl))
  have E := Lib.hid (Ext.of_alloc (w := w) (.cells #[ci s] 3))
  obtain ⟨ad, c, rfl, hat⟩ := hl.at
  clear hat hl
  unfold crowd
  obtain ⟨r, hr⟩ : ∃ r, l.any (stranger s) = r := ⟨_, rfl⟩
  rw [hr] at H ⊢
  clear hr
  by_cases h1 : l.length ≤ 64
  · have d1 : decide ((l.length : Int) ≤ 64) = true := decide_eq_true (by omega)
    have e1 : decide (l.length ≤ 64) = true := decide_eq_true h1
    rw [e1]
    by_cases h2 : 0 < s
    · have d2 : decide (0 < s) = true := decide_eq_true h2
      by_cases h3 : s ≤ 8
      · have d3 : decide (s ≤ 8) = true := decide_eq_true h3
        clear h1 h2 h3 e1
        go_enter Try.func33, Try.ntmps33
        go_wp2_with (first | (go_at_call 45; refine H.out.mono ?_; clear H; rintro e w' ⟨rfl, rfl⟩) | fail)
        go_ret
        exact ⟨by rw [d2, d3]; rfl, E.out⟩
      · have d3 : decide (s ≤ 8) = false := decide_eq_false h3
        clear h1 h2 h3 e1
        go_enter Try.func33, Try.ntmps33
        go_wp2_with fail
        go_ret
        exact ⟨by rw [d2, d3]; rfl, E.out⟩
    · have d2 : decide (0 < s) = false := decide_eq_false h2
      clear h1 h2 e1
      go_enter Try.func33, Try.ntmps33
      go_wp2_with fail
      go_ret
      exact ⟨by rw [d2]; rfl, E.out⟩
  · have d1 : decide ((l.length : Int) ≤ 64) = false := decide_eq_false (by omega)
    have e1 : decide (l.length ≤ 64) = false := decide_eq_false h1
    rw [e1]
    clear h1 e1
    go_enter Try.func33, Try.ntmps33
    go_wp2_with fail
    go_ret
    exact ⟨rfl, E.out⟩
theorem clone_calls (sv : Value) (l : List Int) (w : World) (hl : Rd w ci sv l) (hm : l.length * 8 ≤ 140737488351232) :
    Calls Try.prog 34 #[sv] w fun e w' => ∃ v', e = .returned v' ∧ Own w' w.heap.size 3 ci v' l ∧ Ext w w' := by
  obtain ⟨i3, j1, j2, j3, j4⟩ := info_parts Try.info3
  have hz : i3.zero = some (ci 0) := j2
  have heq := fun (w : World) (a : Option Addr) (n c : Nat) => Lib.run_eql_slice_nil (P := Try.prog) w 22 3 a n c 0 0 Try.u22
  have hl1 := hl
  obtain ⟨ad, c, rfl, hat⟩ := hl1.at
  cases ad with
  | none =>
    have h0 : l = [] := by
      cases l with
      | nil => rfl
      | cons x r => obtain ⟨b, o, h, _⟩ := hat 0 (by simp); cases h
    subst h0
    clear hat hl1 hl
    go_enter Try.func34, Try.ntmps34
    go_wp2_with fail
    go_ret
    exact ⟨_, rfl, Own.nil, Ext.refl _⟩
  | some ad =>
    have e1 := Ext.of_alloc (w := w) (.cells #[] 3)
    have HL := Lib.hid (e1.rd hl)
    have O1 : Hid (Own (w.alloc (.cells #[] 3)) w.heap.size 3 ci (.slice (some ⟨w.heap.size, 0, none⟩) 0 0) []) := Own.made (Nat.le_refl _)
    have S1 := Lib.hid e1.size
    have B1 : Hid ((([] : List Int).length + l.length) * 8 ≤ 140737488355328) := by show _ ≤ _; simp; omega
    have M1 : Hid ((([] : List Int).length + l.length) ≤ 9223372036854775807) := by show _ ≤ _; simp; omega
    have E1 := Lib.hid e1
    clear hat hl1 hl e1
    go_enter Try.func34, Try.ntmps34
    go_wp2_with (first
      | (at_builtin; refine wpList_append_rd ci ci_one rfl (.tmp 5) (.tmp 6) 22 rfl w.heap.size 3 i3 0 8 Try.u22 j1 hz j3 j4 rfl (.slice (some ⟨w.heap.size, 0, none⟩) 0 0) [] rfl O1.out _ l rfl HL.out B1.out M1.out S1.out ?_
         intro v1 w1 ho1 hg1
         have P1 := Lib.hid (And.intro ho1 (E1.out.grown hg1 (fun k hk => by cases hk; exact Nat.le_refl _)))
         clear ho1 hg1)
      | fail)
    go_ret
    exact ⟨_, rfl, P1.out.1, P1.out.2⟩
end Go.Proofs.Ytkpjnikmcojdlaa
