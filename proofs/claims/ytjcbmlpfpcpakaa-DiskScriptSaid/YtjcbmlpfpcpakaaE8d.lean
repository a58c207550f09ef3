/- Layer 8 (disk), the document's disk: made, loaded, its image, what is read. -/
import Derived.Test.YtjcbmlpfpcpakaaE8b
import Derived.Test.YtjcbmlpfpcpakaaD8s
namespace Go.Proofs.Ytjcbmlpfpcpakaa
open Go.RowKit
set_option linter.unusedVariables false
theorem rnew_bad (n : Int) (w : World) (hn : n < 1 ∨ 65536 < n) : Calls Try.prog 39 #[ci n] w fun e w' => e = .returned (.tuple #[.pointer none, ci 2]) ∧ w = w' := by
  by_cases h0 : n < 1
  · have hf1 : decide (n < 1) = true := decide_eq_true h0
    clear hn
    go_enter Try.func39, Try.ntmps39
    go_wp2_with fail
    go_ret2
    exact ⟨rfl, rfl⟩
  · have hf1 : decide (n < 1) = false := decide_eq_false h0
    have h1 : 65536 < n := by omega
    have hf2 : decide (65536 < n) = true := decide_eq_true h1
    clear hn
    go_enter Try.func39, Try.ntmps39
    go_wp2_with fail
    go_ret2
    exact ⟨rfl, rfl⟩
theorem make_bytes (n : Nat) (h : n ≤ 65536) (w : World) : (Instr.makeSlice 36 (.int .i64 (64 * (n : Int))) (.int .i64 (64 * (n : Int)))).run Try.prog w = .ok (.slice (some ⟨w.heap.size, 0, none⟩) (64 * n) (64 * n)) (w.alloc (.cells (V cb (List.replicate (64 * n) 0#8)) 5)) := by
  obtain ⟨i5, j1, j2, j3, j4⟩ := info_parts Try.info5
  have hz : i5.zero = some (cb 0#8) := j2
  have h1 := run_make_one (P := Try.prog) cb 0#8 36 5 i5 1 Try.u36 j1 hz j3 j4 rfl (64 * n) (64 * n) (Nat.le_refl _) (by omega) (by omega) w
  have e : ((64 * n : Nat) : Int) = 64 * (n : Int) := by omega
  rw [e] at h1
  exact h1
theorem rnew_ok (n : Nat) (w : World) (h1 : 1 ≤ n) (h2 : n ≤ 65536) : Calls Try.prog 39 #[ci n] w fun e w' => e = .returned (.tuple #[.pointer (some ⟨w.heap.size + 1, 0, none⟩), ci 0]) ∧ Ext w w' ∧
    RB w' w.heap.size (w.heap.size + 1) w.heap.size (64 * n) (.slice none 0 0) [] n (List.replicate (64 * n) 0#8) (-1) 0 0 := by
  have hmk := make_bytes n h2
  have hf1 : decide ((n : Int) < 1) = false := decide_eq_false (by omega)
  have hf2 : decide (65536 < (n : Int)) = false := decide_eq_false (by omega)
  have hn2 : (n : Int) ≤ 65536 := by omega
  have hn1 : 1 ≤ (n : Int) := by omega
  have HN := Lib.hid (And.intro h1 h2)
  clear h1 h2
  go_enter Try.func39, Try.ntmps39
  go_wp2_with fail
  go_ret2
  refine ⟨rfl, ((Ext.refl w).alloc _).alloc _, ?_, ⟨by simp, by have := HN.out.2; unfold maxLen; omega, _, (Blk.new w (V cb (List.replicate (64 * n) 0#8)) 5).alloc _, by rw [V_size]; simp, fun i hi => ?_⟩, by simp, HN.out.1, HN.out.2, ⟨rfl, Or.inl ⟨rfl, rfl⟩⟩, fun x hx => by cases hx⟩
  · have h := Blk.new (w.alloc (.cells (V cb (List.replicate (64 * n) 0#8)) 5)) #[.slice (some ⟨w.heap.size, 0, none⟩) (64 * n) (64 * n), .slice none 0 0, ci (-1), ci 0, ci 0] 137
    have e : (w.alloc (.cells (V cb (List.replicate (64 * n) 0#8)) 5)).heap.size = w.heap.size + 1 := Array.size_push _
    rw [e] at h
    exact h
  · rw [V_get, List.getElem?_eq_getElem hi]; rfl
theorem rload_bad (a : Option Addr) (m c : Nat) (w : World) (hm : m ≤ maxLen) (h : m / 64 < 1 ∨ 65536 < m / 64 ∨ m ≠ m / 64 * 64) :
    Calls Try.prog 40 #[.slice a m c] w fun e w' => e = .returned (.tuple #[.pointer none, ci 82]) ∧ w = w' := by
  have hm' : (m : Int) ≤ 9223372036854775807 := by unfold maxLen at hm; omega
  clear hm
  by_cases h0 : m = 0
  · subst h0
    clear h
    go_enter Try.func40, Try.ntmps40
    go_wp2_with fail
    go_ret2
    exact ⟨rfl, rfl⟩
  · have h0' : ((m : Int) == 0) = false := by simp; omega
    have h0'' : ¬ (m : Int) = 0 := by omega
    obtain ⟨r, hr⟩ : ∃ r : Nat, m % 64 = r := ⟨_, rfl⟩
    obtain ⟨q, hq⟩ : ∃ q : Nat, m / 64 = q := ⟨_, rfl⟩
    have hr' : (m : Int) % 64 = (r : Int) := by omega
    have hq' : (m : Int) / 64 = (q : Int) := by omega
    by_cases h1 : r = 0
    · subst h1
      have h2 : 65536 < q := by omega
      have h2' : decide (65536 < (q : Int)) = true := decide_eq_true (by omega)
      have h2'' : 65536 < (q : Int) := by omega
      clear h hr hq
      go_enter Try.func40, Try.ntmps40
      go_wp2_with fail
      go_ret2
      exact ⟨rfl, rfl⟩
    · have h1' : ((r : Int) != 0) = true := by simp; omega
      have h1'' : ¬ (r : Int) = 0 := by omega
      clear h hr hq
      go_enter Try.func40, Try.ntmps40
      go_wp2_with fail
      go_ret2
      exact ⟨rfl, rfl⟩
theorem rload_ok {w : World} (iv : Value) (img : List (BitVec 8)) (n : Nat) (h1 : 1 ≤ n) (h2 : n ≤ 65536) (hl : img.length = 64 * n) (hr : Rd w cb iv img) :
    Calls Try.prog 40 #[iv] w fun e w' => ∃ g sb sc, e = .returned (.tuple #[.pointer (some ⟨g, 0, none⟩), ci 0]) ∧ Ext w w' ∧ w.heap.size ≤ g ∧ w.heap.size ≤ sb ∧ RB w' w.heap.size g sb sc (.slice none 0 0) [] n img (-1) 0 0 := by
  obtain ⟨a, c, rfl⟩ := hr.form
  have hn2 : (n : Int) ≤ 65536 := by omega
  have hn1 : 1 ≤ (n : Int) := by omega
  have hq : (64 * (n : Int)) / 64 = (n : Int) := by omega
  have hm : (64 * (n : Int)) % 64 = 0 := by omega
  have h0 : ((64 * (n : Int)) == 0) = false := by simp; omega
  have h0' : ¬ (64 * (n : Int)) = 0 := by omega
  have hf2 : decide (65536 < (n : Int)) = false := decide_eq_false (by omega)
  have HN := Lib.hid (And.intro h1 h2)
  have HL := Lib.hid hl
  rw [hl] at hr ⊢
  have HR := Lib.hid hr
  clear h1 h2 hl hr
  go_enter Try.func40, Try.ntmps40
  go_upto_region 4 with (fail)
  go_wp2_with (first
    | (go_at_call 84; refine (copied_calls _ img w HR.out (by rw [HL.out]; have := HN.out.2; omega)).mono ?_
       rintro e w1 ⟨v, rfl, o, x⟩
       obtain ⟨gb, cb', rfl, hb1, _⟩ := o.has (by rw [HL.out]; have := HN.out.1; omega)
       have O1 := Lib.hid o
       have X1 := Lib.hid x
       have HB1 := Lib.hid hb1
       have SP : Hid (Spn w1 5 cb gb cb' img) := by
         obtain ⟨g2, c2, e2, hs2⟩ := o.sp.form (by rw [HL.out]; have := HN.out.1; omega)
         injection e2 with e2 _ e3
         injection e2 with e2
         injection e2 with e2 _ _
         subst e2 e3
         exact hs2
       rw [HL.out]
       clear o x hb1)
    | fail)
  go_ret2
  exact ⟨w1.heap.size, gb, cb', rfl, X1.out.alloc _, X1.out.size, HB1.out, Blk.new w1 _ 137, SP.out.ext (Ext.of_alloc _), HL.out, HN.out.1, HN.out.2, ⟨rfl, Or.inl ⟨rfl, rfl⟩⟩, fun x hx => by cases hx⟩
section
variable {w w' : World} {B g sb sc n : Nat} {pv : Value} {E : List We} {S : List (BitVec 8)} {left made synced : Int}
theorem RB.rd (h : RB w B g sb sc pv E n S left made synced) : Rd w cb (.slice (some ⟨sb, 0, none⟩) (64 * n) sc) S := h.s.rd h.sl.symm
theorem rimage_ok (h : RB w B g sb sc pv E n S left made synced) : Calls Try.prog 91 #[.pointer (some ⟨g, 0, none⟩)] w fun e w' => ∃ v, e = .returned v ∧ Own w' w.heap.size 5 cb v S ∧ Ext w w' := by
  have c0 : w.cell? ⟨g, 0, none⟩ = some (.slice (some ⟨sb, 0, none⟩) (64 * n) sc) := h.b.cell 0
  have HR := Lib.hid h.rd
  have HL : Hid (S.length ≤ 140737488351232) := by have h1 := h.sl; have h2 := h.n2; show _ ≤ _; omega
  clear h
  go_enter Try.func91, Try.ntmps91
  go_wp2_with (first
    | (go_at_call 84; refine (copied_calls _ S w HR.out HL.out).mono ?_
       rintro e w1 ⟨v, rfl, o, x⟩
       have O1 := Lib.hid o
       have X1 := Lib.hid x
       clear o x)
    | fail)
  go_ret
  exact ⟨_, rfl, O1.out, X1.out⟩
/-- what only the newest fitting write tells -/
theorem readS_top (at' : Nat) (s : List (BitVec 8)) (R : List (Nat × List (BitVec 8))) (k : Nat) (hk : k < R.length) (h : readS at' s R = readS at' s (R.take (k + 1))) : (R[k].1 = at' → readS at' s R = R[k].2) ∧ (R[k].1 ≠ at' → readS at' s R = readS at' s (R.take k)) := by
  have e := readS_step at' s R k hk
  have eg : R.getD k (0, []) = R[k] := by simp [List.getD_eq_getElem?_getD, hk]
  rw [eg] at e
  rw [h, e]
  exact ⟨fun h => if_pos h, fun h => if_neg h⟩
theorem wR_get (E : List We) (k : Nat) (hk : k < E.length) : (wR E)[k]'(by rw [show (wR E).length = E.length by unfold wR; simp]; exact hk) = (E[k].s, E[k].l) := by unfold wR; simp
theorem wR_length (E : List We) : (wR E).length = E.length := by unfold wR; simp
theorem rread_power (h : RB w B g sb sc pv E n S 0 made synced) (m : Int) : Calls Try.prog 86 #[.pointer (some ⟨g, 0, none⟩), ci m] w fun e w' => e = .returned (.tuple #[.slice none 0 0, ci 80]) ∧ w = w' := by
  have c2 : w.cell? ⟨g, 2, none⟩ = some (ci 0) := h.b.cell 2
  clear h
  go_enter Try.func86, Try.ntmps86
  go_wp2_with fail
  go_ret2
  exact ⟨rfl, rfl⟩
theorem RB.sectors (h : RB w B g sb sc pv E n S left made synced) : Calls Try.prog 92 #[.pointer (some ⟨g, 0, none⟩)] w fun e w' => e = .returned (ci n) ∧ w = w' := by
  obtain ⟨a, c, rfl, _⟩ := h.row
  exact ref_sectors h.b n rfl h.n2
theorem rread_sector (h : RB w B g sb sc pv E n S left made synced) (m : Int) (h0 : left ≠ 0) (hm : m < 0 ∨ (n : Int) ≤ m) : Calls Try.prog 86 #[.pointer (some ⟨g, 0, none⟩), ci m] w fun e w' => e = .returned (.tuple #[.slice none 0 0, ci 81]) ∧ w = w' := by
  have c2 : w.cell? ⟨g, 2, none⟩ = some (ci left) := h.b.cell 2
  have HS := Lib.hid h.sectors
  have hb : (left == 0) = false := by simpa using h0
  have hd : decide (left = 0) = false := decide_eq_false h0
  clear h
  by_cases hn : m < 0
  · have hf : decide (m < 0) = true := decide_eq_true hn
    clear hm
    go_enter Try.func86, Try.ntmps86
    go_wp2_with fail
    go_ret2
    exact ⟨rfl, rfl⟩
  · have hf : decide (m < 0) = false := decide_eq_false hn
    have h1 : (n : Int) ≤ m := by omega
    have hf2 : decide ((n : Int) ≤ m) = true := decide_eq_true h1
    clear hm
    go_enter Try.func86, Try.ntmps86
    go_wp2_with (first | (go_at_call 92; refine HS.out.mono ?_; rintro e w9 ⟨rfl, rfl⟩) | fail)
    go_ret2
    exact ⟨rfl, rfl⟩
set_option maxRecDepth 100000 in
set_option maxHeartbeats 2000000 in
theorem rread_ok (h : RB w B g sb sc pv E n S left made synced) (a : Nat) (h0 : left ≠ 0) (ha : a < n) :
    Calls Try.prog 86 #[.pointer (some ⟨g, 0, none⟩), ci a] w fun e w' => ∃ v, e = .returned (.tuple #[v, ci 0]) ∧ Own w' w.heap.size 5 cb v (readS a (sec S a) (wR E)) ∧ Ext w w' := by
  obtain ⟨pa, pc, rfl, hpc, hpm, hrow⟩ := h.row
  have c2 : w.cell? ⟨g, 2, none⟩ = some (ci left) := h.b.cell 2
  have c1 : w.cell? ⟨g, 1, none⟩ = some (.slice pa E.length pc) := h.b.cell 1
  have c0 : w.cell? ⟨g, 0, none⟩ = some (.slice (some ⟨sb, 0, none⟩) (64 * n) sc) := h.b.cell 0
  have HS := Lib.hid h.sectors
  have hb : (left == 0) = false := by simpa using h0
  have hd : decide (left = 0) = false := decide_eq_false h0
  have hf : decide ((a : Int) < 0) = false := decide_eq_false (by omega)
  have ha' : (a : Int) < n := by omega
  have hf2 : decide ((n : Int) ≤ a) = false := decide_eq_false (by omega)
  have hf3 : decide (n ≤ a) = false := decide_eq_false (by omega)
  have HRow := Lib.hid hrow
  have HE := Lib.hid h.e
  have HR := Lib.hid h.rd
  have HSL := Lib.hid h.sl
  have hn2 : (n : Int) ≤ 65536 := by have := h.n2; omega
  have hlim1 : 64 * (n : Int) ≤ sc := by have := h.lim.2; omega
  have hlim2 : (sc : Int) ≤ 9223372036854775807 := by have := h.lim.1; unfold maxLen at this; omega
  have hpl : (E.length : Int) ≤ 9223372036854775807 := by unfold maxLen at hpm; omega
  have HA := Lib.hid ha
  clear h hrow hpc hpm ha h0
  go_enter Try.func86, Try.ntmps86
  go_upto_region 8 with (first | (go_at_call 92; refine HS.out.mono ?_; rintro e w9 ⟨rfl, rfl⟩) | fail)
  go_wp2_with fail
  go_loopw [6] (fun iv wx => ∃ k : Nat, k ≤ E.length ∧ iv = ci ((k : Int) - 1) ∧ wx = w ∧ Hid (readS a (sec S a) (wR E) = readS a (sec S a) ((wR E).take k))) (fun iv _ => (intOf iv + 1).toNat)
  case atStart => exact ⟨E.length, Nat.le_refl _, rfl, rfl, by show _ = _; rw [List.take_of_length_le (by rw [wR_length]; exact Nat.le_refl _)]⟩
  case round =>
    obtain ⟨k, hk, rfl, rfl, hU⟩ := hrel
    by_cases hlt : 0 < k
    · obtain ⟨j, rfl⟩ : ∃ j, k = j + 1 := ⟨k - 1, by omega⟩
      have hj : j < E.length := by omega
      obtain ⟨x, rfl, hx1, hx2⟩ := HRow.out j hj
      have htop := readS_top a (sec S a) (wR E) j (by rw [wR_length]; exact hj) hU.out
      rw [wR_get E j hj] at htop
      obtain ⟨⟨⟨g', c', hv, hsp, _, _⟩, hxl⟩, _⟩ := HE.out _ (List.getElem_mem hj)
      have hjj : ((j + 1 : Nat) : Int) - 1 = (j : Int) := by omega
      rw [hjj]
      have hjl : (j : Int) < E.length := by omega
      by_cases he : E[j].s = a
      · have HT := Lib.hid (htop.1 he)
        rw [he] at hx1
        rw [hv] at hx2
        have HRd : Hid (Rd wr cb (.slice (some ⟨g', 0, none⟩) 64 c') E[j].l) := hsp.rd hxl.symm
        have HXL := Lib.hid hxl
        generalize E[j].l = xl at *
        clear htop he hv hsp hxl hjj
        go_wp2_with (first
          | (go_at_call 84; refine (copied_calls _ xl wr HRd.out (by rw [HXL.out]; decide)).mono ?_
             rintro e w1 ⟨v, rfl, o, x⟩
             have O1 := Lib.hid o
             have X1 := Lib.hid x
             clear o x)
          | fail)
        go_ret2
        exact ⟨_, rfl, by rw [HT.out]; exact O1.out, X1.out⟩
      · have HT := Lib.hid (htop.2 he)
        have he1 : ¬ (E[j].s : Int) = a := by omega
        have he2 : ((E[j].s : Int) == a) = false := by simpa using he1
        generalize E[j].s = es at *
        clear htop he hv hsp hxl hjj hx2
        go_wp2_with fail
        go_roundw
        case measure => simp only [intOf]; omega
        case rel => exact ⟨j, by omega, by go_num, trivial, HT.out⟩
    · obtain rfl : k = 0 := by omega
      have HT : Hid (readS a (sec S a) (wR E) = sec S a) := by have := hU.out; rw [List.take_zero] at this; exact this
      rw [show ((0 : Nat) : Int) - 1 = -1 from rfl]
      have g1 : ((64 : Int) * a).toNat = 64 * a := by omega
      have g2 : ((64 : Int) * a + 64).toNat = 64 * a + 64 := by omega
      have g3 : 64 * a + 64 ≤ sc := by omega
      have g4 : ¬ sc = 64 * a := by omega
      have HQ : Hid (∀ c', Rd wr cb (.slice (some ⟨sb, 64 * a, none⟩) 64 c') (sec S a)) := fun c' => by
        have := HR.out
        rcases this with ⟨_, _, _, h0, _⟩ | ⟨b, o, c'', m, e, hm, h0, hc⟩
        · have := HSL.out
          subst h0
          have := HA.out
          simp at *
          omega
        · injection e with e1 e2 e3
          injection e1 with e1
          injection e1 with e1 e4 _
          subst e1 e4
          refine Or.inr ⟨sb, 64 * a, c', 64, rfl, (sec_len HSL.out HA.out).symm, by decide, fun i hi => ?_⟩
          have hi' : i < 64 := by rw [sec_len HSL.out HA.out] at hi; exact hi
          have h1 := hc (64 * a + i) (by have := HSL.out; have := HA.out; omega)
          rw [Nat.zero_add] at h1
          rw [h1]
          have h2 := sec_get HSL.out HA.out hi'
          rw [List.getElem?_eq_getElem hi, List.getElem?_eq_getElem (by have := HSL.out; have := HA.out; omega)] at h2
          rw [Option.some.inj h2]
      clear hU HRow HE HR hk hlt
      go_wp2_with (first
        | (go_at_call 84; refine (copied_calls _ (sec S a) wr (HQ.out _) (by rw [sec_len HSL.out HA.out]; decide)).mono ?_
           rintro e w1 ⟨v, rfl, o, x⟩
           have O1 := Lib.hid o
           have X1 := Lib.hid x
           clear o x)
        | fail)
      go_ret2
      exact ⟨_, rfl, by rw [HT.out]; exact O1.out, X1.out⟩
end
theorem rimage_nil (w : World) : Calls Try.prog 91 #[.pointer none] w fun e w' => e = .returned (.slice none 0 0) ∧ w = w' := by
  go_enter Try.func91, Try.ntmps91
  go_wp2_with fail
  go_ret
  exact ⟨rfl, rfl⟩
end Go.Proofs.Ytjcbmlpfpcpakaa
