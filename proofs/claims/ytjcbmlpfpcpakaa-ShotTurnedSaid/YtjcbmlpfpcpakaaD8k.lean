/- Layer 8 (disk): the helpers of the statements. -/
import Derived.Test.YtjcbmlpfpcpakaaD8j
import Derived.Test.YtjcbmlpfpcpakaaRoom
import Derived.Deep.QuietTactic
import Derived.BigQuiet
namespace Go.Proofs.Ytjcbmlpfpcpakaa
open Go.RowKit
set_option linter.unusedVariables false
theorem cb_one (a : BitVec 8) : (cb a).oneCell' = true := rfl
theorem Rd.at {α : Type} {w : World} {f : α → Value} {v : Value} {l : List α} (h : Rd w f v l) : ∃ ad c, v = .slice ad l.length c ∧ ∀ i, (hi : i < l.length) → ∃ b o, ad = some ⟨b, o, none⟩ ∧ w.cell? ⟨b, o + i, none⟩ = some (f l[i]) := by
  rcases h with ⟨a, c, rfl, h0, _⟩ | ⟨b, o, c, n, rfl, hn, hp, hc⟩
  · subst h0
    exact ⟨a, c, rfl, fun i hi => absurd hi (by simp)⟩
  · exact ⟨some ⟨b, o, none⟩, c, by rw [hn], fun i hi => ⟨b, o, rfl, hc i hi⟩⟩
theorem take_succ_eq {α : Type} {a b : List α} {k : Nat} (ha : k < a.length) (hb : k < b.length) (h : a.take k = b.take k) (hk : a[k] = b[k]) : a.take (k + 1) = b.take (k + 1) := by
  rw [List.take_add_one, List.take_add_one, h, List.getElem?_eq_getElem ha, List.getElem?_eq_getElem hb, hk]
theorem same_calls (sa sb : Value) (a b : List (BitVec 8)) (w : World) (ha : Rd w cb sa a) (hb : Rd w cb sb b) (hla : a.length ≤ 9223372036854775807) (hlb : b.length ≤ 9223372036854775807) :
    Calls Try.prog 34 #[sa, sb] w fun e w' => e = .returned (.bool (decide (a = b))) ∧ ∃ n, w.drewN n = w' := by
  have hla' : (a.length : Int) ≤ 9223372036854775807 := by omega
  have hlb' : (b.length : Int) ≤ 9223372036854775807 := by omega
  clear hla hlb
  obtain ⟨ad, c, rfl, hA⟩ := ha.at
  obtain ⟨bd, d, rfl, hB⟩ := hb.at
  have HA := Lib.hid hA
  have HB := Lib.hid hB
  clear ha hb hA hB
  go_enter Try.func34, Try.ntmps34
  by_cases hl : a.length = b.length
  · have hll : (a.length : Int) = b.length := by omega
    have HL := Lib.hid hl
    clear hl
    go_wp2_with fail
    go_loopw [5] (fun i wr => ∃ (k n : Nat), k ≤ b.length ∧ i = .int .i64 k ∧ wr = w.drewN n ∧ Hid (a.take k = b.take k)) (fun i _ => (b.length - (intOf i).toNat))
    case atStart => exact ⟨0, 0, by omega, rfl, rfl, by show List.take 0 a = _; rw [List.take_zero, List.take_zero]⟩
    case round =>
      obtain ⟨k, n, hk, rfl, rfl, ht⟩ := hrel
      by_cases hlt : k < b.length
      · have hlt2 : k < a.length := by rw [HL.out]; exact hlt
        obtain ⟨b1, o1, rfl, hc1⟩ := HA.out k hlt2
        obtain ⟨b2, o2, rfl, hc2⟩ := HB.out k hlt
        by_cases hx : a[k] = b[k]
        · have ht' := Lib.hid (take_succ_eq hlt2 hlt ht.out hx)
          rw [hx] at hc1
          generalize b[k] = y at *
          clear ht hx
          have hyy : (y != y) = false := by simp
          go_wp2_with fail
          go_quiet (fail)
          go_wp2_with fail
          go_roundw
          case measure => simp only [intOf]; omega
          case rel => exact ⟨k + 1, _, by omega, by go_num, rfl, ht'⟩
        · have hne : (a[k] != b[k]) = true := by simp [hx]
          have hab := Lib.hid (show a ≠ b from fun h => hx (by subst h; rfl))
          generalize b[k] = y at *
          generalize a[k] = x at *
          clear ht hx
          go_wp2_with fail
          go_quiet (fail)
          go_wp2_with fail
          go_ret
          exact ⟨by rw [decide_eq_false hab.out]; rfl, _, (World.drewN_drewN ..).symm⟩
      · obtain rfl : k = b.length := by omega
        have hab := Lib.hid (show a = b by have := ht.out; rw [List.take_length, ← HL.out, List.take_length] at this; exact this)
        clear ht
        go_wp2_with fail
        go_ret
        exact ⟨by rw [decide_eq_true hab.out]; rfl, _, rfl⟩
  · have hll : ((a.length : Int) != b.length) = true := by simp; omega
    have hab := Lib.hid (show a ≠ b from fun h => hl (by rw [h]))
    clear hl
    go_wp2_with fail
    go_ret
    exact ⟨by rw [decide_eq_false hab.out]; rfl, 0, rfl⟩

def marks : List (BitVec 8) := [201#8, 202#8, 203#8]
theorem marks_len : marks.length = 3 := rfl
theorem V_marks : V cb marks = #[.int .u8 201, .int .u8 202, .int .u8 203] := by unfold V; rfl
attribute [irreducible] marks
/-- bytes in a block of their own, three marks behind them -/
def LentAt (w : World) (g : Nat) (p : List (BitVec 8)) : Prop := Blk w g (V cb (p ++ marks)) 5
def lentV (g n : Nat) : Value := .slice (some ⟨g, 0, none⟩) n (n + 3)
theorem Blk.rd {α : Type} {w : World} {f : α → Value} {g : Nat} {l m : List α} {T : TypeId} {n c : Nat} (h : Blk w g (V f (l ++ m)) T) (hn : n = l.length) : Rd w f (.slice (some ⟨g, 0, none⟩) n c) l := by
  subst hn
  rcases Nat.eq_zero_or_pos l.length with h0 | h0
  · have : l = [] := List.eq_nil_of_length_eq_zero h0
    subst this
    exact Or.inl ⟨_, _, rfl, rfl, fun h => by cases h⟩
  · refine Or.inr ⟨_, _, _, _, rfl, rfl, h0, fun i hi => ?_⟩
    rw [Nat.zero_add, h.cell, V_get, List.getElem?_append_left hi, List.getElem?_eq_getElem hi]
    rfl
theorem LentAt.rd {w : World} {g : Nat} {p : List (BitVec 8)} (h : LentAt w g p) : Rd w cb (lentV g p.length) p := Blk.rd h rfl
set_option maxRecDepth 100000 in
theorem lent_calls (sv : Value) (p : List (BitVec 8)) (w : World) (hp : Rd w cb sv p) (hm : p.length ≤ 140737488351232) :
    Calls Try.prog 28 #[sv] w fun e w' => e = .returned (lentV w.heap.size p.length) ∧ LentAt w' w.heap.size p ∧ Ext w w' ∧ w.heap.size < w'.heap.size := by
  have hm' : (p.length : Int) ≤ 140737488351232 := by omega
  obtain ⟨i5, j1, j2, j3, j4⟩ := info_parts Try.info5
  have hz : i5.zero = some (cb 0#8) := j2
  have hmk : ∀ w : World, (Instr.makeSlice 36 (.int .i64 0) (.int .i64 ((p.length : Int) + 3))).run Try.prog w = .ok (.slice (some ⟨w.heap.size, 0, none⟩) 0 (p.length + 3)) (w.alloc (.cells (V cb (List.replicate (p.length + 3) 0#8)) 5)) :=
    fun w => run_make_one (P := Try.prog) cb 0#8 36 5 i5 1 Try.u36 j1 hz j3 j4 rfl 0 (p.length + 3) (by omega) (by omega) (by omega) w
  have hp1 := hp
  obtain ⟨ad, c, rfl, hat⟩ := hp1.at
  clear hat hp1
  go_enter Try.func28, Try.ntmps28
  have HP := Lib.hid hp
  clear hp
  go_wp2_with (first
    | (refine wpList_append_room cb cb_one rfl (.tmp 8) (.tmp 9) 36 rfl 5 i5 Try.u36 j1 j3 w.heap.size 0 (p.length + 3) (List.replicate (p.length + 3) 0#8) (Blk.new _ _ _) rfl _ p rfl ((Ext.of_alloc _).rd HP.out) (by omega) (by simp) ?_
       intro w1 hb1 hg1
       rw [show List.take 0 (List.replicate (p.length + 3) 0#8) ++ p ++ List.drop (0 + p.length) (List.replicate (p.length + 3) 0#8) = p ++ List.replicate 3 0#8 by rw [List.take_zero, List.nil_append, List.drop_replicate]; congr 2; omega] at hb1
       have e1 : Ext w w1 := (Ext.of_alloc _).grown1 hg1 (Nat.le_refl _)
       clear hg1 HP hmk)
    | (refine wpList_append_room cb cb_one rfl (.tmp 11) (.tmp 12) 36 rfl 5 i5 Try.u36 j1 j3 w.heap.size p.length (p.length + 3) (p ++ List.replicate 3 0#8) (hb1.alloc _) rfl _ marks rfl (by rw [← V_marks]; exact Blk.rd (m := []) (by rw [List.append_nil]; exact Blk.new _ _ _) marks_len.symm) (by rw [marks_len]; omega) (by rw [marks_len]; simp) ?_
       intro w2 hb2 hg2
       rw [show List.take p.length (p ++ List.replicate 3 0#8) ++ marks ++ List.drop (p.length + marks.length) (p ++ List.replicate 3 0#8) = p ++ marks by rw [marks_len, List.take_left, List.drop_append, List.drop_eq_nil_of_le (by omega)]; simp] at hb2
       have e2 : Ext w w2 := (e1.alloc _).grown1 hg2 (Nat.le_refl _)
       rw [marks_len]
       have HB := Lib.hid hb2
       clear hg2 hb1 hb2)
    | (fail))
  go_ret
  exact ⟨rfl, HB.out, e2, HB.out.lt⟩
theorem kept_calls (g : Nat) (l : List (BitVec 8)) (sv : Value) (p : List (BitVec 8)) (w : World) (hl : LentAt w g l) (hp : Rd w cb sv p) (hml : l.length ≤ 140737488351232) (hmp : p.length ≤ 9223372036854775807) :
    Calls Try.prog 41 #[lentV g l.length, sv] w fun e w' => e = .returned (.bool (decide (l = p))) ∧ ∃ n, w.drewN n = w' := by
  have HS := same_calls (lentV g l.length) sv l p w hl.rd hp (by omega) hmp
  have hm' : (l.length : Int) ≤ 140737488351232 := by omega
  have c0 : ∀ n, (w.drewN n).cell? ⟨g, l.length, none⟩ = some (.int .u8 201) := fun n => by
    have h := hl.cell l.length
    rw [V_get, List.getElem?_append_right (Nat.le_refl _), Nat.sub_self] at h
    unfold marks at h; exact h
  have c1 : ∀ n, (w.drewN n).cell? ⟨g, l.length + 1, none⟩ = some (.int .u8 202) := fun n => by
    have h := hl.cell (l.length + 1)
    rw [V_get, List.getElem?_append_right (by omega), Nat.add_sub_cancel_left] at h
    unfold marks at h; exact h
  have c2 : ∀ n, (w.drewN n).cell? ⟨g, l.length + 2, none⟩ = some (.int .u8 203) := fun n => by
    have h := hl.cell (l.length + 2)
    rw [V_get, List.getElem?_append_right (by omega), Nat.add_sub_cancel_left] at h
    unfold marks at h; exact h
  have C0 := Lib.hid c0
  have C1 := Lib.hid c1
  have C2 := Lib.hid c2
  clear hl hp hml hmp c0 c1 c2
  obtain ⟨r, hr⟩ : ∃ r, decide (l = p) = r := ⟨_, rfl⟩
  rw [hr] at HS ⊢
  clear hr
  unfold lentV at *
  go_enter Try.func41, Try.ntmps41
  cases r with
  | true =>
    go_wp2_with (first | (go_at_call 34; refine HS.mono ?_; rintro e w' ⟨rfl, n, rfl⟩; have a0 := C0.out n; have a1 := C1.out n; have a2 := C2.out n) | fail)
    go_ret
    exact ⟨rfl, _, rfl⟩
  | false =>
    go_wp2_with (first | (go_at_call 34; refine HS.mono ?_; rintro e w' ⟨rfl, n, rfl⟩; have a0 := C0.out n; have a1 := C1.out n; have a2 := C2.out n) | fail)
    go_ret
    exact ⟨rfl, _, rfl⟩

theorem full_calls (x : BitVec 8) (w : World) : Calls Try.prog 43 #[cb x] w fun e w' => e = .returned (.slice (some ⟨w.heap.size, 0, none⟩) 64 64) ∧ Blk w' w.heap.size (V cb (List.replicate 64 x)) 5 ∧ Ext w w' := by
  obtain ⟨i5, j1, j2, j3, j4⟩ := info_parts Try.info5
  have hmk : ∀ w : World, (Instr.makeSlice 36 (.int .i64 64) (.int .i64 64)).run Try.prog w = .ok (.slice (some ⟨w.heap.size, 0, none⟩) 64 64) (w.alloc (.cells (V cb (List.replicate 64 0#8)) 5)) :=
    fun w => run_make_one (P := Try.prog) cb 0#8 36 5 i5 1 Try.u36 j1 j2 j3 j4 rfl 64 64 (by omega) (by omega) (by omega) w
  go_enter Try.func43, Try.ntmps43
  go_wp2_with fail
  have HB := Lib.hid (Blk.new w (V cb (List.replicate 64 0#8)) 5)
  have HE := Lib.hid (Ext.of_alloc (w := w) (.cells (V cb (List.replicate 64 0#8)) 5))
  go_loopw [4] (fun iv wx => ∃ k : Nat, k ≤ 64 ∧ iv = ci k ∧ Hid (Ext w wx ∧ Blk wx w.heap.size (V cb (List.replicate k x ++ List.replicate (64 - k) 0#8)) 5)) (fun iv _ => ((64 : Int) - intOf iv).toNat)
  case atStart => exact ⟨0, by omega, rfl, HE.out, HB.out⟩
  case round =>
    clear HB HE hmk
    obtain ⟨k, hk, rfl, hU⟩ := hrel
    by_cases hlt : k < 64
    · have hlt' : (k : Int) < 64 := by omega
      have hc : wr.cell? ⟨w.heap.size, k, none⟩ = some (cb 0#8) := by
        rw [hU.out.2.cell, V_get, List.getElem?_append_right (by simp), List.length_replicate, Nat.sub_self, List.getElem?_replicate, if_pos (by omega)]
        rfl
      have hf := hU.out.2.free k
      go_wp2_with fail
      go_roundw
      case measure => simp only [intOf]; omega
      refine ⟨k + 1, by omega, by simp, Lib.hid ⟨hU.out.1.set (Nat.le_refl _) _, ?_⟩⟩
      have h := hU.out.2.set k (cb x)
      rw [V_set, List.set_append_right _ _ (by simp), List.length_replicate, Nat.sub_self] at h
      have e : List.replicate k x ++ (List.replicate (64 - k) 0#8).set 0 x = List.replicate (k + 1) x ++ List.replicate (64 - (k + 1)) 0#8 := by
        obtain ⟨m, hm⟩ : ∃ m, 64 - k = m + 1 := ⟨64 - k - 1, by omega⟩
        rw [hm, show 64 - (k + 1) = m by omega, List.replicate_succ, List.set_cons_zero, List.replicate_succ' (n := k), List.append_assoc]
        rfl
      rw [← e]
      exact h
    · obtain rfl : k = 64 := by omega
      go_wp2_with fail
      go_ret
      exact ⟨rfl, by simpa using hU.out.2, hU.out.1⟩
end Go.Proofs.Ytjcbmlpfpcpakaa
