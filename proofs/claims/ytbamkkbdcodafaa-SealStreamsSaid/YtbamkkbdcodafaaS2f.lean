/- The walks of layer 2 (seal): bytes lent with marks behind them, and whether they are kept. -/
import Derived.Test.YtbamkkbdcodafaaS2e
import Derived.Test.YtbamkkbdcodafaaRoom
namespace Go.Proofs.Ytbamkkbdcodafaa
open Go.RowKit
set_option linter.unusedVariables false

def marks : List (BitVec 8) := [201#8, 202#8, 203#8]
theorem marks_len : marks.length = 3 := rfl
theorem V_marks : V cb marks = #[.int .u8 201, .int .u8 202, .int .u8 203] := by unfold V; rfl
attribute [irreducible] marks
/-- bytes in a block of their own, three marks behind them -/
def LentAt (w : World) (g : Nat) (p : List (BitVec 8)) : Prop := Blk w g (V cb (p ++ marks)) 5
def lentV (g n : Nat) : Value := .slice (some ⟨g, 0, none⟩) n (n + 3)
theorem Blk.rd {α : Type} {w : World} {f : α → Value} {g : Nat} {l m : List α} {T : TypeId} {n c : Nat} (h : Blk w g (V f (l ++ m)) T) (hn : n = l.length) : Rd w f (.slice (some ⟨g, 0, none⟩) n c) l := by
  subst hn
  rcases Nat.eq_zero_or_pos l.length with h0 | h0
  · have : l = [] := List.eq_nil_of_length_eq_zero h0
    subst this
    exact Or.inl ⟨_, _, rfl, rfl, fun h => by cases h⟩
  · refine Or.inr ⟨_, _, _, _, rfl, rfl, h0, fun i hi => ?_⟩
    rw [Nat.zero_add, h.cell, V_get, List.getElem?_append_left hi, List.getElem?_eq_getElem hi]
    rfl
theorem LentAt.rd {w : World} {g : Nat} {p : List (BitVec 8)} (h : LentAt w g p) : Rd w cb (lentV g p.length) p := Blk.rd h rfl
theorem lent_calls (sv : Value) (p : List (BitVec 8)) (w : World) (hp : Rd w cb sv p) (hm : p.length ≤ 140737488351232) :
    Calls Try.prog 12 #[sv] w fun e w' => e = .returned (lentV w.heap.size p.length) ∧ LentAt w' w.heap.size p ∧ Ext w w' ∧ w.heap.size < w'.heap.size := by
  have hm' : (p.length : Int) ≤ 140737488351232 := by omega
  obtain ⟨i5, j1, j2, j3, j4⟩ := info_parts Try.info5
  have hz : i5.zero = some (cb 0#8) := j2
  have hmk : ∀ w : World, (Instr.makeSlice 23 (.int .i64 0) (.int .i64 ((p.length : Int) + 3))).run Try.prog w = .ok (.slice (some ⟨w.heap.size, 0, none⟩) 0 (p.length + 3)) (w.alloc (.cells (V cb (List.replicate (p.length + 3) 0#8)) 5)) :=
    fun w => run_make_one (P := Try.prog) cb 0#8 23 5 i5 1 Try.u23 j1 hz j3 j4 rfl 0 (p.length + 3) (by omega) (by omega) (by omega) w
  have hp1 := hp
  obtain ⟨ad, c, rfl, hat⟩ := hp1.at
  clear hat hp1
  go_enter Try.func12, Try.ntmps12
  have HP := Lib.hid hp
  clear hp
  go_wp2_with (first
    | (refine wpList_append_room cb cb_one rfl (.tmp 8) (.tmp 9) 23 rfl 5 i5 Try.u23 j1 j3 w.heap.size 0 (p.length + 3) (List.replicate (p.length + 3) 0#8) (Blk.new _ _ _) rfl _ p rfl ((Ext.of_alloc _).rd HP.out) (by omega) (by simp) ?_
       intro w1 hb1 hg1
       rw [show List.take 0 (List.replicate (p.length + 3) 0#8) ++ p ++ List.drop (0 + p.length) (List.replicate (p.length + 3) 0#8) = p ++ List.replicate 3 0#8 by rw [List.take_zero, List.nil_append, List.drop_replicate]; congr 2; omega] at hb1
       have e1 : Ext w w1 := (Ext.of_alloc _).grown1 hg1 (Nat.le_refl _)
       clear hg1 HP hmk)
    | (refine wpList_append_room cb cb_one rfl (.tmp 11) (.tmp 12) 23 rfl 5 i5 Try.u23 j1 j3 w.heap.size p.length (p.length + 3) (p ++ List.replicate 3 0#8) (hb1.alloc _) rfl _ marks rfl (by rw [← V_marks]; exact Blk.rd (m := []) (by rw [List.append_nil]; exact Blk.new _ _ _) marks_len.symm) (by rw [marks_len]; omega) (by rw [marks_len]; simp) ?_
       intro w2 hb2 hg2
       rw [show List.take p.length (p ++ List.replicate 3 0#8) ++ marks ++ List.drop (p.length + marks.length) (p ++ List.replicate 3 0#8) = p ++ marks by rw [marks_len, List.take_left, List.drop_append, List.drop_eq_nil_of_le (by omega)]; simp] at hb2
       have e2 : Ext w w2 := (e1.alloc _).grown1 hg2 (Nat.le_refl _)
       rw [marks_len]
       have HB := Lib.hid hb2
       clear hg2 hb1 hb2)
    | (fail))
  go_ret
  exact ⟨rfl, HB.out, e2, HB.out.lt⟩
theorem kept_calls (g : Nat) (l : List (BitVec 8)) (sv : Value) (p : List (BitVec 8)) (w : World) (hl : LentAt w g l) (hp : Rd w cb sv p) (hml : l.length ≤ 140737488351232) (hmp : p.length ≤ 9223372036854775807) :
    Calls Try.prog 16 #[lentV g l.length, sv] w fun e w' => e = .returned (.bool (decide (l = p))) ∧ ∃ n, w.drewN n = w' := by
  have HS := same_calls (lentV g l.length) sv l p w hl.rd hp (by omega) hmp
  have hm' : (l.length : Int) ≤ 140737488351232 := by omega
  have c0 : ∀ n, (w.drewN n).cell? ⟨g, l.length, none⟩ = some (.int .u8 201) := fun n => by
    have h := hl.cell l.length
    rw [V_get, List.getElem?_append_right (Nat.le_refl _), Nat.sub_self] at h
    unfold marks at h; exact h
  have c1 : ∀ n, (w.drewN n).cell? ⟨g, l.length + 1, none⟩ = some (.int .u8 202) := fun n => by
    have h := hl.cell (l.length + 1)
    rw [V_get, List.getElem?_append_right (by omega), Nat.add_sub_cancel_left] at h
    unfold marks at h; exact h
  have c2 : ∀ n, (w.drewN n).cell? ⟨g, l.length + 2, none⟩ = some (.int .u8 203) := fun n => by
    have h := hl.cell (l.length + 2)
    rw [V_get, List.getElem?_append_right (by omega), Nat.add_sub_cancel_left] at h
    unfold marks at h; exact h
  have C0 := Lib.hid c0
  have C1 := Lib.hid c1
  have C2 := Lib.hid c2
  clear hl hp hml hmp c0 c1 c2
  obtain ⟨r, hr⟩ : ∃ r, decide (l = p) = r := ⟨_, rfl⟩
  rw [hr] at HS ⊢
  clear hr
  unfold lentV at *
  go_enter Try.func16, Try.ntmps16
  cases r with
  | true =>
    go_wp2_with (first | (go_at_call 15; refine HS.mono ?_; rintro e w' ⟨rfl, n, rfl⟩; have a0 := C0.out n; have a1 := C1.out n; have a2 := C2.out n) | fail)
    go_ret
    exact ⟨rfl, _, rfl⟩
  | false =>
    go_wp2_with (first | (go_at_call 15; refine HS.mono ?_; rintro e w' ⟨rfl, n, rfl⟩; have a0 := C0.out n; have a1 := C1.out n; have a2 := C2.out n) | fail)
    go_ret
    exact ⟨rfl, _, rfl⟩
end Go.Proofs.Ytbamkkbdcodafaa
