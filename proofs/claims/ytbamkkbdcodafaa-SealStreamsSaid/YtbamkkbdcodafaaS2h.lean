/- The walks of layer 2 (seal): the sums that the document names. -/
import Derived.Test.YtbamkkbdcodafaaS2g
import Derived.Lib.SmallJoins
namespace Go.Proofs.Ytbamkkbdcodafaa
open Go.RowKit
set_option linter.unusedVariables false

def digits : List (BitVec 8) := [49#8, 50#8, 51#8, 52#8, 53#8, 54#8, 55#8, 56#8, 57#8]
theorem V_digits : V cb digits = #[.int .u8 49, .int .u8 50, .int .u8 51, .int .u8 52, .int .u8 53, .int .u8 54, .int .u8 55, .int .u8 56, .int .u8 57] := by unfold V; rfl
theorem V_a : V cb [97#8] = #[.int .u8 97] := by unfold V; rfl
theorem V_bc : V cb [98#8, 99#8] = #[.int .u8 98, .int .u8 99] := by unfold V; rfl
theorem crc_digits : ((~~~ tkn 0xFFFFFFFF#32 digits) == 3808858755#32) = true := by kernel_rfl
theorem crc_nil : ((~~~ tkn 0xFFFFFFFF#32 []) == 0#32) = true := by kernel_rfl
theorem fnv_abc : (fnvs off0 [[97#8], [98#8, 99#8]] == 16654208175385433931#64) = true := by kernel_rfl
theorem fnv_none : (fnvs off0 [] == 14695981039346656037#64) = true := by kernel_rfl
theorem Rd.nil {α : Type} {w : World} {f : α → Value} : Rd w f (.slice none 0 0) [] := Or.inl ⟨none, 0, rfl, rfl, fun _ => rfl⟩
theorem Rds.nil {w : World} : Rds w (.slice none 0 0) [] := ⟨[], Rd.nil, rfl, fun i hi => absurd hi (by simp)⟩
/-- the list that a block holds, all of it -/
theorem Blk.whole {α : Type} {w : World} {f : α → Value} {g : Nat} {l : List α} {T : TypeId} {n c : Nat} (h : Blk w g (V f l) T) (hn : n = l.length) : Rd w f (.slice (some ⟨g, 0, none⟩) n c) l :=
  Blk.rd (m := []) (by rw [List.append_nil]; exact h) hn
theorem Rds.two {w : World} {sv tv : Value} {p q : List (BitVec 8)} (h : Rd w cb sv p) (hm : p.length ≤ 9223372036854775807) (k : Rd w cb tv q) (km : q.length ≤ 9223372036854775807) : Rds (w.alloc (.cells #[sv, tv] 23)) (.slice (some ⟨w.heap.size, 0, none⟩) 2 2) [p, q] := by
  refine ⟨[sv, tv], Or.inr ⟨_, 0, _, _, rfl, rfl, by simp, fun i hi => ?_⟩, rfl, fun i hi hj => ?_⟩
  · rw [World.cell?_alloc_new]
    match i, hi with
    | 0, _ => rfl
    | 1, _ => rfl
  · match i, hi, hj with
    | 0, _, _ => exact ⟨h.alloc, hm⟩
    | 1, _, _ => exact ⟨k.alloc, km⟩
theorem Rd.mark {α : Type} {w : World} {f : α → Value} {l : List α} {T : TypeId} {b n c : Nat} {fr : Nat × Nat} (hb : b = w.heap.size) (hn : n = l.length) : Rd (w.alloc (.cells (V f l) T fr)) f (.slice (some ⟨b, 0, none⟩) n c) l := by
  subst hb
  subst hn
  rcases Nat.eq_zero_or_pos l.length with h | h
  · have : l = [] := List.eq_nil_of_length_eq_zero h
    subst this
    exact Or.inl ⟨_, _, rfl, rfl, fun h => by cases h⟩
  · refine Or.inr ⟨_, _, _, _, rfl, rfl, h, fun i hi => ?_⟩
    have hb : (w.alloc (.cells (V f l) T fr)).heap[w.heap.size]? = some (.cells (V f l) T fr) := by unfold World.alloc; simp
    rw [Nat.zero_add]
    simp only [World.cell?, hb]
    simp [V_get, hi]
attribute [irreducible] digits
theorem known_calls (w : World) : Calls Try.prog 17 #[] w fun e w' => e = .returned (.bool true) ∧ Ext w w' := by
  have hdl : digits.length = 9 := by unfold digits; rfl
  have k1 := crc_digits
  have k2 := crc_nil
  have k3 := fnv_abc
  have k4 := fnv_none
  have kc := fun (w : World) (C : Array Value) (n c : Nat) => Lib.run_convert_bytes_const (P := Try.prog) w 23 5 C n c Try.u23 Try.underlying5
  have kd := fun (w : World) (A : Obj) (C : Array Value) (n c : Nat) => (by have h := Lib.run_convert_bytes_const (P := Try.prog) (w.alloc A) 23 5 C n c Try.u23 Try.underlying5; simpa only [World.size_alloc] using h : (convert 23 23 (.slice (some ⟨w.heap.size + 1, 0, none⟩) n c)).run Try.prog ((w.alloc A).alloc (.cells C 5)) = .ok (.slice (some ⟨w.heap.size + 1, 0, none⟩) n c) ((w.alloc A).alloc (.cells C 5 (C.size, C.size + 1))))
  have HD : Rd (w.alloc (.cells #[.int .u8 49, .int .u8 50, .int .u8 51, .int .u8 52, .int .u8 53, .int .u8 54, .int .u8 55, .int .u8 56, .int .u8 57] 5 (9, 10))) cb (.slice (some ⟨w.heap.size, 0, none⟩) 9 9) digits := by
    rw [← V_digits]; exact Rd.mark rfl hdl.symm
  have e0 := Lib.hid (Ext.of_alloc (w := w) (.cells #[.int .u8 49, .int .u8 50, .int .u8 51, .int .u8 52, .int .u8 53, .int .u8 54, .int .u8 55, .int .u8 56, .int .u8 57] 5 (9, 10)))
  have H1 := Lib.hid (crc_calls _ _ _ HD (by rw [hdl]; omega))
  clear HD hdl
  generalize tkn 0xFFFFFFFF#32 digits = T at *
  generalize hN : tkn 0xFFFFFFFF#32 [] = N at *
  generalize hF : fnvs off0 [[97#8], [98#8, 99#8]] = F at *
  generalize hG : fnvs off0 [] = G at *
  have HN := Lib.hid hN
  have HF := Lib.hid hF
  have HG := Lib.hid hG
  clear hN hF hG
  go_enter Try.func17, Try.ntmps17
  go_wp2_with (first
    | (go_at_call 19; refine H1.out.mono ?_; clear H1; rintro e w1 ⟨rfl, e1⟩
       have H2 := Lib.hid (crc_calls (.slice none 0 0) [] w1 Rd.nil (by simp))
       rw [HN.out] at H2)
    | (go_at_call 19; refine H2.out.mono ?_; rintro e w2 ⟨rfl, e2⟩
       have H3 : Rd (w2.alloc (.cells #[.int .u8 97] 5 (1, 2))) cb (.slice (some ⟨w2.heap.size, 0, none⟩) 1 1) [97#8] := by rw [← V_a]; exact Rd.mark rfl rfl
       have H4 : Rd ((w2.alloc (.cells #[.int .u8 97] 5 (1, 2))).alloc (.cells #[.int .u8 98, .int .u8 99] 5 (2, 3))) cb (.slice (some ⟨w2.heap.size + 1, 0, none⟩) 2 2) [98#8, 99#8] := by rw [← V_bc]; exact Rd.mark (by simp) rfl
       have H5 := Lib.hid (fnv_calls _ _ _ (Rds.two (H3.alloc (ob := .cells #[.int .u8 98, .int .u8 99] 5 (2, 3))) (by simp) H4 (by simp)) (by simp))
       rw [HF.out] at H5
       simp only [World.size_alloc] at H5
       have H6 := Lib.hid (fnv_calls (.slice none 0 0) [] (((w2.alloc (.cells #[.int .u8 97] 5 (1, 2))).alloc (.cells #[.int .u8 98, .int .u8 99] 5 (2, 3))).alloc (.cells #[.slice (some ⟨w2.heap.size, 0, none⟩) 1 1, .slice (some ⟨w2.heap.size + 1, 0, none⟩) 2 2] 23)) Rds.nil (by simp))
       rw [HG.out] at H6
       clear H3 H4)
    | (go_at_call 14; refine H5.out.mono ?_; clear H5; rintro e w3 ⟨rfl, rfl⟩)
    | (go_at_call 14; refine H6.out.mono ?_; rintro e w3 ⟨rfl, rfl⟩)
    | fail)
  go_ret
  exact ⟨rfl, ((e0.out.trans e1).trans e2).trans (Ext.of_alloc3 _ _ _)⟩
end Go.Proofs.Ytbamkkbdcodafaa
