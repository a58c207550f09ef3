/- Layer 8 (disk): bytes written over. -/
import Derived.Test.YtjcbmlpfpcpakaaD8o
namespace Go.Proofs.Ytjcbmlpfpcpakaa
open Go.RowKit
set_option linter.unusedVariables false
def flip (x : BitVec 8) : BitVec 8 := 255#8 - x
def overK (k : Nat) (l : List (BitVec 8)) : List (BitVec 8) := (l.take k).map flip ++ l.drop k
theorem overK_len (k : Nat) (l : List (BitVec 8)) (hk : k ≤ l.length) : (overK k l).length = l.length := by unfold overK; simp; omega
theorem overK_get (k : Nat) (l : List (BitVec 8)) (hk : k < l.length) : (overK k l)[k]? = some l[k] := by
  unfold overK
  rw [List.getElem?_append_right (by simp; omega), List.length_map, List.length_take, Nat.min_eq_left (Nat.le_of_lt hk), Nat.sub_self, List.getElem?_drop, Nat.add_zero, List.getElem?_eq_getElem hk]
theorem overK_step (k : Nat) (l : List (BitVec 8)) (hk : k < l.length) : (overK k l).set k (flip l[k]) = overK (k + 1) l := by
  unfold overK
  rw [List.set_append_right _ _ (by simp; omega), List.length_map, List.length_take, Nat.min_eq_left (Nat.le_of_lt hk), Nat.sub_self, List.drop_eq_getElem_cons hk, List.set_cons_zero, List.take_succ_eq_append_getElem hk, List.map_append]
  simp
theorem over_calls (g n c : Nat) (l m : List (BitVec 8)) (t : TypeId) (w : World) (hb : Blk w g (V cb (l ++ m)) t) (hn : n = l.length) (hl : l.length ≤ 9223372036854775807) :
    Calls Try.prog 37 #[.slice (some ⟨g, 0, none⟩) n c] w fun e w' => e = .returned (.tuple #[]) ∧ Blk w' g (V cb (l.map flip ++ m)) t ∧ w.grownBy w' (some g) := by
  subst hn
  have hl' : (l.length : Int) ≤ 9223372036854775807 := by omega
  have HB := Lib.hid hb
  clear hb hl
  go_enter Try.func37, Try.ntmps37
  go_wp2_with fail
  go_loopw [2] (fun iv wx => ∃ k : Nat, k ≤ l.length ∧ iv = ci k ∧ Hid (w.grownBy wx (some g) ∧ Blk wx g (V cb (overK k l ++ m)) t)) (fun iv _ => ((l.length : Int) - intOf iv).toNat)
  case atStart => exact ⟨0, Nat.zero_le _, rfl, ⟨rfl, rfl, rfl, Nat.le_refl _, fun _ _ _ => rfl⟩, by unfold overK; rw [List.take_zero, List.drop_zero]; exact HB.out⟩
  case round =>
    clear HB
    obtain ⟨k, hk, rfl, hU⟩ := hrel
    by_cases hlt : k < l.length
    · have hlt' : (k : Int) < l.length := by omega
      have hc : wr.cell? ⟨g, k, none⟩ = some (cb l[k]) := by
        rw [hU.out.2.cell, V_get, List.getElem?_append_left (by rw [overK_len k l hk]; exact hlt), overK_get k l hlt]
        rfl
      have hf := hU.out.2.free k
      have HS : Hid (Blk (wr.setCell ⟨g, k, none⟩ (cb (flip l[k]))) g (V cb (overK (k + 1) l ++ m)) t) := by
        have h := hU.out.2.set k (cb (flip l[k]))
        rw [V_set, List.set_append_left _ _ (by rw [overK_len k l hk]; exact hlt), overK_step k l hlt] at h
        exact h
      unfold flip at HS
      generalize l[k] = x at *
      go_wp2_with fail
      exact ⟨⟨k + 1, hlt, by simp, Lib.hid ⟨grown_trans hU.out.1 (grown_set _ _ _ _), HS.out⟩⟩, by simp only [intOf]; omega⟩
    · have hek : k = l.length := by omega
      subst hek
      go_wp2_with fail
      go_end0
      have h := hU.out.2
      unfold overK at h
      rw [List.take_length, List.drop_length, List.append_nil] at h
      exact ⟨rfl, h, hU.out.1⟩
end Go.Proofs.Ytjcbmlpfpcpakaa
