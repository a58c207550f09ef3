/- Layer 8 (disk), the document's answer: bytes copied. -/
import Derived.Test.YtjcbmlpfpcpakaaD8v
namespace Go.Proofs.Ytjcbmlpfpcpakaa
open Go.RowKit
set_option linter.unusedVariables false
theorem copied_calls (sv : Value) (p : List (BitVec 8)) (w : World) (hp : Rd w cb sv p) (hm : p.length ≤ 140737488351232) :
    Calls Try.prog 84 #[sv] w fun e w' => ∃ v, e = .returned v ∧ Own w' w.heap.size 5 cb v p ∧ Ext w w' := by
  obtain ⟨i5, j1, j2, j3, j4⟩ := info_parts Try.info5
  have HP := Lib.hid hp
  have HA := Lib.hid (show (([] : List (BitVec 8)).length + p.length) * 1 ≤ 140737488355328 by simp; omega)
  have HB := Lib.hid (show ([] : List (BitVec 8)).length + p.length ≤ 9223372036854775807 by simp; omega)
  clear hp hm
  go_enter Try.func84, Try.ntmps84
  go_wp2_with (first
    | (at_builtin; refine wpList_append_rd cb (fun _ => rfl) rfl (.tmp 4) (.tmp 5) 36 rfl w.heap.size 5 i5 0#8 1 Try.u36 j1 j2 j3 j4 rfl (.slice none 0 0) [] rfl Own.nil _ p rfl HP.out HA.out HB.out (Nat.le_refl _) ?_
       intro v1 w1 ho1 hg1
       have e1 : Ext w w1 := (Ext.refl w).grown hg1 (fun k hk => by cases hk)
       clear hg1)
    | fail)
  go_ret
  exact ⟨_, rfl, ho1, e1⟩
end Go.Proofs.Ytjcbmlpfpcpakaa
