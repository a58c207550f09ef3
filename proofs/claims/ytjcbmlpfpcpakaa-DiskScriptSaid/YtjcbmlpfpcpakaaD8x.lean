/- Layer 8 (disk), the document's disk: what only asks; the fuse. -/
import Derived.Test.YtjcbmlpfpcpakaaD8w
namespace Go.Proofs.Ytjcbmlpfpcpakaa
open Go.RowKit
set_option linter.unusedVariables false
/-- the cells of the document's disk -/
def rc (sv pv : Value) (left made synced : Int) : Array Value := #[sv, pv, ci left, ci made, ci synced]
section
variable {w : World} {g : Nat} {left made synced : Int} {sa pa : Option Addr} {sl sc pl pc : Nat}
theorem ref_pending (h : Blk w g (rc (.slice sa sl sc) (.slice pa pl pc) left made synced) 137) : Calls Try.prog 88 #[.pointer (some ⟨g, 0, none⟩)] w fun e w' => e = .returned (ci pl) ∧ w = w' := by
  have c1 : w.cell? ⟨g, 1, none⟩ = some (.slice pa pl pc) := h.cell 1
  clear h
  go_enter Try.func88, Try.ntmps88
  go_wp2_with fail
  go_ret
  exact ⟨rfl, rfl⟩
theorem ref_counts (h : Blk w g (rc (.slice sa sl sc) (.slice pa pl pc) left made synced) 137) : Calls Try.prog 93 #[.pointer (some ⟨g, 0, none⟩)] w fun e w' => e = .returned (.tuple #[ci made, ci synced]) ∧ ∃ n, w.drewN n = w' := by
  have c3 : w.cell? ⟨g, 3, none⟩ = some (ci made) := h.cell 3
  have c4 : w.cell? ⟨g, 4, none⟩ = some (ci synced) := h.cell 4
  have d3 : w.drew.cell? ⟨g, 3, none⟩ = some (ci made) := h.cell 3
  have d4 : w.drew.cell? ⟨g, 4, none⟩ = some (ci synced) := h.cell 4
  clear h
  go_enter Try.func93, Try.ntmps93
  go_wp2_with fail
  try go_region
  try go_wp2_with fail
  go_ret2
  exact ⟨rfl, 1, rfl⟩
theorem ref_sectors (h : Blk w g (rc (.slice sa sl sc) (.slice pa pl pc) left made synced) 137) (n : Nat) (hn : sl = 64 * n) (h2 : n ≤ 65536) : Calls Try.prog 92 #[.pointer (some ⟨g, 0, none⟩)] w fun e w' => e = .returned (ci n) ∧ w = w' := by
  subst hn
  have c0 : w.cell? ⟨g, 0, none⟩ = some (.slice sa (64 * n) sc) := h.cell 0
  have hq : ((64 * n : Nat) : Int) / 64 = (n : Int) := by omega
  have hq2 : (64 * (n : Int)) / 64 = (n : Int) := by omega
  have hnn : (n : Int) ≤ 65536 := by omega
  clear h
  go_enter Try.func92, Try.ntmps92
  go_wp2_with fail
  go_ret
  exact ⟨rfl, rfl⟩
theorem ref_fuse (h : Blk w g (rc (.slice sa sl sc) (.slice pa pl pc) left made synced) 137) (m : Int) : Calls Try.prog 89 #[.pointer (some ⟨g, 0, none⟩), ci m] w fun e w' => e = .returned (.tuple #[]) ∧ Blk w' g (rc (.slice sa sl sc) (.slice pa pl pc) (if m < 0 then -1 else m) made synced) 137 ∧ Only w w' (· = g) := by
  have c2 : w.cell? ⟨g, 2, none⟩ = some (ci left) := h.cell 2
  have f2 := h.free 2
  have HB := Lib.hid h
  clear h
  by_cases hm : m < 0
  · have hd : decide (m < 0) = true := decide_eq_true hm
    rw [if_pos hm]
    go_enter Try.func89, Try.ntmps89
    go_wp2_with fail
    go_end0
    exact ⟨rfl, HB.out.set 2 _, only_set _ _ _ _ rfl⟩
  · have hd : decide (m < 0) = false := decide_eq_false hm
    rw [if_neg hm]
    go_enter Try.func89, Try.ntmps89
    go_wp2_with fail
    go_end0
    exact ⟨rfl, HB.out.set 2 _, only_set _ _ _ _ rfl⟩
end
end Go.Proofs.Ytjcbmlpfpcpakaa
