/- Layer 8 (disk): what only asks; the fuse. -/
import Derived.Test.YtjcbmlpfpcpakaaD8a
import Derived.Deep.QuietTactic
import Derived.BigQuiet
namespace Go.Proofs.Ytjcbmlpfpcpakaa
open Go.RowKit
set_option linter.unusedVariables false

theorem num_calls (n : Int) (w : World) : Calls Try.prog 25 #[ci n] w fun e w' => e = .returned (ci n) ∧ w = w' := by
  go_enter Try.func25, Try.ntmps25
  go_wp2_with fail
  go_ret
  exact ⟨rfl, rfl⟩
def powP (d : Dk) : Int := if d.fused = true ∧ d.left = 0 then 80 else 0
section
variable {w : World} {B g sb : Nat} {rv : Value} {d : Dk}
theorem sectors_calls (h : DB w B g sb rv d) : Calls Try.prog 38 #[.pointer (some ⟨g, 0, none⟩)] w fun e w' => e = .returned (ci d.n) ∧ w = w' := by
  have c0 := h.cell0
  clear h
  go_enter Try.func38, Try.ntmps38
  go_wp2_with fail
  go_ret
  exact ⟨rfl, rfl⟩
theorem power_calls (h : DB w B g sb rv d) : Calls Try.prog 83 #[.pointer (some ⟨g, 0, none⟩)] w fun e w' => e = .returned (ci (powP d)) ∧ w = w' := by
  have c2 := h.cell2
  have c3 := h.cell3
  unfold powP
  cases hf : d.fused with
  | false =>
    rw [if_neg (by simp)]
    rw [hf] at c2
    clear h hf
    go_enter Try.func83, Try.ntmps83
    go_wp2_with fail
    go_ret
    exact ⟨rfl, rfl⟩
  | true =>
    rw [hf] at c2
    by_cases h0 : d.left = 0
    · rw [if_pos ⟨rfl, h0⟩]
      rw [h0] at c3
      clear h hf h0
      go_enter Try.func83, Try.ntmps83
      go_wp2_with fail
      go_ret
      exact ⟨rfl, rfl⟩
    · rw [if_neg (fun c => h0 c.2)]
      generalize d.left = l at *
      have hb : (l == 0) = false := by simpa using h0
      have hd : decide (l = 0) = false := decide_eq_false h0
      clear h hf
      go_enter Try.func83, Try.ntmps83
      go_wp2_with fail
      go_ret
      exact ⟨rfl, rfl⟩
theorem pending_calls (h : DB w B g sb rv d) : Calls Try.prog 30 #[.pointer (some ⟨g, 0, none⟩)] w fun e w' => e = .returned (ci d.R.length) ∧ w = w' := by
  have c1 := h.cell1
  obtain ⟨a, c, rfl, _⟩ := h.row
  clear h
  go_enter Try.func30, Try.ntmps30
  go_wp2_with fail
  go_ret
  exact ⟨rfl, rfl⟩
theorem counts_calls (h : DB w B g sb rv d) : Calls Try.prog 44 #[.pointer (some ⟨g, 0, none⟩)] w fun e w' => e = .returned (.tuple #[ci d.c0, ci d.c1]) ∧ ∃ n, w.drewN n = w' := by
  have c4 := h.cell4
  have c5 := h.cell5
  clear h
  go_enter Try.func44, Try.ntmps44
  go_wp2_with fail
  go_quiet (fail)
  go_wp2_with fail
  go_ret2
  exact ⟨rfl, _, rfl⟩
theorem dc_set (d : Dk) (sb : Nat) (rv : Value) (f : Bool) (l : Int) : ((dc d sb rv).setIfInBounds 2 (.bool f)).setIfInBounds 3 (ci l) = dc ⟨d.n, d.S, d.R, f, l, d.c0, d.c1⟩ sb rv := rfl
def fuseD (d : Dk) (n : Int) : Dk := ⟨d.n, d.S, d.R, decide (0 ≤ n), n, d.c0, d.c1⟩
theorem DB.fuse (h : DB w B g sb rv d) (n : Int) : DB ((w.setCell ⟨g, 2, none⟩ (.bool (decide (0 ≤ n)))).setCell ⟨g, 3, none⟩ (ci n)) B g sb rv (fuseD d n) := by
  have h2 := ((h.b.set 2 (.bool (decide (0 ≤ n)))).set 3 (ci n))
  rw [dc_set] at h2
  have hne := h.ne
  refine ⟨h2, (h.s.far _ (Ne.symm hne) _).far _ (Ne.symm hne) _, ?_, ⟨h.ok.n1, h.ok.n2, h.ok.s, h.ok.r⟩⟩
  obtain ⟨h1, h2 | ⟨x, cap, cur, h2, h3, h4, h5⟩⟩ := h.r
  · exact ⟨h1, Or.inl h2⟩
  · refine ⟨h1, Or.inr ⟨x, cap, cur, h2, h3, ?_, h5⟩⟩
    have hx : x ≠ g := by
      rintro rfl
      exact absurd (Blk.type (show Blk w x cur 134 from h4) h.b) (by decide)
    exact ((show Blk w x cur 134 from h4).far ⟨g, 2, none⟩ hx _).far ⟨g, 3, none⟩ hx _
theorem only_set (w : World) (p : Nat → Prop) (a : Addr) (v : Value) (ha : p a.block) : Only w (w.setCell a v) p := by
  refine ⟨rfl, rfl, rfl, by simp [World.setCell], fun k hk hp => ?_⟩
  simp only [World.setCell]
  rw [Array.getElem?_modify, if_neg (fun e => hp (by rw [← e]; exact ha))]
theorem fuse_calls (h : DB w B g sb rv d) (n : Int) : Calls Try.prog 26 #[.pointer (some ⟨g, 0, none⟩), ci n] w fun e w' => e = .returned (.tuple #[]) ∧ DB w' B g sb rv (fuseD d n) ∧ Only w w' (· = g) := by
  have c2 := h.cell2
  have c3 := h.cell3
  have f2 := h.b.free 2
  have f3 := h.b.free 3
  have HF := Lib.hid (h.fuse n)
  clear h
  by_cases h0 : 0 ≤ n
  · rw [decide_eq_true h0] at HF
    go_enter Try.func26, Try.ntmps26
    go_wp2_with fail
    go_end0
    exact ⟨rfl, HF.out, (only_set _ (· = g) _ _ rfl).trans (only_set _ (· = g) _ _ rfl)⟩
  · rw [decide_eq_false h0] at HF
    go_enter Try.func26, Try.ntmps26
    go_wp2_with fail
    go_end0
    exact ⟨rfl, HF.out, (only_set _ (· = g) _ _ rfl).trans (only_set _ (· = g) _ _ rfl)⟩
end
/- a nil disk -/
theorem sectors_nil (w : World) : Calls Try.prog 38 #[.pointer none] w fun e w' => e = .returned (ci 0) ∧ w = w' := by
  go_enter Try.func38, Try.ntmps38
  go_wp2_with fail
  go_ret
  exact ⟨rfl, rfl⟩
theorem power_nil (w : World) : Calls Try.prog 83 #[.pointer none] w fun e w' => e = .returned (ci 1) ∧ w = w' := by
  go_enter Try.func83, Try.ntmps83
  go_wp2_with fail
  go_ret
  exact ⟨rfl, rfl⟩
theorem pending_nil (w : World) : Calls Try.prog 30 #[.pointer none] w fun e w' => e = .returned (ci 0) ∧ w = w' := by
  go_enter Try.func30, Try.ntmps30
  go_wp2_with fail
  go_ret
  exact ⟨rfl, rfl⟩
theorem counts_nil (w : World) : Calls Try.prog 44 #[.pointer none] w fun e w' => e = .returned (.tuple #[ci 0, ci 0]) ∧ w = w' := by
  go_enter Try.func44, Try.ntmps44
  go_wp2_with fail
  go_ret2
  exact ⟨rfl, rfl⟩
theorem fuse_nil (n : Int) (w : World) : Calls Try.prog 26 #[.pointer none, ci n] w fun e w' => e = .returned (.tuple #[]) ∧ w = w' := by
  go_enter Try.func26, Try.ntmps26
  go_wp2_with fail
  go_end0
  exact ⟨rfl, rfl⟩
theorem crash_nil (kv : Value) (t c : Int) (w : World) : Calls Try.prog 32 #[.pointer none, kv, ci t, ci c] w fun e w' => e = .returned (.tuple #[]) ∧ w = w' := by
  go_enter Try.func32, Try.ntmps32
  go_wp2_with fail
  exact bodyPost_ret (v := .tuple #[]) (by simp [results, Try.results32, go_sem]) rfl ⟨rfl, rfl⟩
theorem image_nil (w : World) : Calls Try.prog 31 #[.pointer none] w fun e w' => e = .returned (.slice none 0 0) ∧ w = w' := by
  go_enter Try.func31, Try.ntmps31
  go_wp2_with fail
  go_ret
  exact ⟨rfl, rfl⟩
theorem sync_nil (w : World) : Calls Try.prog 29 #[.pointer none] w fun e w' => e = .returned (ci 1) ∧ w = w' := by
  have H := Lib.hid (power_nil w)
  go_enter Try.func29, Try.ntmps29
  go_wp2_with (first | (go_at_call 83; refine H.out.mono ?_; rintro e w1 ⟨rfl, rfl⟩) | fail)
  go_ret
  exact ⟨rfl, rfl⟩
theorem read_nil (n : Int) (w : World) : Calls Try.prog 33 #[.pointer none, ci n] w fun e w' => e = .returned (.tuple #[.slice none 0 0, ci 1]) ∧ w = w' := by
  have H := Lib.hid (power_nil w)
  go_enter Try.func33, Try.ntmps33
  go_wp2_with (first | (go_at_call 83; refine H.out.mono ?_; rintro e w1 ⟨rfl, rfl⟩) | fail)
  go_ret2
  exact ⟨rfl, rfl⟩
theorem write_nil (n : Int) (dv : Value) (w : World) : Calls Try.prog 27 #[.pointer none, ci n, dv] w fun e w' => e = .returned (ci 1) ∧ w = w' := by
  have H := Lib.hid (power_nil w)
  go_enter Try.func27, Try.ntmps27
  go_wp2_with (first | (go_at_call 83; refine H.out.mono ?_; rintro e w1 ⟨rfl, rfl⟩) | fail)
  go_ret
  exact ⟨rfl, rfl⟩
end Go.Proofs.Ytjcbmlpfpcpakaa
