/- Layer 12 (shot): what Save and Open defer. -/
import Derived.Test.YtjcbmlpfpcpakaaH6
import Derived.Test.YtjcbmlpfpcpakaaG2
namespace Go.Proofs.Ytjcbmlpfpcpakaa
open Go.RowKit
set_option linter.unusedVariables false
set_option linter.unusedSimpArgs false
section
variable {w0 w : World} {g sb o fr size gen : Nat} {dead : Bool} {d : Dk}
set_option maxRecDepth 100000 in
set_option maxHeartbeats 4000000 in
theorem save_def_ret (ec sp : Nat) (w : World) (h1 : w.cell? ⟨ec, 0, none⟩ = some (ci 0)) (h1f : w.frozen? ⟨ec, 0, none⟩ = false) (h2 : w.cell? ⟨sp, 0, none⟩ = some (.pointer (some ⟨o, 0, none⟩))) (h3 : w.cell? ⟨o, 4, none⟩ = some (.bool dead)) (h3f : w.frozen? ⟨o, 4, none⟩ = false) (hne : ec ≠ o) (hne2 : ec ≠ sp) :
    CallsD Try.prog 97 #[.pointer (some ⟨ec, 0, none⟩), .pointer (some ⟨sp, 0, none⟩)] .returning w fun e u' w' => e = .returned (.tuple #[]) ∧ u' = .returning ∧ w' = ((w.setCell ⟨ec, 0, none⟩ (ci 0)).setCell ⟨o, 4, none⟩ (.bool false)).drew := by
  refine callsD_of_wpS Try.func97 rfl fun c₀ cs hu => ?_
  apply wpS_seq
  refine wpS_region_orders (by kernel_rfl) (ls := [[0, 1, 2, 3], [1, 0, 2, 3]]) (by kernel_rfl) ?_
  intro l hl
  simp only [List.mem_cons, List.not_mem_nil, or_false] at hl
  have hcc : c₀ = { c₀ with mode := .returning } := by cases c₀; simp_all
  rcases hl with rfl | rfl
  · simp [wpOpsS, go_sem, recoverD, hu, Try.ntmps97, h1, h1f]
    refine (caught_none 0 _).mono ?_
    rintro e w1 ⟨rfl, rfl⟩
    simp [wpOpsS, go_sem, h1, h1f, Exit.thenS]
    apply wpS_region
    simp [wpOpsS, go_sem, h1, h1f, h2, h3, h3f, Exit.thenS, hne, hne2, hne.symm, hne2.symm]
    exact ⟨rfl, .returning, by rw [← hcc], .tuple #[], by simp [results, Try.results97, go_sem], rfl, rfl, rfl⟩
  · simp [wpOpsS, go_sem, recoverD, hu, Try.ntmps97, h1, h1f]
    refine (caught_none 0 _).mono ?_
    rintro e w1 ⟨rfl, rfl⟩
    simp [wpOpsS, go_sem, h1, h1f, Exit.thenS]
    apply wpS_region
    simp [wpOpsS, go_sem, h1, h1f, h2, h3, h3f, Exit.thenS, hne, hne2, hne.symm, hne2.symm]
    exact ⟨rfl, .returning, by rw [← hcc], .tuple #[], by simp [results, Try.results97, go_sem], rfl, rfl, rfl⟩
set_option maxRecDepth 100000 in
set_option maxHeartbeats 4000000 in
theorem save_def_panic (ec sp : Nat) (w : World) (f : Int) (hf : f ≠ 0) (h1 : w.cell? ⟨ec, 0, none⟩ = some (ci 0)) (h1f : w.frozen? ⟨ec, 0, none⟩ = false) (h2 : w.cell? ⟨sp, 0, none⟩ = some (.pointer (some ⟨o, 0, none⟩))) (h3 : w.cell? ⟨o, 4, none⟩ = some (.bool dead)) (h3f : w.frozen? ⟨o, 4, none⟩ = false) (hne : ec ≠ o) (hne2 : ec ≠ sp) :
    CallsD Try.prog 97 #[.pointer (some ⟨ec, 0, none⟩), .pointer (some ⟨sp, 0, none⟩)] (.panicking [flt f]) w fun e u' w' => e = .returned (.tuple #[]) ∧ u' = .panicking [{ v := .iface 177 (ci f), recovered := true }] ∧ w' = ((w.setCell ⟨ec, 0, none⟩ (ci f)).setCell ⟨o, 4, none⟩ (.bool true)).drew := by
  refine callsD_of_wpS Try.func97 rfl fun c₀ cs hu => ?_
  apply wpS_seq
  refine wpS_region_orders (by kernel_rfl) (ls := [[0, 1, 2, 3], [1, 0, 2, 3]]) (by kernel_rfl) ?_
  intro l hl
  simp only [List.mem_cons, List.not_mem_nil, or_false] at hl
  have hfb : (f != 0) = true := by simpa using hf
  rcases hl with rfl | rfl
  · simp [wpOpsS, go_sem, recoverD, hu, Try.ntmps97, h1, h1f]
    refine (caught_some f 0 _).mono ?_
    rintro e w1 ⟨rfl, rfl⟩
    simp [wpOpsS, go_sem, h1, h1f, Exit.thenS]
    apply wpS_region
    simp [wpOpsS, go_sem, h1, h1f, h2, h3, h3f, Exit.thenS, hne, hne2, hne.symm, hne2.symm]
    exact ⟨rfl, .panicking [{ v := .iface 177 (ci f), recovered := true }], rfl, .tuple #[], by simp [results, Try.results97, go_sem], rfl, rfl, by rw [hfb]⟩
  · simp [wpOpsS, go_sem, recoverD, hu, Try.ntmps97, h1, h1f]
    refine (caught_some f 0 _).mono ?_
    rintro e w1 ⟨rfl, rfl⟩
    simp [wpOpsS, go_sem, h1, h1f, Exit.thenS]
    apply wpS_region
    simp [wpOpsS, go_sem, h1, h1f, h2, h3, h3f, Exit.thenS, hne, hne2, hne.symm, hne2.symm]
    exact ⟨rfl, .panicking [{ v := .iface 177 (ci f), recovered := true }], rfl, .tuple #[], by simp [results, Try.results97, go_sem], rfl, rfl, by rw [hfb]⟩
end
end Go.Proofs.Ytjcbmlpfpcpakaa
namespace Go.Proofs.Ytjcbmlpfpcpakaa
open Go.RowKit
set_option linter.unusedVariables false
set_option linter.unusedSimpArgs false
set_option maxRecDepth 100000 in
set_option maxHeartbeats 4000000 in
theorem open_def_ret (ec oc nc : Nat) (w : World) (h1 : w.cell? ⟨ec, 0, none⟩ = some (ci 0)) (h1f : w.frozen? ⟨ec, 0, none⟩ = false) :
    CallsD Try.prog 94 #[.pointer (some ⟨ec, 0, none⟩), .pointer (some ⟨oc, 0, none⟩), .pointer (some ⟨nc, 0, none⟩)] .returning w fun e u' w' => e = .returned (.tuple #[]) ∧ u' = .returning ∧ w' = (w.setCell ⟨ec, 0, none⟩ (ci 0)).drew := by
  refine callsD_of_wpS Try.func94 rfl fun c₀ cs hu => ?_
  apply wpS_seq
  refine wpS_region_orders (by kernel_rfl) (ls := [[0, 1, 2, 3], [1, 0, 2, 3]]) (by kernel_rfl) ?_
  intro l hl
  simp only [List.mem_cons, List.not_mem_nil, or_false] at hl
  have hcc : c₀ = { c₀ with mode := .returning } := by cases c₀; simp_all
  rcases hl with rfl | rfl
  · simp [wpOpsS, go_sem, recoverD, hu, Try.ntmps94, h1, h1f]
    refine (caught_none 0 _).mono ?_
    rintro e w1 ⟨rfl, rfl⟩
    simp [wpOpsS, go_sem, h1, h1f, Exit.thenS]
    apply wpS_seq
    apply wpS_region
    simp [wpOpsS, go_sem, h1, h1f, Exit.thenS]
    refine wpS_cond (t := false) (by simp [Act.eval, Array.replicate]) ?_
    simp only [Bool.false_eq_true, if_false]
    refine wpS_of_wp (wp_skip ?_)
    exact ⟨rfl, .returning, by rw [← hcc], .tuple #[], by simp [results, Try.results94, go_sem], rfl, rfl, rfl⟩
  · simp [wpOpsS, go_sem, recoverD, hu, Try.ntmps94, h1, h1f]
    refine (caught_none 0 _).mono ?_
    rintro e w1 ⟨rfl, rfl⟩
    simp [wpOpsS, go_sem, h1, h1f, Exit.thenS]
    apply wpS_seq
    apply wpS_region
    simp [wpOpsS, go_sem, h1, h1f, Exit.thenS]
    refine wpS_cond (t := false) (by simp [Act.eval, Array.replicate]) ?_
    simp only [Bool.false_eq_true, if_false]
    refine wpS_of_wp (wp_skip ?_)
    exact ⟨rfl, .returning, by rw [← hcc], .tuple #[], by simp [results, Try.results94, go_sem], rfl, rfl, rfl⟩
set_option maxRecDepth 100000 in
set_option maxHeartbeats 4000000 in
theorem open_def_panic (ec oc nc : Nat) (w : World) (f : Int) (hf : f ≠ 0) (ov nv : Value) (h1 : w.cell? ⟨ec, 0, none⟩ = some (ci 0)) (h1f : w.frozen? ⟨ec, 0, none⟩ = false) (h2 : w.cell? ⟨oc, 0, none⟩ = some ov) (h2f : w.frozen? ⟨oc, 0, none⟩ = false)
    (h3 : w.cell? ⟨nc, 0, none⟩ = some nv) (h3f : w.frozen? ⟨nc, 0, none⟩ = false) (hne : ec ≠ oc) (hne2 : ec ≠ nc) (hne3 : oc ≠ nc) :
    CallsD Try.prog 94 #[.pointer (some ⟨ec, 0, none⟩), .pointer (some ⟨oc, 0, none⟩), .pointer (some ⟨nc, 0, none⟩)] (.panicking [flt f]) w fun e u' w' => e = .returned (.tuple #[]) ∧ u' = .panicking [{ v := .iface 177 (ci f), recovered := true }] ∧ w' = (((w.setCell ⟨ec, 0, none⟩ (ci f)).setCell ⟨oc, 0, none⟩ (.pointer none)).setCell ⟨nc, 0, none⟩ (.slice none 0 0)).drew := by
  refine callsD_of_wpS Try.func94 rfl fun c₀ cs hu => ?_
  apply wpS_seq
  refine wpS_region_orders (by kernel_rfl) (ls := [[0, 1, 2, 3], [1, 0, 2, 3]]) (by kernel_rfl) ?_
  intro l hl
  simp only [List.mem_cons, List.not_mem_nil, or_false] at hl
  have hfb : (f != 0) = true := by simpa using hf
  rcases hl with rfl | rfl
  · simp [wpOpsS, go_sem, recoverD, hu, Try.ntmps94, h1, h1f]
    refine (caught_some f 0 _).mono ?_
    rintro e w1 ⟨rfl, rfl⟩
    simp [wpOpsS, go_sem, h1, h1f, Exit.thenS]
    apply wpS_seq
    apply wpS_region
    simp [wpOpsS, go_sem, h1, h1f, Exit.thenS]
    refine wpS_cond (t := true) (by simp [Act.eval, Array.replicate, hfb]) ?_
    simp only [if_true]
    apply wpS_region
    simp [wpOpsS, go_sem, h2, h2f, h3, h3f, hne, hne.symm, hne2, hne2.symm, hne3, hne3.symm]
    exact ⟨rfl, .panicking [{ v := .iface 177 (ci f), recovered := true }], rfl, .tuple #[], by simp [results, Try.results94, go_sem], rfl, rfl, rfl⟩
  · simp [wpOpsS, go_sem, recoverD, hu, Try.ntmps94, h1, h1f]
    refine (caught_some f 0 _).mono ?_
    rintro e w1 ⟨rfl, rfl⟩
    simp [wpOpsS, go_sem, h1, h1f, Exit.thenS]
    apply wpS_seq
    apply wpS_region
    simp [wpOpsS, go_sem, h1, h1f, Exit.thenS]
    refine wpS_cond (t := true) (by simp [Act.eval, Array.replicate, hfb]) ?_
    simp only [if_true]
    apply wpS_region
    simp [wpOpsS, go_sem, h2, h2f, h3, h3f, hne, hne.symm, hne2, hne2.symm, hne3, hne3.symm]
    exact ⟨rfl, .panicking [{ v := .iface 177 (ci f), recovered := true }], rfl, .tuple #[], by simp [results, Try.results94, go_sem], rfl, rfl, rfl⟩
end Go.Proofs.Ytjcbmlpfpcpakaa
