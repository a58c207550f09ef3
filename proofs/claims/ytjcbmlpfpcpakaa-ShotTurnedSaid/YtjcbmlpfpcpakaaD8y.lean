/- Layer 8 (disk): what a crash can make of a sector (no walk). -/
import Derived.Test.YtjcbmlpfpcpakaaD8o
namespace Go.Proofs.Ytjcbmlpfpcpakaa
open Go.RowKit
set_option linter.unusedVariables false
theorem sec_putS {S l : List (BitVec 8)} {n i j : Nat} (h : S.length = 64 * n) (hi : i < n) (hj : j < n) (hl : l.length = 64) : sec (putS S i l) j = if i = j then l else sec S j := by
  have ht : (S.take (64 * i)).length = 64 * i := by rw [List.length_take]; omega
  apply List.ext_getElem?
  intro q
  by_cases hq : q < 64
  · rw [sec_get (putS_len h hi hl) hj hq]
    unfold putS
    split
    · next e =>
      subst e
      rw [List.append_assoc, List.getElem?_append_right (by omega), ht, List.getElem?_append_left (by omega)]
      congr 1
      omega
    · next e =>
      rw [sec_get h hj hq]
      rcases Nat.lt_or_gt_of_ne e with e | e
      · rw [List.getElem?_append_right (by rw [List.length_append, ht]; omega), List.length_append, ht, List.getElem?_drop]
        congr 1
        omega
      · rw [List.append_assoc, List.getElem?_append_left (by omega), List.getElem?_take, if_pos (by omega)]
  · rw [List.getElem?_eq_none (by rw [sec_len (putS_len h hi hl) hj]; omega), List.getElem?_eq_none]
    split
    · omega
    · rw [sec_len h hj]; omega
/-- what a sector was, and what was laid there -/
def mayL (was : List (BitVec 8)) (s : Nat) (R : List (Nat × List (BitVec 8))) : List (List (BitVec 8)) := was :: (R.filter (fun p => decide (p.1 = s))).map (·.2)
theorem mayL_mem {was : List (BitVec 8)} {s : Nat} {R : List (Nat × List (BitVec 8))} {p : Nat × List (BitVec 8)} (h : p ∈ R) (hs : p.1 = s) : p.2 ∈ mayL was s R := by
  unfold mayL
  refine List.mem_cons_of_mem _ (List.mem_map.2 ⟨p, ?_, rfl⟩)
  rw [List.mem_filter]
  exact ⟨h, by simpa using hs⟩
theorem crash_may {n : Nat} {S : List (BitVec 8)} {R : List (Nat × List (BitVec 8))} {keep : List Bool} {torn : Int} {c s : Nat} (hS : S.length = 64 * n) (hR : ∀ p ∈ R, p.1 < n ∧ p.2.length = 64) (hc : c ≤ 64) (hs : s < n) :
    ∀ k, k ≤ R.length → ((k : Int) ≤ torn → sec (crashS keep torn c S (R.take k)) s ∈ mayL (sec S s) s R) ∧
      ∃ m1 ∈ mayL (sec S s) s R, ∃ m2 ∈ mayL (sec S s) s R, ∃ q, q ≤ 64 ∧ sec (crashS keep torn c S (R.take k)) s = m1.take q ++ m2.drop q ∧ (torn < 0 → sec (crashS keep torn c S (R.take k)) s ∈ mayL (sec S s) s R) := by
  have hself : sec S s ∈ mayL (sec S s) s R := List.mem_cons_self
  have whole : ∀ m : List (BitVec 8), m ∈ mayL (sec S s) s R → ∃ m1 ∈ mayL (sec S s) s R, ∃ m2 ∈ mayL (sec S s) s R, ∃ q, q ≤ 64 ∧ m = m1.take q ++ m2.drop q ∧ (torn < 0 → m ∈ mayL (sec S s) s R) :=
    fun m hm => ⟨m, hm, m, hm, 0, by omega, by rw [List.take_zero, List.drop_zero, List.nil_append], fun _ => hm⟩
  intro k
  induction k with
  | zero =>
    intro _
    have e : crashS keep torn c S (R.take 0) = S := by rw [List.take_zero]; rfl
    rw [e]
    exact ⟨fun _ => hself, whole _ hself⟩
  | succ k ih =>
    intro hk
    obtain ⟨h1, h2⟩ := ih (by omega)
    have hX := crashS_len (keep := keep) (torn := torn) hc (R.take k) (fun p hp => hR p (List.mem_of_mem_take hp)) S hS
    rw [crashS_step keep torn c S R k (by omega)]
    obtain ⟨p, hp⟩ : ∃ p, R.getD k (0, []) = p := ⟨_, rfl⟩
    have hpm : p ∈ R := by
      rw [← hp, List.getD_eq_getElem?_getD, List.getElem?_eq_getElem (by omega)]
      exact List.getElem_mem _
    obtain ⟨hp1, hp2⟩ := hR p hpm
    rw [hp]
    generalize crashS keep torn c S (R.take k) = X at *
    unfold crashStep
    by_cases ht : (k : Int) = torn
    · rw [if_pos ht]
      refine ⟨fun h => by omega, ?_⟩
      rw [sec_putS hX hp1 hs (tornP_len hX hp1 hp2 hc)]
      split
      · next e =>
        refine ⟨p.2, mayL_mem hpm e, sec X s, h1 (by omega), c, hc, ?_, fun h => by omega⟩
        unfold tornP
        rw [e]
      · exact whole _ (h1 (by omega))
    · rw [if_neg ht]
      by_cases hv : keep.getD k false = true
      · rw [if_pos hv, sec_putS hX hp1 hs hp2]
        split
        · next e => exact ⟨fun _ => mayL_mem hpm e, whole _ (mayL_mem hpm e)⟩
        · exact ⟨fun h => h1 (by omega), h2⟩
      · rw [if_neg hv]
        exact ⟨fun h => h1 (by omega), h2⟩
theorem crash_goes {d : Dk} (h : d.ok) (keep : List Bool) (torn cut : Int) (s : Nat) (hs : s < d.n) : ∃ m1 ∈ mayL (sec d.S s) s d.R, ∃ m2 ∈ mayL (sec d.S s) s d.R, ∃ q, q ≤ 64 ∧ sec (crashD d keep torn cut).S s = m1.take q ++ m2.drop q := by
  obtain ⟨_, m1, h1, m2, h2, q, hq, he, _⟩ := crash_may (keep := keep) (torn := torn) (c := cutN cut) h.s h.r (cutN_le cut) hs d.R.length (Nat.le_refl _)
  rw [List.take_length] at he
  exact ⟨m1, h1, m2, h2, q, hq, he⟩
theorem mayL_len {was : List (BitVec 8)} {s n : Nat} {R : List (Nat × List (BitVec 8))} (hw : was.length = 64) (hR : ∀ p ∈ R, p.1 < n ∧ p.2.length = 64) : ∀ m ∈ mayL was s R, m.length = 64 := fun m hm => by
  unfold mayL at hm
  rcases List.mem_cons.1 hm with rfl | hm
  · exact hw
  · obtain ⟨p, hp, rfl⟩ := List.mem_map.1 hm
    exact (hR p (List.mem_filter.1 hp).1).2
end Go.Proofs.Ytjcbmlpfpcpakaa
