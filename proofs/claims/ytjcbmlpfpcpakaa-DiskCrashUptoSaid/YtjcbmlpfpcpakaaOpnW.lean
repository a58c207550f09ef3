/- How a slice of slices of bytes that came in is told. -/
import Derived.Test.YtjcbmlpfpcpakaaOpnD
import Derived.Deep.Slices
import Derived.SizedLaws
import Derived.ChangeSlices
namespace Go.Proofs.Ytjcbmlpfpcpakaa
open Go.RowKit Go.ChangeShapes Go.WideShapes Go.ChangeAt
set_option linter.unusedVariables false
/-- a slice of n slices that read as these bytes -/
def RdQ (w : World) (v : Value) (n : Nat) (Q : Nat → List (BitVec 8)) : Prop :=
  ∃ a c, v = .slice a n c ∧ ∀ i, i < n → ∃ b o u, a = some ⟨b, o, none⟩ ∧ w.cell? ⟨b, o + i, none⟩ = some u ∧ Rd w cb u (Q i) ∧ (Q i).length ≤ 140737488351232
theorem RdQ.ext {w w' : World} {v : Value} {n : Nat} {Q : Nat → List (BitVec 8)} (h : RdQ w v n Q) (e : Ext w w') : RdQ w' v n Q := by
  obtain ⟨a, c, h1, h2⟩ := h
  refine ⟨a, c, h1, fun i hi => ?_⟩
  obtain ⟨b, o, u, k1, k2, k3, k4⟩ := h2 i hi
  exact ⟨b, o, u, k1, e.cell k2, e.rd k3, k4⟩
theorem weights_all {H : Type} {P : Program} {e : TypeId} {d : DataW H} {l : List (DataW H)} (h : d ∈ l) : ∀ m ∈ d.weights P e, m ∈ DataW.weightsAll P e l := by
  induction l with
  | nil => cases h
  | cons x r ih =>
    intro m hm
    simp only [DataW.weightsAll, List.mem_append]
    cases List.mem_cons.1 h with
    | inl e => subst e; exact Or.inl hm
    | inr e => exact Or.inr (ih e m hm)
theorem arg_lists {H : Type} {enc : TypeId × Value → H} {P : Program} {W : World} {base : Nat} {spare : Nat → Bool} {held : Bool} {t e e2 : TypeId} {a : Option Addr} {len cap : Nat} {d : DataW H} {ps : List MemPlace} {ts : List TypeId} {ds : List (DataW H)} {j : Nat}
    (hsz : (DataW.weightsEach P ts ds).all (· ≤ reachBytes) = true) (ht : ts[j]? = some t) (hd : ds[j]? = some d) (hu : P.underlying t = some (.slice e)) (hu2 : P.underlying e = some (.slice e2)) (he2 : P.underlying e2 = some (.int .u8)) (hc : P.cellsOf e = 1) (hc2 : P.cellsOf e2 = 1) (hB : P.bytesOf e = 24) (hB2 : P.bytesOf e2 = 1)
    (h : DataW.Trod enc P W base spare held t (.slice a len cap) d ps) : ∃ Q : Nat → List (BitVec 8), RdQ W (.slice a len cap) len Q ∧ len * 24 ≤ 140737488351232 := by
  obtain ⟨fuel, hf⟩ := h
  have hw : ∀ m ∈ d.weights P t, m ≤ reachBytes := fun m hm => by
    have := List.all_eq_true.1 hsz _ (DataW.weights_mem_each ht hd m hm)
    simpa using this
  rcases Deep.open_slice1 hu hc hf with ⟨hcs, _⟩ | ⟨a', len', cap', m, n, V, D, Pl, hcs, _, hl, _, hm, hx, hcell⟩
  · simp [Value.cells] at hcs
    obtain ⟨rfl, rfl, rfl⟩ := hcs
    exact ⟨fun _ => [], ⟨none, 0, rfl, fun i hi => absurd hi (by omega)⟩, by omega⟩
  · simp [Value.cells] at hcs
    obtain ⟨rfl, rfl, rfl⟩ := hcs
    obtain ⟨rfl, _⟩ := Prod.mk.inj hx
    have hlm : len ≤ m := by
      rw [hm]
      split
      · exact hl
      · exact Nat.le_refl _
    have each : ∀ j, ∃ q : List (BitVec 8), j < len → Rd W cb (V j) q ∧ q.length ≤ 140737488351232 := by
      intro j
      by_cases hj : j < len
      · obtain ⟨h1, h2⟩ := hcell j (by omega)
        obtain ⟨a1, l1, c1, hv, q, hq, hql⟩ := words_of_trod (fun h => Bv_of8 h) (fun m hm => hw m (by
          simp only [DataW.weights, hu, List.mem_cons, List.mem_append]
          exact Or.inr (Or.inl (weights_all (List.mem_map.2 ⟨j, List.mem_range.2 hj, rfl⟩) m hm)))) hu2 he2 hc2 hB2 h2
        simp at hv
        exact ⟨q, fun _ => ⟨by rw [hv]; exact hq, by omega⟩⟩
      · exact ⟨[], fun h => absurd h hj⟩
    obtain ⟨Q, hQ⟩ := Classical.axiomOfChoice each
    refine ⟨Q, ⟨some a', cap, rfl, fun i hi => ?_⟩, ?_⟩
    · have hsp : a'.spot = none := by
        have h2 := (hcell 0 (by omega)).1
        rw [show a'.add 0 = a' by simp [Addr.add]] at h2
        exact spot_none' h2
      obtain ⟨b, o, s⟩ := a'
      simp only at hsp
      subst hsp
      have h2 := (hcell i (by omega)).1
      rw [Addr.add_mid] at h2
      exact ⟨b, o, V i, rfl, h2, (hQ i hi).1, (hQ i hi).2⟩
    · have z := hw ((((List.range len).map D).length + ((List.range (m - len)).map fun j => D (len + j)).length) * P.bytesOf e) (by simp [DataW.weights, hu])
      rw [hB] at z
      simp at z
      have : reachBytes = 140737488351232 := rfl
      omega
theorem arg_ints {H : Type} {enc : TypeId × Value → H} {P : Program} {W : World} {base : Nat} {spare : Nat → Bool} {held : Bool} {t e : TypeId} {a : Option Addr} {len cap : Nat} {d : DataW H} {ps : List MemPlace} {ts : List TypeId} {ds : List (DataW H)} {j : Nat}
    (hsz : (DataW.weightsEach P ts ds).all (· ≤ reachBytes) = true) (ht : ts[j]? = some t) (hd : ds[j]? = some d) (hu : P.underlying t = some (.slice e)) (he : P.underlying e = some (.int .i64)) (hc : P.cellsOf e = 1) (hB : P.bytesOf e = 8)
    (h : DataW.Trod enc P W base spare held t (.slice a len cap) d ps) : ∃ l : List Int, Rd W ci (.slice a len cap) l ∧ l.length * 8 ≤ 140737488351232 ∧ ∀ x ∈ l, -9223372036854775808 ≤ x ∧ x ≤ 9223372036854775807 := by
  obtain ⟨fuel, hf⟩ := h
  rcases open_ints hu he hc hf with ⟨hcs, _⟩ | ⟨x, l, c, zs, hcs, _, hl, _, hz, hx, hcell, hwz⟩
  · simp [Value.cells] at hcs
    obtain ⟨rfl, rfl, rfl⟩ := hcs
    exact ⟨[], Or.inl ⟨_, _, rfl, rfl, fun _ => rfl⟩, by simp, fun x hx => by cases hx⟩
  · simp [Value.cells] at hcs
    obtain ⟨rfl, rfl, rfl⟩ := hcs
    obtain ⟨hx, _⟩ := Prod.mk.inj hx
    subst hx
    have z := sized_slice hsz ht hd hu
    rw [hB] at z
    have hl2 : len ≤ zs.length := by
      rw [hz]
      split
      · exact hl
      · exact Nat.le_refl _
    have h1 : (lits (H := H) .i64 (zs.take len)).length + (lits (H := H) .i64 (zs.drop len)).length = zs.length := by
      simp [lits]
      omega
    rw [h1] at z
    refine ⟨zs.take len, ?_, ?_, fun x hx => i64_of (hwz x (List.mem_of_mem_take hx))⟩
    · rcases Nat.eq_zero_or_pos len with h0 | h0
      · subst h0
        exact Or.inl ⟨_, _, rfl, by simp, fun h => by cases h⟩
      · have hsp : x.spot = none := by
          have h2 := hcell 0 (by omega)
          rw [show x.add 0 = x by simp [Addr.add]] at h2
          exact spot_none' h2
        obtain ⟨b, o, s⟩ := x
        simp only at hsp
        subst hsp
        refine Or.inr ⟨b, o, cap, len, rfl, by rw [List.length_take]; omega, h0, fun i hi => ?_⟩
        rw [List.length_take] at hi
        have h2 := hcell i (by omega)
        rw [Addr.add_mid] at h2
        rw [h2, List.getElem_take]
        simp [List.getD, show i < zs.length by omega]
    · rw [List.length_take, Nat.min_eq_left hl2]
      have : reachBytes = 140737488351232 := rfl
      omega
end Go.Proofs.Ytjcbmlpfpcpakaa
