/- How a slice of slices of bytes that came in is told. -/
import Derived.Test.YtbamkkbdcodafaaOpn
import Derived.Test.YtbamkkbdcodafaaS2n
import Derived.Deep.Slices
namespace Go.Proofs.Ytbamkkbdcodafaa
open Go.RowKit Go.ChangeShapes Go.WideShapes Go.ChangeAt
set_option linter.unusedVariables false

theorem spot_none {w : World} {x : Addr} {v : Value} (h : w.cell? x = some v) : x.spot = none := by
  cases hs : x.spot with
  | none => rfl
  | some s =>
    unfold World.cell? at h
    split at h
    · simp [hs] at h
    · cases h
theorem words_of_trod {n : Nat} {k : IntKind} (hk : ∀ {a : Int}, (Lit.int k a).wf = true → ∃ x : BitVec n, a = Bv x) {H : Type} {enc : TypeId × Value → H} {P : Program} {W : World} {base : Nat} {spare : Nat → Bool} {held : Bool} {t e : TypeId} {d : DataW H} {ps : List MemPlace} {fuel : Nat} {cs : List Value}
    (hw : ∀ m ∈ d.weights P t, m ≤ reachBytes) (hu : P.underlying t = some (.slice e)) (he : P.underlying e = some (.int k)) (hc : P.cellsOf e = 1) {B : Nat} (hB : P.bytesOf e = B)
    (h : DataW.trod enc P W base spare held fuel t cs = some (d, ps)) : ∃ a len cap, cs = [.slice a len cap] ∧ ∃ l : List (BitVec n), Rd W (fun x => .int k (Bv x)) (.slice a len cap) l ∧ l.length * B ≤ 140737488351232 := by
  rcases open_ints hu he hc h with ⟨hcs, _⟩ | ⟨x, len, c, zs, hcs, _, hl, _, hz, hx, hcell, hwz⟩
  · exact ⟨none, 0, 0, hcs, [], Or.inl ⟨_, _, rfl, rfl, fun _ => rfl⟩, by simp⟩
  · refine ⟨_, _, _, hcs, ?_⟩
    obtain ⟨hx, _⟩ := Prod.mk.inj hx
    subst hx
    have z := hw ((((lits (H := H) k (zs.take len)).length + (lits (H := H) k (zs.drop len)).length)) * P.bytesOf e) (by simp [DataW.weights, hu])
    rw [hB] at z
    have hl2 : len ≤ zs.length := by
      rw [hz]
      split
      · exact hl
      · exact Nat.le_refl _
    have h1 : (lits (H := H) k (zs.take len)).length + (lits (H := H) k (zs.drop len)).length = zs.length := by
      simp [lits]
      omega
    rw [h1] at z
    obtain ⟨ws, rfl⟩ := words_of hk zs hwz
    rw [List.length_map] at hl2 z hcell
    refine ⟨ws.take len, ?_, ?_⟩
    · rcases Nat.eq_zero_or_pos len with h0 | h0
      · subst h0
        exact Or.inl ⟨_, _, rfl, by simp, fun h => by cases h⟩
      · have hsp : x.spot = none := by
          have h2 := hcell 0 (by omega)
          have h3 : x.add 0 = x := by simp [Addr.add]
          rw [h3] at h2
          exact spot_none h2
        obtain ⟨b, o, s⟩ := x
        simp only at hsp
        subst hsp
        refine Or.inr ⟨b, o, _, len, rfl, by rw [List.length_take]; omega, h0, fun i hi => ?_⟩
        rw [List.length_take] at hi
        have h2 := hcell i (by omega)
        rw [Addr.add_mid] at h2
        rw [h2, List.getElem_take]
        simp [List.getD, show i < ws.length by omega]
    · rw [List.length_take, Nat.min_eq_left hl2]
      exact Nat.le_trans (Nat.mul_le_mul_right _ hl2) z
theorem weights_all {H : Type} {P : Program} {e : TypeId} {d : DataW H} {l : List (DataW H)} (h : d ∈ l) : ∀ m ∈ d.weights P e, m ∈ DataW.weightsAll P e l := by
  induction l with
  | nil => cases h
  | cons x r ih =>
    intro m hm
    simp only [DataW.weightsAll, List.mem_append]
    cases List.mem_cons.1 h with
    | inl e => subst e; exact Or.inl hm
    | inr e => exact Or.inr (ih e m hm)
theorem arg_parts {H : Type} {enc : TypeId × Value → H} {P : Program} {W : World} {base : Nat} {spare : Nat → Bool} {held : Bool} {t e e2 : TypeId} {a : Option Addr} {len cap : Nat} {d : DataW H} {ps : List MemPlace} {ts : List TypeId} {ds : List (DataW H)} {j : Nat}
    (hsz : (DataW.weightsEach P ts ds).all (· ≤ reachBytes) = true) (ht : ts[j]? = some t) (hd : ds[j]? = some d) (hu : P.underlying t = some (.slice e)) (hu2 : P.underlying e = some (.slice e2)) (he2 : P.underlying e2 = some (.int .u8)) (hc : P.cellsOf e = 1) (hc2 : P.cellsOf e2 = 1) (hB : P.bytesOf e = 24) (hB2 : P.bytesOf e2 = 1)
    (h : DataW.Trod enc P W base spare held t (.slice a len cap) d ps) : ∃ Q : Nat → List (BitVec 8), Rds W (.slice a len cap) ((List.range len).map Q) ∧ len * 24 ≤ 140737488351232 ∧ ∀ j, j < len → (Q j).length ≤ 140737488351232 := by
  obtain ⟨fuel, hf⟩ := h
  have hw : ∀ m ∈ d.weights P t, m ≤ reachBytes := fun m hm => by
    have := List.all_eq_true.1 hsz _ (DataW.weights_mem_each ht hd m hm)
    simpa using this
  rcases Deep.open_slice1 hu hc hf with ⟨hcs, _⟩ | ⟨a', len', cap', m, n, V, D, Pl, hcs, _, hl, _, hm, hx, hcell⟩
  · simp [Value.cells] at hcs
    obtain ⟨rfl, rfl, rfl⟩ := hcs
    exact ⟨fun _ => [], ⟨[], Or.inl ⟨none, 0, rfl, rfl, fun _ => rfl⟩, by simp, fun i hi => absurd hi (by simp)⟩, by omega, fun j hj => absurd hj (by omega)⟩
  · simp [Value.cells] at hcs
    obtain ⟨rfl, rfl, rfl⟩ := hcs
    obtain ⟨rfl, _⟩ := Prod.mk.inj hx
    have hlm : len ≤ m := by
      rw [hm]
      split
      · exact hl
      · exact Nat.le_refl _
    have each : ∀ j, ∃ q : List (BitVec 8), j < len → Rd W cb (V j) q ∧ q.length ≤ 140737488351232 := by
      intro j
      by_cases hj : j < len
      · obtain ⟨h1, h2⟩ := hcell j (by omega)
        obtain ⟨a1, l1, c1, hv, q, hq, hql⟩ := words_of_trod (fun h => Bv_of8 h) (fun m hm => hw m (by
          simp only [DataW.weights, hu, List.mem_cons, List.mem_append]
          exact Or.inr (Or.inl (weights_all (List.mem_map.2 ⟨j, List.mem_range.2 hj, rfl⟩) m hm)))) hu2 he2 hc2 hB2 h2
        simp at hv
        exact ⟨q, fun _ => ⟨by rw [hv]; exact hq, by omega⟩⟩
      · exact ⟨[], fun h => absurd h hj⟩
    obtain ⟨Q, hQ⟩ := Classical.axiomOfChoice each
    refine ⟨Q, ⟨(List.range len).map V, ?_, by simp, fun i hi hj => ?_⟩, ?_, fun j hj => (hQ j hj).2⟩
    · rcases Nat.eq_zero_or_pos len with h0 | h0
      · subst h0
        exact Or.inl ⟨_, _, rfl, rfl, fun h => by cases h⟩
      · have hsp : a'.spot = none := by
          have h2 := (hcell 0 (by omega)).1
          rw [show a'.add 0 = a' by simp [Addr.add]] at h2
          exact spot_none h2
        obtain ⟨b, o, s⟩ := a'
        simp only at hsp
        subst hsp
        refine Or.inr ⟨b, o, _, len, rfl, by simp, h0, fun i hi => ?_⟩
        have hi' : i < len := by simpa using hi
        have h2 := (hcell i (by omega)).1
        rw [Addr.add_mid] at h2
        rw [h2]; simp
    · have hi' : i < len := by simpa using hi
      have := hQ i hi'
      simpa using ⟨this.1, Nat.le_trans this.2 (by omega)⟩
    · have z := hw ((((List.range len).map D).length + ((List.range (m - len)).map fun j => D (len + j)).length) * P.bytesOf e) (by simp [DataW.weights, hu])
      rw [hB] at z
      simp at z
      have : reachBytes = 140737488351232 := rfl
      omega
end Go.Proofs.Ytbamkkbdcodafaa
