/- How slices of whole numbers, and of moves, that came in are told. -/
import Derived.Test.YtkpjnikmcojdlaaB25c
import Derived.ProofKit
import Derived.OpenShut
import Derived.SizedLaws
import Derived.ChangeSlices
import Derived.Deep.Slices
import Derived.Deep.Strs
namespace Go.Proofs.Ytkpjnikmcojdlaa
open Go.RowKit Go.ChangeShapes Go.WideShapes Go.ChangeAt
set_option linter.unusedVariables false

theorem spot_none {w : World} {x : Addr} {v : Value} (h : w.cell? x = some v) : x.spot = none := by
  cases hs : x.spot with
  | none => rfl
  | some s =>
    unfold World.cell? at h
    split at h
    · simp [hs] at h
    · cases h
theorem cells_three {w : World} {base : Nat} {a : Addr} {l : List Value} (h : w.cells? base a 3 = some l) : ∃ x y z, l = [x, y, z] ∧ w.cell? (a.add 0) = some x ∧ w.cell? (a.add 1) = some y ∧ w.cell? (a.add 2) = some z := by
  unfold World.cells? at h
  split at h
  · simp [List.range_succ, List.mapM_cons, List.mapM_nil] at h
    cases h0 : w.cell? (a.add 0) with
    | none => simp [h0] at h
    | some x =>
      cases h1 : w.cell? (a.add 1) with
      | none => simp [h0, h1] at h
      | some y =>
        cases h2 : w.cell? (a.add 2) with
        | none => simp [h0, h1, h2] at h
        | some z =>
          simp [h0, h1, h2] at h
          exact ⟨x, y, z, h.symm, rfl, rfl, rfl⟩
  · cases h
theorem arg_ints {H : Type} {enc : TypeId × Value → H} {P : Program} {W : World} {base : Nat} {spare : Nat → Bool} {held : Bool} {t e : TypeId} {a : Option Addr} {len cap : Nat} {d : DataW H} {ps : List MemPlace} {ts : List TypeId} {ds : List (DataW H)} {j : Nat}
    (hsz : (DataW.weightsEach P ts ds).all (· ≤ reachBytes) = true) (ht : ts[j]? = some t) (hd : ds[j]? = some d) (hu : P.underlying t = some (.slice e)) (he : P.underlying e = some (.int .i64)) (hc : P.cellsOf e = 1) (hB : P.bytesOf e = 8)
    (h : DataW.Trod enc P W base spare held t (.slice a len cap) d ps) : ∃ l : List Int, Rd W ci (.slice a len cap) l ∧ l.length * 8 ≤ 140737488351232 ∧ ∀ x ∈ l, -9223372036854775808 ≤ x ∧ x ≤ 9223372036854775807 := by
  obtain ⟨fuel, hf⟩ := h
  rcases open_ints hu he hc hf with ⟨hcs, _⟩ | ⟨x, l, c, zs, hcs, _, hl, _, hz, hx, hcell, hwz⟩
  · simp [Value.cells] at hcs
    obtain ⟨rfl, rfl, rfl⟩ := hcs
    exact ⟨[], Or.inl ⟨_, _, rfl, rfl, fun _ => rfl⟩, by simp, fun x hx => by cases hx⟩
  · simp [Value.cells] at hcs
    obtain ⟨rfl, rfl, rfl⟩ := hcs
    obtain ⟨hx, _⟩ := Prod.mk.inj hx
    subst hx
    have z := sized_slice hsz ht hd hu
    rw [hB] at z
    have hl2 : len ≤ zs.length := by
      rw [hz]
      split
      · exact hl
      · exact Nat.le_refl _
    have h1 : (lits (H := H) .i64 (zs.take len)).length + (lits (H := H) .i64 (zs.drop len)).length = zs.length := by
      simp [lits]
      omega
    rw [h1] at z
    refine ⟨zs.take len, ?_, ?_, fun x hx => i64_of (hwz x (List.mem_of_mem_take hx))⟩
    · rcases Nat.eq_zero_or_pos len with h0 | h0
      · subst h0
        exact Or.inl ⟨_, _, rfl, by simp, fun h => by cases h⟩
      · have hsp : x.spot = none := by
          have h2 := hcell 0 (by omega)
          rw [show x.add 0 = x by simp [Addr.add]] at h2
          exact spot_none h2
        obtain ⟨b, o, s⟩ := x
        simp only at hsp
        subst hsp
        refine Or.inr ⟨b, o, cap, len, rfl, by rw [List.length_take]; omega, h0, fun i hi => ?_⟩
        rw [List.length_take] at hi
        have h2 := hcell i (by omega)
        rw [Addr.add_mid] at h2
        rw [h2, List.getElem_take]
        simp [List.getD, show i < zs.length by omega]
    · rw [List.length_take, Nat.min_eq_left hl2]
      have : reachBytes = 140737488351232 := rfl
      omega
theorem arg_moves {H : Type} {enc : TypeId × Value → H} {P : Program} {W : World} {base : Nat} {spare : Nat → Bool} {held : Bool} {t e T : TypeId} {f0 f1 f2 : Field} {a : Option Addr} {len cap : Nat} {d : DataW H} {ps : List MemPlace} {ts : List TypeId} {ds : List (DataW H)} {j : Nat}
    (hsz : (DataW.weightsEach P ts ds).all (· ≤ reachBytes) = true) (ht : ts[j]? = some t) (hd : ds[j]? = some d) (hu : P.underlying t = some (.slice e)) (hs : P.underlying e = some (.struct #[f0, f1, f2]))
    (e0 : f0.type = T ∧ f0.offset = 0) (e1 : f1.type = T ∧ f1.offset = 1) (e2 : f2.type = T ∧ f2.offset = 2) (hT : P.underlying T = some (.int .i64))
    (c3 : P.cellsOf e = 3) (cT : P.cellsOf T = 1) (hB : P.bytesOf e = 24)
    (h : DataW.Trod enc P W base spare held t (.slice a len cap) d ps) : ∃ l : List Mv, RdM W (.slice a len cap) l ∧ l.length * 24 ≤ 140737488351232 := by
  obtain ⟨fuel, hf⟩ := h
  obtain ⟨e00, e01⟩ := e0
  obtain ⟨e10, e11⟩ := e1
  obtain ⟨e20, e21⟩ := e2
  have hw : ∀ m ∈ d.weights P t, m ≤ reachBytes := fun m hm => by
    have := List.all_eq_true.1 hsz _ (DataW.weights_mem_each ht hd m hm)
    simpa using this
  rcases Deep.open_slice hu hf with ⟨hcs, _⟩ | ⟨a', len', cap', m, n, D, Pl, hcs, _, hl, _, hm, hx, hcell⟩
  · simp [Value.cells] at hcs
    obtain ⟨rfl, rfl, rfl⟩ := hcs
    exact ⟨[], Or.inl ⟨_, _, rfl, rfl, fun _ => rfl⟩, by simp⟩
  · simp [Value.cells] at hcs
    obtain ⟨rfl, rfl, rfl⟩ := hcs
    obtain ⟨rfl, _⟩ := Prod.mk.inj hx
    have hlm : len ≤ m := by
      rw [hm]
      split
      · exact hl
      · exact Nat.le_refl _
    have hsp0 : 0 < len → a'.spot = none := fun h0 => by
      obtain ⟨cs, h1, _⟩ := hcell 0 (by omega)
      rw [c3] at h1
      obtain ⟨x, y, z, rfl, hx0, _⟩ := cells_three h1
      rw [show (a'.add (0 * 3)).add 0 = a' by simp [Addr.add]] at hx0
      exact spot_none hx0
    have each : ∀ i, ∃ q : Mv, i < len → ∃ b o, a' = ⟨b, o, none⟩ ∧ W.cell? ⟨b, o + i * 3, none⟩ = some (ci q.1) ∧ W.cell? ⟨b, o + i * 3 + 1, none⟩ = some (ci q.2.1) ∧ W.cell? ⟨b, o + i * 3 + 2, none⟩ = some (ci q.2.2) := by
      intro i
      by_cases hi : i < len
      · obtain ⟨cs, h1, h2⟩ := hcell i (by omega)
        rw [c3] at h1
        obtain ⟨x, y, z, rfl, hx0, hy0, hz0⟩ := cells_three h1
        obtain ⟨y0, y1, y2, n', hD, _, t0, t1, t2⟩ := Deep.trod_struct3 hs h2
        rw [e00, e01, cT] at t0
        rw [e10, e11, cT] at t1
        rw [e20, e21, cT] at t2
        obtain ⟨k0, hk0, _⟩ := DataW.trod_int hT t0
        obtain ⟨k1, hk1, _⟩ := DataW.trod_int hT t1
        obtain ⟨k2, hk2, _⟩ := DataW.trod_int hT t2
        have hsp := hsp0 (by omega)
        obtain ⟨b, o, s⟩ := a'
        simp only at hsp
        subst hsp
        simp only [Addr.add_mid] at hx0 hy0 hz0
        simp at hk0 hk1 hk2
        subst hk0 hk1 hk2
        exact ⟨(k0, k1, k2), fun _ => ⟨b, o, rfl, by simpa using hx0, hy0, hz0⟩⟩
      · exact ⟨(0, 0, 0), fun h => absurd h hi⟩
    obtain ⟨q, hq⟩ := Classical.axiomOfChoice each
    refine ⟨(List.range len).map q, ?_, ?_⟩
    · rcases Nat.eq_zero_or_pos len with h0 | h0
      · subst h0
        exact Or.inl ⟨_, _, rfl, rfl, fun h => by cases h⟩
      · obtain ⟨b, o, hbo, _⟩ := hq 0 h0
        subst hbo
        refine Or.inr ⟨b, o, _, len, rfl, by simp, h0, fun j u hj => ?_⟩
        have hjl := (List.getElem?_eq_some_iff.1 hj).1
        rw [f3_len] at hjl
        simp at hjl
        have hi : j / 3 < len := by omega
        obtain ⟨b', o', he, c0, c1, c2⟩ := hq (j / 3) hi
        injection he with he1 he2 _
        subst he1 he2
        have hat := f3_at ((List.range len).map q) (j / 3) (by simpa using hi)
        simp only [List.getElem_map, List.getElem_range] at hat
        have hr : j = j / 3 * 3 ∨ j = j / 3 * 3 + 1 ∨ j = j / 3 * 3 + 2 := by omega
        rcases hr with hr | hr | hr
        · rw [hr] at hj ⊢
          rw [hat.1] at hj
          cases hj
          exact c0
        · rw [hr] at hj ⊢
          rw [hat.2.1] at hj
          cases hj
          exact c1
        · rw [hr] at hj ⊢
          rw [hat.2.2] at hj
          cases hj
          exact c2
    · have z := hw ((((List.range len).map D).length + ((List.range (m - len)).map fun j => D (len + j)).length) * P.bytesOf e) (by simp [DataW.weights, hu])
      rw [hB] at z
      simp at z
      have : reachBytes = 140737488351232 := rfl
      simp
      omega
end Go.Proofs.Ytkpjnikmcojdlaa
