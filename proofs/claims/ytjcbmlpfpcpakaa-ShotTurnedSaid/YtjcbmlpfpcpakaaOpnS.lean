/- How slices of structs that came in are told: element by element, field by field. No program in sight. -/
import Derived.Test.YtjcbmlpfpcpakaaArr
import Derived.ProofKit
import Derived.OpenShut
import Derived.SizedLaws
import Derived.ChangeSlices
import Derived.Deep.Slices
import Derived.Deep.Strs
namespace Go.Proofs.Ytjcbmlpfpcpakaa
open Go.RowKit Go.ChangeShapes Go.WideShapes Go.ChangeAt
set_option linter.unusedVariables false

theorem spot_none' {w : World} {x : Addr} {v : Value} (h : w.cell? x = some v) : x.spot = none := by
  cases hs : x.spot with
  | none => rfl
  | some s =>
    unfold World.cell? at h
    split at h
    · simp [hs] at h
    · cases h
theorem weights_all' {H : Type} {P : Program} {e : TypeId} {d : DataW H} {l : List (DataW H)} (h : d ∈ l) : ∀ m ∈ d.weights P e, m ∈ DataW.weightsAll P e l := by
  induction l with
  | nil => cases h
  | cons x r ih =>
    intro m hm
    simp only [DataW.weightsAll, List.mem_append]
    cases List.mem_cons.1 h with
    | inl e => subst e; exact Or.inl hm
    | inr e => exact Or.inr (ih e m hm)
/-- each element of a slice of structs: each of its fields that takes one cell -/
theorem arg_structs {H : Type} {enc : TypeId × Value → H} {P : Program} {W : World} {base : Nat} {spare : Nat → Bool} {held : Bool} {t e : TypeId} {fs : Array Field} {a : Option Addr} {len cap : Nat} {d : DataW H} {ps : List MemPlace} {C B : Nat}
    (hw : ∀ m ∈ d.weights P t, m ≤ reachBytes) (hu : P.underlying t = some (.slice e)) (hs : P.underlying e = some (.struct fs)) (hC : P.cellsOf e = C) (hB : P.bytesOf e = B)
    (hone : ∀ (j : Nat) (f : Field), fs[j]? = some f → P.cellsOf f.type = 1 ∧ f.offset < C) (h0 : ∃ f, fs[0]? = some f ∧ f.offset = 0)
    (h : DataW.Trod enc P W base spare held t (.slice a len cap) d ps) :
    len * B ≤ 140737488351232 ∧ (a = none → len = 0 ∧ cap = 0) ∧ ∀ i, i < len → ∃ b o, a = some ⟨b, o, none⟩ ∧ ∀ (j : Nat) (f : Field), fs[j]? = some f →
      ∃ v y n, W.cell? ⟨b, o + i * C + f.offset, none⟩ = some v ∧ DataW.trod enc P W base spare held n f.type [v] = some y ∧ ∀ m ∈ y.1.weights P f.type, m ≤ reachBytes := by
  obtain ⟨fuel, hf⟩ := h
  rcases Deep.open_slice hu hf with ⟨hcs, _⟩ | ⟨a', len', cap', m, n, D, Pl, hcs, _, hl, _, hm, hx, hcell⟩
  · simp [Value.cells] at hcs
    obtain ⟨rfl, rfl, rfl⟩ := hcs
    exact ⟨by omega, fun _ => ⟨rfl, rfl⟩, fun i hi => absurd hi (by omega)⟩
  · simp [Value.cells] at hcs
    obtain ⟨rfl, rfl, rfl⟩ := hcs
    obtain ⟨rfl, _⟩ := Prod.mk.inj hx
    have hlm : len ≤ m := by
      rw [hm]
      split
      · exact hl
      · exact Nat.le_refl _
    refine ⟨?_, (fun h => by cases h), fun i hi => ?_⟩
    · have z := hw ((((List.range len).map D).length + ((List.range (m - len)).map fun j => D (len + j)).length) * P.bytesOf e) (by simp [DataW.weights, hu])
      rw [hB] at z
      simp at z
      have hr : reachBytes = 140737488351232 := rfl
      have : len * B ≤ (len + (m - len)) * B := Nat.mul_le_mul_right _ (by omega)
      omega
    · have each : ∀ i, i < len → ∀ (j : Nat) (f : Field), fs[j]? = some f → ∃ v y, W.cell? ((a'.add (i * C)).add f.offset) = some v ∧ DataW.trod enc P W base spare held (n - 1) f.type [v] = some y ∧ ∀ m ∈ y.1.weights P f.type, m ≤ reachBytes := by
        intro i hi j f hj
        obtain ⟨cs, h1, h2⟩ := hcell i (by omega)
        rw [hC] at h1
        obtain ⟨_, hlen, hget⟩ := World.cells?_some h1
        obtain ⟨xs, n', hn', hD, hl2, hlen2, hfs⟩ := DataW.trod_struct hs h2
        obtain rfl : n' = n - 1 := by omega
        have hDD : D i = .agg (xs.map (·.1)) := congrArg Prod.fst hD
        obtain ⟨hc1, hoff⟩ := hone j f hj
        have hj2 : j < xs.length := by rw [hlen2]; exact (Array.getElem?_eq_some_iff.1 hj).1
        have ht := hfs j f hj
        rw [hc1, List.getElem?_eq_getElem hj2] at ht
        have hv : (cs.drop f.offset).take 1 = [cs[f.offset]'(by omega)] := by
          rw [List.drop_eq_getElem_cons (by omega)]; rfl
        rw [hv] at ht
        refine ⟨_, _, ?_, ht, fun m hm => hw m ?_⟩
        · have hg := hget f.offset hoff
          rw [List.getElem?_eq_getElem (by omega)] at hg
          exact hg
        · simp only [DataW.weights, hu, List.mem_cons, List.mem_append]
          refine Or.inr (Or.inl (weights_all' (List.mem_map.2 ⟨i, List.mem_range.2 hi, rfl⟩) m ?_))
          rw [hDD]
          simp only [DataW.weights, hs]
          refine DataW.weights_mem_each (j := j) (t := f.type) (d := xs[j].1) ?_ ?_ m hm
          · rw [List.getElem?_map]
            have : fs.toList[j]? = some f := by simpa using hj
            rw [this]; rfl
          · rw [List.getElem?_map, List.getElem?_eq_getElem hj2]; rfl
      obtain ⟨f0, hf0, hz⟩ := h0
      obtain ⟨v0, _, hv0, _⟩ := each 0 (by omega) 0 f0 hf0
      have hsp : a'.spot = none := by
        have := spot_none' hv0
        rw [hz, Nat.zero_mul, show (a'.add 0).add 0 = a' by simp [Addr.add]] at this
        exact this
      obtain ⟨b, o, s⟩ := a'
      simp only at hsp
      subst hsp
      refine ⟨b, o, rfl, fun j f hj => ?_⟩
      obtain ⟨v, y, e1, e2, e3⟩ := each i hi j f hj
      exact ⟨v, y, n - 1, by rw [Addr.add_mid, Addr.add_mid] at e1; exact e1, e2, e3⟩
/-- of the arguments, one that is a slice: its weights -/
theorem arg_weights {H : Type} {P : Program} {t : TypeId} {d : DataW H} {ts : List TypeId} {ds : List (DataW H)} {j : Nat} (hsz : (DataW.weightsEach P ts ds).all (· ≤ reachBytes) = true) (ht : ts[j]? = some t) (hd : ds[j]? = some d) : ∀ m ∈ d.weights P t, m ≤ reachBytes := fun m hm => by
  have := List.all_eq_true.1 hsz _ (DataW.weights_mem_each ht hd m hm)
  simpa using this
/-- a struct that came in by value: each of its fields that takes one cell -/
theorem arg_struct {H : Type} {enc : TypeId × Value → H} {P : Program} {W : World} {base b0 : Nat} {rr : Reach} {spare : Nat → Bool} {held : Bool} {t : TypeId} {fs : Array Field} {v : Value} {d : DataW H} {ps : List MemPlace} {C : Nat}
    (hw : ∀ m ∈ d.weights P t, m ≤ reachBytes) (hs : P.underlying t = some (.struct fs)) (hC : P.cellsOf t = C) (hone : ∀ (j : Nat) (f : Field), fs[j]? = some f → P.cellsOf f.type = 1 ∧ f.offset < C)
    (hval : Value.okWide P W rr b0 t v) (h : DataW.Trod enc P W base spare held t v d ps) :
    ∃ cs, v = .agg cs ∧ cs.size = C ∧ ∀ (j : Nat) (f : Field), fs[j]? = some f → ∃ u y n, cs[f.offset]? = some u ∧ DataW.trod enc P W base spare held n f.type [u] = some y ∧ ∀ m ∈ y.1.weights P f.type, m ≤ reachBytes := by
  have ha : ∃ cs, v = .agg cs := by
    simp only [Value.okWide, hs] at hval
    obtain ⟨cs, h1, _⟩ := hval
    exact ⟨cs, h1⟩
  obtain ⟨cs, rfl⟩ := ha
  obtain ⟨fuel, hf⟩ := h
  obtain ⟨xs, n', hn', hD, hl2, hlen2, hfs⟩ := DataW.trod_struct hs hf
  have hDD : d = .agg (xs.map (·.1)) := congrArg Prod.fst hD
  have hcl : (Value.agg cs).cells.toList = cs.toList := rfl
  rw [hcl] at hl2 hfs
  rw [hC] at hl2
  have hsz : cs.size = C := by simpa using hl2
  refine ⟨cs, rfl, hsz, fun j f hj => ?_⟩
  obtain ⟨hc1, hoff⟩ := hone j f hj
  have hj2 : j < xs.length := by rw [hlen2]; exact (Array.getElem?_eq_some_iff.1 hj).1
  have ht := hfs j f hj
  rw [hc1, List.getElem?_eq_getElem hj2] at ht
  have hoff' : f.offset < cs.toList.length := by rw [hl2]; exact hoff
  have hv : (cs.toList.drop f.offset).take 1 = [cs.toList[f.offset]] := by
    rw [List.drop_eq_getElem_cons hoff']; rfl
  rw [hv] at ht
  refine ⟨_, _, n', ?_, ht, fun m hm => hw m ?_⟩
  · rw [← Array.getElem?_toList, List.getElem?_eq_getElem hoff']
  · rw [hDD]
    simp only [DataW.weights, hs]
    refine DataW.weights_mem_each (j := j) (t := f.type) (d := xs[j].1) ?_ ?_ m hm
    · rw [List.getElem?_map]
      have : fs.toList[j]? = some f := by simpa using hj
      rw [this]; rfl
    · rw [List.getElem?_map, List.getElem?_eq_getElem hj2]; rfl
theorem one_int {H : Type} {enc : TypeId × Value → H} {P : Program} {W : World} {base : Nat} {spare : Nat → Bool} {held : Bool} {t : TypeId} {n : Nat} {v : Value} {y : DataW H × List MemPlace} {k : IntKind} (ht : P.underlying t = some (.int k)) (h : DataW.trod enc P W base spare held n t [v] = some y) :
    ∃ z, v = .int k z ∧ (Lit.int k z).wf = true := by
  obtain ⟨z, hz, _, hw⟩ := DataW.trod_int ht h
  simp at hz
  exact ⟨z, hz, hw⟩
end Go.Proofs.Ytjcbmlpfpcpakaa
