/- How a slice of whole numbers that came in is told: as a list of words. No program in sight. -/
import Derived.Test.YtjcbmlpfpcpakaaArr
import Derived.ProofKit
import Derived.OpenShut
import Derived.SizedLaws
import Derived.ChangeSlices
namespace Go.Proofs.Ytjcbmlpfpcpakaa
open Go.RowKit Go.ChangeShapes Go.WideShapes Go.ChangeAt
set_option linter.unusedVariables false

theorem words_of {n : Nat} {k : IntKind} (hk : ∀ {a : Int}, (Lit.int k a).wf = true → ∃ x : BitVec n, a = Bv x) : ∀ zs : List Int, (∀ a ∈ zs, (Lit.int k a).wf = true) → ∃ l : List (BitVec n), zs = l.map Bv
  | [], _ => ⟨[], rfl⟩
  | a :: zs, h => by
    obtain ⟨x, rfl⟩ := hk (h a (by simp))
    obtain ⟨l, rfl⟩ := words_of hk zs (fun b hb => h b (by simp [hb]))
    exact ⟨x :: l, rfl⟩
theorem arg_words {n : Nat} {k : IntKind} (hk : ∀ {a : Int}, (Lit.int k a).wf = true → ∃ x : BitVec n, a = Bv x) {H : Type} {enc : TypeId × Value → H} {P : Program} {W : World} {base : Nat} {spare : Nat → Bool} {held : Bool} {t e : TypeId} {a : Option Addr} {len cap : Nat} {d : DataW H} {ps : List MemPlace} {ts : List TypeId} {ds : List (DataW H)} {j : Nat}
    (hsz : (DataW.weightsEach P ts ds).all (· ≤ reachBytes) = true) (ht : ts[j]? = some t) (hd : ds[j]? = some d) (hu : P.underlying t = some (.slice e)) (he : P.underlying e = some (.int k)) (hc : P.cellsOf e = 1) {B : Nat} (hB : P.bytesOf e = B)
    (h : DataW.Trod enc P W base spare held t (.slice a len cap) d ps) : ∃ l : List (BitVec n), Rd W (fun x => .int k (Bv x)) (.slice a len cap) l ∧ l.length * B ≤ 140737488351232 := by
  obtain ⟨fuel, hf⟩ := h
  rcases open_ints hu he hc hf with ⟨hcs, _⟩ | ⟨x, l, c, zs, hcs, _, hl, _, hz, hx, hcell, hwz⟩
  · simp [Value.cells] at hcs
    obtain ⟨rfl, rfl, rfl⟩ := hcs
    exact ⟨[], Or.inl ⟨_, _, rfl, rfl, fun _ => rfl⟩, by simp⟩
  · simp [Value.cells] at hcs
    obtain ⟨rfl, rfl, rfl⟩ := hcs
    obtain ⟨hx, _⟩ := Prod.mk.inj hx
    subst hx
    have z := sized_slice hsz ht hd hu
    rw [hB] at z
    have hl2 : len ≤ zs.length := by
      rw [hz]
      split
      · exact hl
      · exact Nat.le_refl _
    have h1 : (lits (H := H) k (zs.take len)).length + (lits (H := H) k (zs.drop len)).length = zs.length := by
      simp [lits]
      omega
    rw [h1] at z
    obtain ⟨ws, rfl⟩ := words_of hk zs hwz
    rw [List.length_map] at hl2 z hcell
    refine ⟨ws.take len, ?_, ?_⟩
    · rcases Nat.eq_zero_or_pos len with h0 | h0
      · subst h0
        exact Or.inl ⟨_, _, rfl, by simp, fun h => by cases h⟩
      · have hsp : x.spot = none := by
          have h2 := hcell 0 (by omega)
          have h3 : x.add 0 = x := by simp [Addr.add]
          rw [h3] at h2
          cases hs : x.spot with
          | none => rfl
          | some s =>
            unfold World.cell? at h2
            split at h2
            · simp [hs] at h2
            · cases h2
        obtain ⟨b, o, s⟩ := x
        simp only at hsp
        subst hsp
        refine Or.inr ⟨b, o, cap, len, rfl, by rw [List.length_take]; omega, h0, fun i hi => ?_⟩
        rw [List.length_take] at hi
        have h2 := hcell i (by omega)
        rw [Addr.add_mid] at h2
        rw [h2, List.getElem_take]
        simp [List.getD, show i < ws.length by omega]
    · rw [List.length_take, Nat.min_eq_left hl2]
      exact Nat.le_trans (Nat.mul_le_mul_right _ hl2) z
/-- an array of bytes that came in -/
theorem arg_array {N : Nat} {k : IntKind} (hk : ∀ {a : Int}, (Lit.int k a).wf = true → ∃ x : BitVec N, a = Bv x) {H : Type} {enc : TypeId × Value → H} {P : Program} {W : World} {base b0 : Nat} {spare : Nat → Bool} {held : Bool} {r : Reach} {n : Nat} {t e : TypeId} {v : Value} {d : DataW H} {ps : List MemPlace}
    (hu : P.underlying t = some (.array n e)) (he : P.underlying e = some (.int k)) (hc : P.cellsOf e = 1) (hcn : P.cellsOf t = n) (hval : Value.okWide P W r b0 t v) (h : DataW.Trod enc P W base spare held t v d ps) :
    ∃ l : List (BitVec N), l.length = n ∧ v = .agg (V (fun x => .int k (Bv x)) l) := by
  have ha : ∃ cs, v = .agg cs := by
    simp only [Value.okWide, hu] at hval
    obtain ⟨cs, h1, _⟩ := hval
    exact ⟨cs, h1⟩
  obtain ⟨cs, rfl⟩ := ha
  obtain ⟨fuel, hf⟩ := h
  obtain ⟨xs, m, rfl, _, hl, hxl, hel⟩ := DataW.trod_array hu hf
  rw [hcn] at hl
  have hlen : cs.size = n := by simpa [Value.cells] using hl
  have key : ∀ i, i < n → ∃ x : BitVec N, cs[i]? = some (.int k (Bv x)) := by
    intro i hi
    have h1 := hel i hi
    rw [hc, Nat.mul_one, List.getElem?_eq_getElem (by omega)] at h1
    obtain ⟨a, ha, _, hw⟩ := DataW.trod_int he h1
    obtain ⟨x, rfl⟩ := hk hw
    refine ⟨x, ?_⟩
    have h2 : ((cs.toList.drop i).take 1)[0]? = some (.int k (Bv x)) := by
      have : (Value.agg cs).cells.toList = cs.toList := rfl
      rw [this] at ha
      rw [ha]; rfl
    rw [List.getElem?_take, if_pos (by omega), List.getElem?_drop, Nat.add_zero] at h2
    simpa using h2
  have all : ∀ j, j ≤ n → ∃ l : List (BitVec N), l.length = j ∧ ∀ i, (hi : i < l.length) → cs[i]? = some (.int k (Bv l[i])) := by
    intro j
    induction j with
    | zero => intro _; exact ⟨[], rfl, fun i hi => absurd hi (by simp)⟩
    | succ j ih =>
      intro hj
      obtain ⟨l, h1, h2⟩ := ih (by omega)
      obtain ⟨x, hx⟩ := key j (by omega)
      refine ⟨l ++ [x], by simp [h1], fun i hi => ?_⟩
      rcases Nat.lt_or_ge i j with h3 | h3
      · rw [List.getElem_append_left (by omega)]; exact h2 i (by omega)
      · have : i = l.length := by simp at hi; omega
        subst this
        rw [List.getElem_append_right (Nat.le_refl _)]
        simp [← hx, h1]
  obtain ⟨l, h1, h2⟩ := all n (Nat.le_refl _)
  refine ⟨l, h1, ?_⟩
  congr 1
  apply Array.ext_getElem?
  intro i
  rw [V_get]
  rcases Nat.lt_or_ge i n with h3 | h3
  · rw [h2 i (by omega), List.getElem?_eq_getElem (by omega)]; rfl
  · rw [Array.getElem?_eq_none (by omega), List.getElem?_eq_none (by omega)]; rfl
theorem le_of_len {n : Nat} (h : n * 1 ≤ 140737488351232) : (n : Int) ≤ 140737488351232 := by omega
end Go.Proofs.Ytjcbmlpfpcpakaa
