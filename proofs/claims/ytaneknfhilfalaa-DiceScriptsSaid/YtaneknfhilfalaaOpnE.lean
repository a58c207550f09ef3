/- How a script of steps with dice came in is told: words within a struct. -/
import Derived.Test.YtaneknfhilfalaaOpnS
import Derived.Test.YtaneknfhilfalaaOpn
import Derived.Deep.Grids
import Derived.Test.YtaneknfhilfalaaL7h
namespace Go.Proofs.Ytaneknfhilfalaa
open Go.RowKit Go.ChangeShapes Go.WideShapes Go.ChangeAt
set_option linter.unusedVariables false

theorem words_of_trod {n : Nat} {k : IntKind} (hk : ∀ {a : Int}, (Lit.int k a).wf = true → ∃ x : BitVec n, a = Bv x) {H : Type} {enc : TypeId × Value → H} {P : Program} {W : World} {base : Nat} {spare : Nat → Bool} {held : Bool} {t e : TypeId} {d : DataW H} {ps : List MemPlace} {fuel : Nat} {cs : List Value}
    (hw : ∀ m ∈ d.weights P t, m ≤ reachBytes) (hu : P.underlying t = some (.slice e)) (he : P.underlying e = some (.int k)) (hc : P.cellsOf e = 1) {B : Nat} (hB : P.bytesOf e = B)
    (h : DataW.trod enc P W base spare held fuel t cs = some (d, ps)) : ∃ a len cap, cs = [.slice a len cap] ∧ ∃ l : List (BitVec n), Rd W (fun x => .int k (Bv x)) (.slice a len cap) l ∧ l.length * B ≤ 140737488351232 := by
  rcases open_ints hu he hc h with ⟨hcs, _⟩ | ⟨x, len, c, zs, hcs, _, hl, _, hz, hx, hcell, hwz⟩
  · exact ⟨none, 0, 0, hcs, [], Or.inl ⟨_, _, rfl, rfl, fun _ => rfl⟩, by simp⟩
  · refine ⟨_, _, _, hcs, ?_⟩
    obtain ⟨hx, _⟩ := Prod.mk.inj hx
    subst hx
    have z := hw ((((lits (H := H) k (zs.take len)).length + (lits (H := H) k (zs.drop len)).length)) * P.bytesOf e) (by simp [DataW.weights, hu])
    rw [hB] at z
    have hl2 : len ≤ zs.length := by
      rw [hz]
      split
      · exact hl
      · exact Nat.le_refl _
    have h1 : (lits (H := H) k (zs.take len)).length + (lits (H := H) k (zs.drop len)).length = zs.length := by
      simp [lits]
      omega
    rw [h1] at z
    obtain ⟨ws, rfl⟩ := words_of hk zs hwz
    rw [List.length_map] at hl2 z hcell
    refine ⟨ws.take len, ?_, ?_⟩
    · rcases Nat.eq_zero_or_pos len with h0 | h0
      · subst h0
        exact Or.inl ⟨_, _, rfl, by simp, fun h => by cases h⟩
      · have hsp : x.spot = none := by
          have h2 := hcell 0 (by omega)
          have h3 : x.add 0 = x := by simp [Addr.add]
          rw [h3] at h2
          exact spot_none' h2
        obtain ⟨b, o, s⟩ := x
        simp only at hsp
        subst hsp
        refine Or.inr ⟨b, o, _, len, rfl, by rw [List.length_take]; omega, h0, fun i hi => ?_⟩
        rw [List.length_take] at hi
        have h2 := hcell i (by omega)
        rw [Addr.add_mid] at h2
        rw [h2, List.getElem_take]
        simp [List.getD, show i < ws.length by omega]
    · rw [List.length_take, Nat.min_eq_left hl2]
      exact Nat.le_trans (Nat.mul_le_mul_right _ hl2) z
theorem arg_sops {H : Type} {enc : TypeId × Value → H} {P : Program} {W : World} {base : Nat} {held : Bool} {t e I U TB : TypeId} {f0 f1 f2 f3 f4 : Field} {a : Option Addr} {len cap : Nat} {d : DataW H} {ps : List MemPlace}
    (hw : ∀ m ∈ d.weights P t, m ≤ reachBytes) (hu : P.underlying t = some (.slice e)) (hs : P.underlying e = some (.struct #[f0, f1, f2, f3, f4])) (hC : P.cellsOf e = 5) (hB : P.bytesOf e = 56)
    (e0 : f0.type = I ∧ f0.offset = 0) (e1 : f1.type = I ∧ f1.offset = 1) (e2 : f2.type = I ∧ f2.offset = 2) (e3 : f3.type = U ∧ f3.offset = 3) (e4 : f4.type = TB ∧ f4.offset = 4)
    (hI : P.underlying I = some (.int .i64)) (cI : P.cellsOf I = 1) (hU : P.underlying U = some (.int .u64)) (cU : P.cellsOf U = 1) (bU : P.bytesOf U = 8) (hTB : P.underlying TB = some (.slice U)) (cTB : P.cellsOf TB = 1)
    (h : DataW.Trod enc P W base (fun _ => true) held t (.slice a len cap) d ps) :
    ∃ l : List Sop, RdO W (.slice a len cap) l ∧ l.length * 56 ≤ 140737488351232 ∧ ∀ o ∈ l, o.ok W := by
  obtain ⟨e00, e01⟩ := e0
  obtain ⟨e10, e11⟩ := e1
  obtain ⟨e20, e21⟩ := e2
  obtain ⟨e30, e31⟩ := e3
  obtain ⟨e40, e41⟩ := e4
  have hone : ∀ f ∈ [f0, f1, f2, f3, f4], P.cellsOf f.type = 1 ∧ f.offset < 5 := fun f hf => by
    simp only [List.mem_cons, List.not_mem_nil, or_false] at hf
    rcases hf with rfl | rfl | rfl | rfl | rfl
    · exact ⟨by rw [e00]; exact cI, by omega⟩
    · exact ⟨by rw [e10]; exact cI, by omega⟩
    · exact ⟨by rw [e20]; exact cI, by omega⟩
    · exact ⟨by rw [e30]; exact cU, by omega⟩
    · exact ⟨by rw [e40]; exact cTB, by omega⟩
  obtain ⟨h1, hn, h2⟩ := arg_structs hw hu hs hC hB (fun j f hj => hone f (by
    have : f ∈ #[f0, f1, f2, f3, f4] := Array.mem_of_getElem? hj
    simpa using this)) ⟨f0, rfl, e01⟩ h
  have each : ∀ i, ∃ q : Sop, i < len → (∃ b o, a = some ⟨b, o, none⟩ ∧ OpAt W b (o + i * 5) q) ∧ q.ok W := by
    intro i
    by_cases hi : i < len
    · obtain ⟨b, o, rfl, hf⟩ := h2 i hi
      obtain ⟨v0, y0, n0, c0, t0, _⟩ := hf 0 f0 rfl
      obtain ⟨v1, y1, n1, c1, t1, _⟩ := hf 1 f1 rfl
      obtain ⟨v2, y2, n2, c2, t2, _⟩ := hf 2 f2 rfl
      obtain ⟨v3, y3, n3, c3, t3, _⟩ := hf 3 f3 rfl
      obtain ⟨v4, y4, n4, c4, t4, q4⟩ := hf 4 f4 rfl
      rw [e00] at t0
      rw [e10] at t1
      rw [e20] at t2
      rw [e30] at t3
      rw [e40] at t4 q4
      obtain ⟨z0, rfl, w0⟩ := one_int hI t0
      obtain ⟨z1, rfl, w1⟩ := one_int hI t1
      obtain ⟨z2, rfl, w2⟩ := one_int hI t2
      obtain ⟨z3, rfl, w3⟩ := one_int hU t3
      obtain ⟨x3, rfl⟩ := Bv_of64 w3
      obtain ⟨a4, l4, k4, x4, d4, r4, m4⟩ := words_of_trod (k := .u64) (n := 64) (fun h => Bv_of64 h) (d := y4.1) (ps := y4.2) q4 hTB hU cU bU t4
      injection x4 with x4 _
      subst x4
      rw [e01] at c0
      rw [e11] at c1
      rw [e21] at c2
      rw [e31] at c3
      rw [e41] at c4
      exact ⟨⟨z0, z1, z2, x3, _, d4⟩, fun _ => ⟨⟨b, o, rfl, by simpa using c0, c1, c2, c3, c4⟩, i64_of w1, i64_of w2, r4, m4⟩⟩
    · exact ⟨⟨0, 0, 0, 0#64, undef, []⟩, fun h => absurd h hi⟩
  obtain ⟨q, hq⟩ := Classical.axiomOfChoice each
  refine ⟨(List.range len).map q, ?_, by simpa using h1, fun o ho => ?_⟩
  · rcases Nat.eq_zero_or_pos len with h0 | h0
    · subst h0
      exact Or.inl ⟨_, _, rfl, rfl⟩
    · obtain ⟨⟨b, o, hbo, _⟩, _⟩ := hq 0 h0
      subst hbo
      refine Or.inr ⟨b, o, _, len, rfl, by simp, h0, fun i hi => ?_⟩
      have hi' : i < len := by simpa using hi
      obtain ⟨⟨b', o', he, c⟩, _⟩ := hq i hi'
      injection he with he
      injection he with e1 e2 _
      subst e1 e2
      simpa using c
  · obtain ⟨i, hi, rfl⟩ := List.mem_map.1 ho
    exact (hq i (by simpa using hi)).2
end Go.Proofs.Ytaneknfhilfalaa
