/- How a script of steps with a meter came in is told. -/
import Derived.Test.YtjgdeijodjihlaaOpnS
import Derived.Test.YtjgdeijodjihlaaD9e
namespace Go.Proofs.Ytjgdeijodjihlaa
open Go.RowKit Go.ChangeShapes Go.WideShapes Go.ChangeAt
set_option linter.unusedVariables false

theorem arg_script {H : Type} {enc : TypeId × Value → H} {P : Program} {W : World} {base : Nat} {spare : Nat → Bool} {held : Bool} {t e I U : TypeId} {f0 f1 f2 f3 f4 : Field} {a : Option Addr} {len cap : Nat} {d : DataW H} {ps : List MemPlace}
    (hw : ∀ m ∈ d.weights P t, m ≤ reachBytes) (hu : P.underlying t = some (.slice e)) (hs : P.underlying e = some (.struct #[f0, f1, f2, f3, f4])) (hC : P.cellsOf e = 5) (hB : P.bytesOf e = 40)
    (e0 : f0.type = I ∧ f0.offset = 0) (e1 : f1.type = I ∧ f1.offset = 1) (e2 : f2.type = I ∧ f2.offset = 2) (e3 : f3.type = I ∧ f3.offset = 3) (e4 : f4.type = U ∧ f4.offset = 4)
    (hI : P.underlying I = some (.int .i64)) (hU : P.underlying U = some (.int .u64)) (cI : P.cellsOf I = 1) (cU : P.cellsOf U = 1)
    (h : DataW.Trod enc P W base spare held t (.slice a len cap) d ps) :
    ∃ l : List Sc, RdS W (.slice a len cap) l ∧ l.length * 40 ≤ 140737488351232 ∧ ∀ o ∈ l, (-9223372036854775808 ≤ o.kind ∧ o.kind ≤ 9223372036854775807) ∧ (-9223372036854775808 ≤ o.who ∧ o.who ≤ 9223372036854775807) ∧ (-9223372036854775808 ≤ o.shard ∧ o.shard ≤ 9223372036854775807) ∧ (-9223372036854775808 ≤ o.now ∧ o.now ≤ 9223372036854775807) := by
  obtain ⟨e00, e01⟩ := e0
  obtain ⟨e10, e11⟩ := e1
  obtain ⟨e20, e21⟩ := e2
  obtain ⟨e30, e31⟩ := e3
  obtain ⟨e40, e41⟩ := e4
  have hone : ∀ f ∈ [f0, f1, f2, f3, f4], P.cellsOf f.type = 1 ∧ f.offset < 5 := fun f hf => by
    simp only [List.mem_cons, List.not_mem_nil, or_false] at hf
    rcases hf with rfl | rfl | rfl | rfl | rfl
    · exact ⟨by rw [e00]; exact cI, by omega⟩
    · exact ⟨by rw [e10]; exact cI, by omega⟩
    · exact ⟨by rw [e20]; exact cI, by omega⟩
    · exact ⟨by rw [e30]; exact cI, by omega⟩
    · exact ⟨by rw [e40]; exact cU, by omega⟩
  obtain ⟨h1, hn, h2⟩ := arg_structs hw hu hs hC hB (fun j f hj => hone f (by
    have : f ∈ #[f0, f1, f2, f3, f4] := Array.mem_of_getElem? hj
    simpa using this)) ⟨f0, rfl, e01⟩ h
  have each : ∀ i, ∃ q : Sc, i < len → (∃ b o, a = some ⟨b, o, none⟩ ∧ W.cell? ⟨b, o + i * 5, none⟩ = some (ci q.kind) ∧ W.cell? ⟨b, o + i * 5 + 1, none⟩ = some (ci q.who) ∧ W.cell? ⟨b, o + i * 5 + 2, none⟩ = some (ci q.shard) ∧ W.cell? ⟨b, o + i * 5 + 3, none⟩ = some (ci q.now) ∧ W.cell? ⟨b, o + i * 5 + 4, none⟩ = some (.int .u64 (Bv q.wt))) ∧
      (-9223372036854775808 ≤ q.kind ∧ q.kind ≤ 9223372036854775807) ∧ (-9223372036854775808 ≤ q.who ∧ q.who ≤ 9223372036854775807) ∧ (-9223372036854775808 ≤ q.shard ∧ q.shard ≤ 9223372036854775807) ∧ (-9223372036854775808 ≤ q.now ∧ q.now ≤ 9223372036854775807) := by
    intro i
    by_cases hi : i < len
    · obtain ⟨b, o, rfl, hf⟩ := h2 i hi
      obtain ⟨v0, y0, n0, c0, t0, _⟩ := hf 0 f0 rfl
      obtain ⟨v1, y1, n1, c1, t1, _⟩ := hf 1 f1 rfl
      obtain ⟨v2, y2, n2, c2, t2, _⟩ := hf 2 f2 rfl
      obtain ⟨v3, y3, n3, c3, t3, _⟩ := hf 3 f3 rfl
      obtain ⟨v4, y4, n4, c4, t4, _⟩ := hf 4 f4 rfl
      rw [e00] at t0
      rw [e10] at t1
      rw [e20] at t2
      rw [e30] at t3
      rw [e40] at t4
      obtain ⟨z0, rfl, w0⟩ := one_int hI t0
      obtain ⟨z1, rfl, w1⟩ := one_int hI t1
      obtain ⟨z2, rfl, w2⟩ := one_int hI t2
      obtain ⟨z3, rfl, w3⟩ := one_int hI t3
      obtain ⟨z4, rfl, w4⟩ := one_int hU t4
      obtain ⟨x4, rfl⟩ := Bv_of64 w4
      rw [e01] at c0
      rw [e11] at c1
      rw [e21] at c2
      rw [e31] at c3
      rw [e41] at c4
      exact ⟨⟨z0, z1, z2, z3, x4⟩, fun _ => ⟨⟨b, o, rfl, by simpa using c0, c1, c2, c3, c4⟩, i64_of w0, i64_of w1, i64_of w2, i64_of w3⟩⟩
    · exact ⟨⟨0, 0, 0, 0, 0⟩, fun h => absurd h hi⟩
  obtain ⟨q, hq⟩ := Classical.axiomOfChoice each
  refine ⟨(List.range len).map q, ?_, by simpa using h1, fun o ho => ?_⟩
  · rcases Nat.eq_zero_or_pos len with h0 | h0
    · subst h0
      exact Or.inl ⟨_, _, rfl, rfl, fun h => (hn h).2⟩
    · obtain ⟨⟨b, o, hbo, _⟩, _⟩ := hq 0 h0
      subst hbo
      refine Or.inr ⟨b, o, _, len, rfl, by simp, h0, fun i hi => ?_⟩
      have hi' : i < len := by simpa using hi
      obtain ⟨⟨b', o', he, c⟩, _⟩ := hq i hi'
      injection he with he
      injection he with e1 e2 _
      subst e1 e2
      simpa using c
  · obtain ⟨i, hi, rfl⟩ := List.mem_map.1 ho
    exact (hq i (by simpa using hi)).2
theorem arg_step {H : Type} {enc : TypeId × Value → H} {P : Program} {W : World} {base b0 : Nat} {rr : Reach} {spare : Nat → Bool} {held : Bool} {t I U : TypeId} {f0 f1 f2 f3 f4 : Field} {v : Value} {d : DataW H} {ps : List MemPlace}
    (hw : ∀ m ∈ d.weights P t, m ≤ reachBytes) (hs : P.underlying t = some (.struct #[f0, f1, f2, f3, f4])) (hC : P.cellsOf t = 5)
    (e0 : f0.type = I ∧ f0.offset = 0) (e1 : f1.type = I ∧ f1.offset = 1) (e2 : f2.type = I ∧ f2.offset = 2) (e3 : f3.type = I ∧ f3.offset = 3) (e4 : f4.type = U ∧ f4.offset = 4)
    (hI : P.underlying I = some (.int .i64)) (hU : P.underlying U = some (.int .u64)) (cI : P.cellsOf I = 1) (cU : P.cellsOf U = 1)
    (hval : Value.okWide P W rr b0 t v) (h : DataW.Trod enc P W base spare held t v d ps) : ∃ o : Sc, v = scv o := by
  obtain ⟨e00, e01⟩ := e0
  obtain ⟨e10, e11⟩ := e1
  obtain ⟨e20, e21⟩ := e2
  obtain ⟨e30, e31⟩ := e3
  obtain ⟨e40, e41⟩ := e4
  have hone : ∀ f ∈ [f0, f1, f2, f3, f4], P.cellsOf f.type = 1 ∧ f.offset < 5 := fun f hf => by
    simp only [List.mem_cons, List.not_mem_nil, or_false] at hf
    rcases hf with rfl | rfl | rfl | rfl | rfl
    · exact ⟨by rw [e00]; exact cI, by omega⟩
    · exact ⟨by rw [e10]; exact cI, by omega⟩
    · exact ⟨by rw [e20]; exact cI, by omega⟩
    · exact ⟨by rw [e30]; exact cI, by omega⟩
    · exact ⟨by rw [e40]; exact cU, by omega⟩
  obtain ⟨cs, rfl, hsz, hf⟩ := arg_struct hw hs hC (fun j f hj => hone f (by
    have : f ∈ #[f0, f1, f2, f3, f4] := Array.mem_of_getElem? hj
    simpa using this)) hval h
  obtain ⟨v0, y0, n0, c0, t0, _⟩ := hf 0 f0 rfl
  obtain ⟨v1, y1, n1, c1, t1, _⟩ := hf 1 f1 rfl
  obtain ⟨v2, y2, n2, c2, t2, _⟩ := hf 2 f2 rfl
  obtain ⟨v3, y3, n3, c3, t3, _⟩ := hf 3 f3 rfl
  obtain ⟨v4, y4, n4, c4, t4, _⟩ := hf 4 f4 rfl
  rw [e00] at t0
  rw [e10] at t1
  rw [e20] at t2
  rw [e30] at t3
  rw [e40] at t4
  obtain ⟨z0, rfl, w0⟩ := one_int hI t0
  obtain ⟨z1, rfl, w1⟩ := one_int hI t1
  obtain ⟨z2, rfl, w2⟩ := one_int hI t2
  obtain ⟨z3, rfl, w3⟩ := one_int hI t3
  obtain ⟨z4, rfl, w4⟩ := one_int hU t4
  obtain ⟨x4, rfl⟩ := Bv_of64 w4
  rw [e01] at c0
  rw [e11] at c1
  rw [e21] at c2
  rw [e31] at c3
  rw [e41] at c4
  refine ⟨⟨z0, z1, z2, z3, x4⟩, congrArg Value.agg ?_⟩
  apply Array.ext_getElem?
  intro i
  match i with
  | 0 => exact c0
  | 1 => exact c1
  | 2 => exact c2
  | 3 => exact c3
  | 4 => exact c4
  | i + 5 => rw [Array.getElem?_eq_none (by omega), Array.getElem?_eq_none (by simp)]
end Go.Proofs.Ytjgdeijodjihlaa
