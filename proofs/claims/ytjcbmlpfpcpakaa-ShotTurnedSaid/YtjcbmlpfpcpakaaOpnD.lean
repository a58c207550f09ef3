/- How a script of steps with disks came in is told: bytes and bools within a struct. -/
import Derived.Test.YtjcbmlpfpcpakaaOpnS
import Derived.Test.YtjcbmlpfpcpakaaOpn
import Derived.Deep.Grids
import Derived.Test.YtjcbmlpfpcpakaaD8r
namespace Go.Proofs.Ytjcbmlpfpcpakaa
open Go.RowKit Go.ChangeShapes Go.WideShapes Go.ChangeAt
set_option linter.unusedVariables false

theorem words_of_trod {n : Nat} {k : IntKind} (hk : ∀ {a : Int}, (Lit.int k a).wf = true → ∃ x : BitVec n, a = Bv x) {H : Type} {enc : TypeId × Value → H} {P : Program} {W : World} {base : Nat} {spare : Nat → Bool} {held : Bool} {t e : TypeId} {d : DataW H} {ps : List MemPlace} {fuel : Nat} {cs : List Value}
    (hw : ∀ m ∈ d.weights P t, m ≤ reachBytes) (hu : P.underlying t = some (.slice e)) (he : P.underlying e = some (.int k)) (hc : P.cellsOf e = 1) {B : Nat} (hB : P.bytesOf e = B)
    (h : DataW.trod enc P W base spare held fuel t cs = some (d, ps)) : ∃ a len cap, cs = [.slice a len cap] ∧ ∃ l : List (BitVec n), Rd W (fun x => .int k (Bv x)) (.slice a len cap) l ∧ l.length * B ≤ 140737488351232 := by
  rcases open_ints hu he hc h with ⟨hcs, _⟩ | ⟨x, len, c, zs, hcs, _, hl, _, hz, hx, hcell, hwz⟩
  · exact ⟨none, 0, 0, hcs, [], Or.inl ⟨_, _, rfl, rfl, fun _ => rfl⟩, by simp⟩
  · refine ⟨_, _, _, hcs, ?_⟩
    obtain ⟨hx, _⟩ := Prod.mk.inj hx
    subst hx
    have z := hw ((((lits (H := H) k (zs.take len)).length + (lits (H := H) k (zs.drop len)).length)) * P.bytesOf e) (by simp [DataW.weights, hu])
    rw [hB] at z
    have hl2 : len ≤ zs.length := by
      rw [hz]
      split
      · exact hl
      · exact Nat.le_refl _
    have h1 : (lits (H := H) k (zs.take len)).length + (lits (H := H) k (zs.drop len)).length = zs.length := by
      simp [lits]
      omega
    rw [h1] at z
    obtain ⟨ws, rfl⟩ := words_of hk zs hwz
    rw [List.length_map] at hl2 z hcell
    refine ⟨ws.take len, ?_, ?_⟩
    · rcases Nat.eq_zero_or_pos len with h0 | h0
      · subst h0
        exact Or.inl ⟨_, _, rfl, by simp, fun h => by cases h⟩
      · have hsp : x.spot = none := by
          have h2 := hcell 0 (by omega)
          have h3 : x.add 0 = x := by simp [Addr.add]
          rw [h3] at h2
          exact spot_none' h2
        obtain ⟨b, o, s⟩ := x
        simp only at hsp
        subst hsp
        refine Or.inr ⟨b, o, _, len, rfl, by rw [List.length_take]; omega, h0, fun i hi => ?_⟩
        rw [List.length_take] at hi
        have h2 := hcell i (by omega)
        rw [Addr.add_mid] at h2
        rw [h2, List.getElem_take]
        simp [List.getD, show i < ws.length by omega]
    · rw [List.length_take, Nat.min_eq_left hl2]
      exact Nat.le_trans (Nat.mul_le_mul_right _ hl2) z
theorem bools_of_trod {H : Type} {enc : TypeId × Value → H} {P : Program} {W : World} {base : Nat} {held : Bool} {t e : TypeId} {d : DataW H} {ps : List MemPlace} {fuel : Nat} {cs : List Value}
    (hu : P.underlying t = some (.slice e)) (he : P.underlying e = some .bool) (hc : P.cellsOf e = 1)
    (h : DataW.trod enc P W base (fun _ => true) held fuel t cs = some (d, ps)) : ∃ a len cap, cs = [.slice a len cap] ∧ len ≤ cap ∧ cap ≤ maxLen ∧ ∃ l : List Bool, Rd W Value.bool (.slice a len cap) l ∧ l.length = len := by
  rcases Deep.open_bools hu he hc h with ⟨hcs, _⟩ | ⟨x, len, c, B, hcs, _, hl, hm, _, hcell⟩
  · exact ⟨none, 0, 0, hcs, by omega, by omega, [], Or.inl ⟨_, _, rfl, rfl, fun _ => rfl⟩, rfl⟩
  · refine ⟨_, _, _, hcs, hl, hm, (List.range len).map B, ?_, by simp⟩
    rcases Nat.eq_zero_or_pos len with h0 | h0
    · subst h0
      exact Or.inl ⟨_, _, rfl, rfl, fun h => by cases h⟩
    · have hsp : x.spot = none := by
        have h2 := hcell 0 (by omega)
        have h3 : x.add 0 = x := by simp [Addr.add]
        rw [h3] at h2
        exact spot_none' h2
      obtain ⟨b, o, s⟩ := x
      simp only at hsp
      subst hsp
      refine Or.inr ⟨b, o, _, len, rfl, by simp, h0, fun i hi => ?_⟩
      have hi' : i < len := by simpa using hi
      have h2 := hcell i (by omega)
      rw [Addr.add_mid] at h2
      rw [h2]
      simp
theorem Rd.form' {α : Type} {w : World} {f : α → Value} {v : Value} {l : List α} (h : Rd w f v l) : ∃ a c, v = .slice a l.length c := by
  rcases h with ⟨a, c, rfl, rfl, _⟩ | ⟨b, o, c, n, rfl, rfl, _, h⟩
  · exact ⟨a, c, rfl⟩
  · exact ⟨_, c, rfl⟩
theorem bytes_of_trod {H : Type} {enc : TypeId × Value → H} {P : Program} {W : World} {base : Nat} {spare : Nat → Bool} {held : Bool} {t e : TypeId} {d : DataW H} {ps : List MemPlace} {fuel : Nat} {cs : List Value}
    (hw : ∀ m ∈ d.weights P t, m ≤ reachBytes) (hu : P.underlying t = some (.slice e)) (he : P.underlying e = some (.int .u8)) (hc : P.cellsOf e = 1) (hB : P.bytesOf e = 1)
    (h : DataW.trod enc P W base spare held fuel t cs = some (d, ps)) : ∃ a len cap, cs = [.slice a len cap] ∧ len ≤ cap ∧ cap ≤ maxLen ∧ ∃ l : List (BitVec 8), Rd W cb (.slice a len cap) l ∧ l.length = len ∧ len ≤ 140737488351232 := by
  have hcap : ∃ a len cap, cs = [.slice a len cap] ∧ len ≤ cap ∧ cap ≤ maxLen := by
    rcases open_ints hu he hc h with ⟨hcs, _⟩ | ⟨x, l, c, zs, hcs, _, hl, hm, _⟩
    · exact ⟨_, _, _, hcs, by omega, by omega⟩
    · exact ⟨_, _, _, hcs, hl, hm⟩
  obtain ⟨a, len, cap, e1, h1, h2⟩ := hcap
  obtain ⟨a', len', cap', e2, l, hr, hn⟩ := words_of_trod (k := .u8) (n := 8) (fun h => Bv_of8 h) hw hu he hc hB h
  rw [e1] at e2
  injection e2 with e2 _
  injection e2 with e2 e3 e4
  subst e2 e3 e4
  obtain ⟨_, _, e5⟩ := Rd.form' hr
  injection e5 with _ e6 _
  exact ⟨a, len, cap, e1, h1, h2, l, hr, e6.symm, by omega⟩
theorem arg_dops {H : Type} {enc : TypeId × Value → H} {P : Program} {W : World} {base : Nat} {held : Bool} {t e I TB E5 TK E4 : TypeId} {f0 f1 f2 f3 f4 f5 f6 : Field} {a : Option Addr} {len cap : Nat} {d : DataW H} {ps : List MemPlace}
    (hw : ∀ m ∈ d.weights P t, m ≤ reachBytes) (hu : P.underlying t = some (.slice e)) (hs : P.underlying e = some (.struct #[f0, f1, f2, f3, f4, f5, f6])) (hC : P.cellsOf e = 7) (hB : P.bytesOf e = 88)
    (e0 : f0.type = I ∧ f0.offset = 0) (e1 : f1.type = I ∧ f1.offset = 1) (e2 : f2.type = I ∧ f2.offset = 2) (e3 : f3.type = TB ∧ f3.offset = 3) (e4 : f4.type = TK ∧ f4.offset = 4) (e5 : f5.type = I ∧ f5.offset = 5) (e6 : f6.type = I ∧ f6.offset = 6)
    (hI : P.underlying I = some (.int .i64)) (cI : P.cellsOf I = 1) (hTB : P.underlying TB = some (.slice E5)) (cTB : P.cellsOf TB = 1) (hE5 : P.underlying E5 = some (.int .u8)) (cE5 : P.cellsOf E5 = 1) (bE5 : P.bytesOf E5 = 1)
    (hTK : P.underlying TK = some (.slice E4)) (cTK : P.cellsOf TK = 1) (hE4 : P.underlying E4 = some .bool) (cE4 : P.cellsOf E4 = 1)
    (h : DataW.Trod enc P W base (fun _ => true) held t (.slice a len cap) d ps) :
    ∃ l : List Dop, RdO W (.slice a len cap) l ∧ l.length * 88 ≤ 140737488351232 ∧ ∀ o ∈ l, o.ok W := by
  obtain ⟨e00, e01⟩ := e0
  obtain ⟨e10, e11⟩ := e1
  obtain ⟨e20, e21⟩ := e2
  obtain ⟨e30, e31⟩ := e3
  obtain ⟨e40, e41⟩ := e4
  obtain ⟨e50, e51⟩ := e5
  obtain ⟨e60, e61⟩ := e6
  have hone : ∀ f ∈ [f0, f1, f2, f3, f4, f5, f6], P.cellsOf f.type = 1 ∧ f.offset < 7 := fun f hf => by
    simp only [List.mem_cons, List.not_mem_nil, or_false] at hf
    rcases hf with rfl | rfl | rfl | rfl | rfl | rfl | rfl
    · exact ⟨by rw [e00]; exact cI, by omega⟩
    · exact ⟨by rw [e10]; exact cI, by omega⟩
    · exact ⟨by rw [e20]; exact cI, by omega⟩
    · exact ⟨by rw [e30]; exact cTB, by omega⟩
    · exact ⟨by rw [e40]; exact cTK, by omega⟩
    · exact ⟨by rw [e50]; exact cI, by omega⟩
    · exact ⟨by rw [e60]; exact cI, by omega⟩
  obtain ⟨h1, hn, h2⟩ := arg_structs hw hu hs hC hB (fun j f hj => hone f (by
    have : f ∈ #[f0, f1, f2, f3, f4, f5, f6] := Array.mem_of_getElem? hj
    simpa using this)) ⟨f0, rfl, e01⟩ h
  have each : ∀ i, ∃ q : Dop, i < len → (∃ b o, a = some ⟨b, o, none⟩ ∧ OpAt W b (o + i * 7) q) ∧ q.ok W := by
    intro i
    by_cases hi : i < len
    · obtain ⟨b, o, rfl, hf⟩ := h2 i hi
      obtain ⟨v0, y0, n0, c0, t0, _⟩ := hf 0 f0 rfl
      obtain ⟨v1, y1, n1, c1, t1, _⟩ := hf 1 f1 rfl
      obtain ⟨v2, y2, n2, c2, t2, _⟩ := hf 2 f2 rfl
      obtain ⟨v3, y3, n3, c3, t3, q3⟩ := hf 3 f3 rfl
      obtain ⟨v4, y4, n4, c4, t4, _⟩ := hf 4 f4 rfl
      obtain ⟨v5, y5, n5, c5, t5, _⟩ := hf 5 f5 rfl
      obtain ⟨v6, y6, n6, c6, t6, _⟩ := hf 6 f6 rfl
      rw [e00] at t0
      rw [e10] at t1
      rw [e20] at t2
      rw [e30] at t3 q3
      rw [e40] at t4
      rw [e50] at t5
      rw [e60] at t6
      obtain ⟨z0, rfl, w0⟩ := one_int hI t0
      obtain ⟨z1, rfl, w1⟩ := one_int hI t1
      obtain ⟨z2, rfl, w2⟩ := one_int hI t2
      obtain ⟨z5, rfl, w5⟩ := one_int hI t5
      obtain ⟨z6, rfl, w6⟩ := one_int hI t6
      obtain ⟨a3, l3, k3, x3, _, _, d3, r3, s3, m3⟩ := bytes_of_trod (d := y3.1) (ps := y3.2) q3 hTB hE5 cE5 bE5 t3
      obtain ⟨a4, l4, k4, x4, p4, p4', d4, r4, s4⟩ := bools_of_trod (d := y4.1) (ps := y4.2) hTK hE4 cE4 t4
      injection x3 with x3 _
      injection x4 with x4 _
      subst x3 x4
      rw [e01] at c0
      rw [e11] at c1
      rw [e21] at c2
      rw [e31] at c3
      rw [e41] at c4
      rw [e51] at c5
      rw [e61] at c6
      exact ⟨⟨z0, z1, z2, _, d3, _, d4, z5, z6⟩, fun _ => ⟨⟨b, o, rfl, by simpa using c0, c1, c2, c3, c4, c5, c6⟩, i64_of w1, i64_of w2, i64_of w0, i64_of w5, i64_of w6, r3, by show d3.length ≤ _; omega, r4, by show d4.length ≤ _; unfold maxLen at p4'; omega⟩⟩
    · exact ⟨⟨0, 0, 0, undef, [], undef, [], 0, 0⟩, fun h => absurd h hi⟩
  obtain ⟨q, hq⟩ := Classical.axiomOfChoice each
  refine ⟨(List.range len).map q, ?_, by simpa using h1, fun o ho => ?_⟩
  · rcases Nat.eq_zero_or_pos len with h0 | h0
    · subst h0
      exact Or.inl ⟨_, _, rfl, rfl⟩
    · obtain ⟨⟨b, o, hbo, _⟩, _⟩ := hq 0 h0
      subst hbo
      refine Or.inr ⟨b, o, _, len, rfl, by simp, h0, fun i hi => ?_⟩
      have hi' : i < len := by simpa using hi
      obtain ⟨⟨b', o', he, c⟩, _⟩ := hq i hi'
      injection he with he
      injection he with e1 e2 _
      subst e1 e2
      simpa using c
  · obtain ⟨i, hi, rfl⟩ := List.mem_map.1 ho
    exact (hq i (by simpa using hi)).2
end Go.Proofs.Ytjcbmlpfpcpakaa
