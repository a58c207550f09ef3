/- How a script of steps with streams came in is told. -/
import Derived.Test.YtbamkkbdcodafaaOpp
import Derived.Deep.Strs
namespace Go.Proofs.Ytbamkkbdcodafaa
open Go.RowKit Go.ChangeShapes Go.WideShapes Go.ChangeAt
set_option linter.unusedVariables false

theorem cells_three {w : World} {base : Nat} {a : Addr} {l : List Value} (h : w.cells? base a 3 = some l) : ∃ x y z, l = [x, y, z] ∧ w.cell? (a.add 0) = some x ∧ w.cell? (a.add 1) = some y ∧ w.cell? (a.add 2) = some z := by
  unfold World.cells? at h
  split at h
  · simp [List.range_succ, List.mapM_cons, List.mapM_nil] at h
    cases h0 : w.cell? (a.add 0) with
    | none => simp [h0] at h
    | some x =>
      cases h1 : w.cell? (a.add 1) with
      | none => simp [h0, h1] at h
      | some y =>
        cases h2 : w.cell? (a.add 2) with
        | none => simp [h0, h1, h2] at h
        | some z =>
          simp [h0, h1, h2] at h
          exact ⟨x, y, z, h.symm, rfl, rfl, rfl⟩
  · cases h
theorem arg_ops {H : Type} {enc : TypeId × Value → H} {P : Program} {W : World} {base : Nat} {spare : Nat → Bool} {held : Bool} {t e T0 T1 T2 TB : TypeId} {f0 f1 f2 : Field} {a : Option Addr} {len cap : Nat} {d : DataW H} {ps : List MemPlace} {ts : List TypeId} {ds : List (DataW H)} {j : Nat}
    (hsz : (DataW.weightsEach P ts ds).all (· ≤ reachBytes) = true) (ht : ts[j]? = some t) (hd : ds[j]? = some d) (hu : P.underlying t = some (.slice e)) (hs : P.underlying e = some (.struct #[f0, f1, f2]))
    (e0 : f0.type = T0 ∧ f0.offset = 0) (e1 : f1.type = T1 ∧ f1.offset = 1) (e2 : f2.type = T2 ∧ f2.offset = 2) (hT0 : P.underlying T0 = some (.int .i64)) (hT1 : P.underlying T1 = some (.slice TB)) (hTB : P.underlying TB = some (.int .u8)) (hT2 : P.underlying T2 = some .bool)
    (c3 : P.cellsOf e = 3) (c0 : P.cellsOf T0 = 1) (c1 : P.cellsOf T1 = 1) (c2 : P.cellsOf T2 = 1) (cB : P.cellsOf TB = 1) (hB : P.bytesOf e = 40) (hB2 : P.bytesOf TB = 1)
    (h : DataW.Trod enc P W base spare held t (.slice a len cap) d ps) :
    ∃ (wh : Nat → Int) (dv : Nat → Value) (dt : Nat → List (BitVec 8)) (ak : Nat → Bool), len * 40 ≤ 140737488351232 ∧ ∀ i, i < len → (∃ b o, a = some ⟨b, o, none⟩ ∧ W.cell? ⟨b, o + i * 3, none⟩ = some (.int .i64 (wh i)) ∧ W.cell? ⟨b, o + i * 3 + 1, none⟩ = some (dv i) ∧ W.cell? ⟨b, o + i * 3 + 2, none⟩ = some (.bool (ak i))) ∧
      Rd W cb (dv i) (dt i) ∧ (dt i).length ≤ 140737488351232 ∧ -9223372036854775808 ≤ wh i ∧ wh i ≤ 9223372036854775807 := by
  obtain ⟨fuel, hf⟩ := h
  obtain ⟨e00, e01⟩ := e0
  obtain ⟨e10, e11⟩ := e1
  obtain ⟨e20, e21⟩ := e2
  have hw : ∀ m ∈ d.weights P t, m ≤ reachBytes := fun m hm => by
    have := List.all_eq_true.1 hsz _ (DataW.weights_mem_each ht hd m hm)
    simpa using this
  rcases Deep.open_slice hu hf with ⟨hcs, _⟩ | ⟨a', len', cap', m, n, D, Pl, hcs, _, hl, _, hm, hx, hcell⟩
  · simp [Value.cells] at hcs
    obtain ⟨rfl, rfl, rfl⟩ := hcs
    exact ⟨fun _ => 0, fun _ => undef, fun _ => [], fun _ => false, by omega, fun i hi => absurd hi (by omega)⟩
  · simp [Value.cells] at hcs
    obtain ⟨rfl, rfl, rfl⟩ := hcs
    obtain ⟨rfl, _⟩ := Prod.mk.inj hx
    have hlm : len ≤ m := by
      rw [hm]
      split
      · exact hl
      · exact Nat.le_refl _
    have hsp0 : 0 < len → a'.spot = none := fun h0 => by
      obtain ⟨cs, h1, _⟩ := hcell 0 (by omega)
      rw [c3] at h1
      obtain ⟨x, y, z, rfl, hx0, _⟩ := cells_three h1
      rw [show (a'.add (0 * 3)).add 0 = a' by simp [Addr.add]] at hx0
      exact spot_none hx0
    have each : ∀ i, ∃ q : Int × Value × List (BitVec 8) × Bool, i < len → (∃ b o, a' = ⟨b, o, none⟩ ∧ W.cell? ⟨b, o + i * 3, none⟩ = some (.int .i64 q.1) ∧ W.cell? ⟨b, o + i * 3 + 1, none⟩ = some q.2.1 ∧ W.cell? ⟨b, o + i * 3 + 2, none⟩ = some (.bool q.2.2.2)) ∧
        Rd W cb q.2.1 q.2.2.1 ∧ q.2.2.1.length ≤ 140737488351232 ∧ -9223372036854775808 ≤ q.1 ∧ q.1 ≤ 9223372036854775807 := by
      intro i
      by_cases hi : i < len
      · obtain ⟨cs, h1, h2⟩ := hcell i (by omega)
        rw [c3] at h1
        obtain ⟨x, y, z, rfl, hx0, hy0, hz0⟩ := cells_three h1
        obtain ⟨y0, y1, y2, n', hD, _, t0, t1, t2⟩ := Deep.trod_struct3 hs h2
        rw [e00, e01, c0] at t0
        rw [e10, e11, c1] at t1
        rw [e20, e21, c2] at t2
        obtain ⟨k0, hk0, _, hwf⟩ := DataW.trod_int hT0 t0
        obtain ⟨k2, hk2, _⟩ := DataW.trod_bool hT2 t2
        have hDD : D i = .agg [y0.1, y1.1, y2.1] := congrArg Prod.fst hD
        obtain ⟨a1, l1, cc1, hv, q, hq, hql⟩ := words_of_trod (d := y1.1) (ps := y1.2) (fun h => Bv_of8 h) (fun m hm => hw m (by
          simp only [DataW.weights, hu, List.mem_cons, List.mem_append]
          refine Or.inr (Or.inl (weights_all (List.mem_map.2 ⟨i, List.mem_range.2 hi, rfl⟩) m ?_))
          rw [hDD]
          simp only [DataW.weights, hs, DataW.weightsEach, List.map_cons, List.map_nil, e10]
          simp [hm])) hT1 hTB cB hB2 t1
        have hsp := hsp0 (by omega)
        obtain ⟨b, o, s⟩ := a'
        simp only at hsp
        subst hsp
        simp only [Addr.add_mid] at hx0 hy0 hz0
        have hwb := i64_of hwf
        simp at hk0 hk2 hv
        subst hk0 hk2 hv
        refine ⟨(k0, _, q, k2), fun _ => ⟨⟨b, o, rfl, ?_, ?_, ?_⟩, hq, by simpa using hql, hwb.1, hwb.2⟩⟩
        · simpa using hx0
        · exact hy0
        · exact hz0
      · exact ⟨(0, undef, [], false), fun h => absurd h hi⟩
    obtain ⟨q, hq⟩ := Classical.axiomOfChoice each
    refine ⟨fun i => (q i).1, fun i => (q i).2.1, fun i => (q i).2.2.1, fun i => (q i).2.2.2, ?_, fun i hi => ?_⟩
    · have z := hw ((((List.range len).map D).length + ((List.range (m - len)).map fun j => D (len + j)).length) * P.bytesOf e) (by simp [DataW.weights, hu])
      rw [hB] at z
      simp at z
      have : reachBytes = 140737488351232 := rfl
      omega
    · obtain ⟨⟨b, o, h1, h2, h3, h4⟩, h5⟩ := hq i hi
      exact ⟨⟨b, o, by rw [h1], h2, h3, h4⟩, h5⟩
end Go.Proofs.Ytbamkkbdcodafaa
