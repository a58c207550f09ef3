/- How a case (loads, owners, servers) that came in is told. -/
import Derived.Test.YtkpjnikmcojdlaaOpnI
namespace Go.Proofs.Ytkpjnikmcojdlaa
open Go.RowKit Go.ChangeShapes Go.WideShapes Go.ChangeAt
set_option linter.unusedVariables false

theorem words_of {n : Nat} {k : IntKind} (hk : ∀ {a : Int}, (Lit.int k a).wf = true → ∃ x : BitVec n, a = Bv x) : ∀ zs : List Int, (∀ a ∈ zs, (Lit.int k a).wf = true) → ∃ l : List (BitVec n), zs = l.map Bv
  | [], _ => ⟨[], rfl⟩
  | a :: zs, h => by
    obtain ⟨x, rfl⟩ := hk (h a (by simp))
    obtain ⟨l, rfl⟩ := words_of hk zs (fun b hb => h b (by simp [hb]))
    exact ⟨x :: l, rfl⟩
theorem words_of_trod {n : Nat} {k : IntKind} (hk : ∀ {a : Int}, (Lit.int k a).wf = true → ∃ x : BitVec n, a = Bv x) {H : Type} {enc : TypeId × Value → H} {P : Program} {W : World} {base : Nat} {spare : Nat → Bool} {held : Bool} {t e : TypeId} {d : DataW H} {ps : List MemPlace} {fuel : Nat} {cs : List Value}
    (hw : ∀ m ∈ d.weights P t, m ≤ reachBytes) (hu : P.underlying t = some (.slice e)) (he : P.underlying e = some (.int k)) (hc : P.cellsOf e = 1) {B : Nat} (hB : P.bytesOf e = B)
    (h : DataW.trod enc P W base spare held fuel t cs = some (d, ps)) : ∃ a len cap, cs = [.slice a len cap] ∧ ∃ l : List (BitVec n), Rd W (fun x => .int k (Bv x)) (.slice a len cap) l ∧ l.length * B ≤ 140737488351232 := by
  rcases open_ints hu he hc h with ⟨hcs, _⟩ | ⟨x, len, c, zs, hcs, _, hl, _, hz, hx, hcell, hwz⟩
  · exact ⟨none, 0, 0, hcs, [], Or.inl ⟨_, _, rfl, rfl, fun _ => rfl⟩, by simp⟩
  · refine ⟨_, _, _, hcs, ?_⟩
    obtain ⟨hx, _⟩ := Prod.mk.inj hx
    subst hx
    have z := hw ((((lits (H := H) k (zs.take len)).length + (lits (H := H) k (zs.drop len)).length)) * P.bytesOf e) (by simp [DataW.weights, hu])
    rw [hB] at z
    have hl2 : len ≤ zs.length := by
      rw [hz]
      split
      · exact hl
      · exact Nat.le_refl _
    have h1 : (lits (H := H) k (zs.take len)).length + (lits (H := H) k (zs.drop len)).length = zs.length := by
      simp [lits]
      omega
    rw [h1] at z
    obtain ⟨ws, rfl⟩ := words_of hk zs hwz
    rw [List.length_map] at hl2 z hcell
    refine ⟨ws.take len, ?_, ?_⟩
    · rcases Nat.eq_zero_or_pos len with h0 | h0
      · subst h0
        exact Or.inl ⟨_, _, rfl, by simp, fun h => by cases h⟩
      · have hsp : x.spot = none := by
          have h2 := hcell 0 (by omega)
          have h3 : x.add 0 = x := by simp [Addr.add]
          rw [h3] at h2
          exact spot_none h2
        obtain ⟨b, o, s⟩ := x
        simp only at hsp
        subst hsp
        refine Or.inr ⟨b, o, _, len, rfl, by rw [List.length_take]; omega, h0, fun i hi => ?_⟩
        rw [List.length_take] at hi
        have h2 := hcell i (by omega)
        rw [Addr.add_mid] at h2
        rw [h2, List.getElem_take]
        simp [List.getD, show i < ws.length by omega]
    · rw [List.length_take, Nat.min_eq_left hl2]
      exact Nat.le_trans (Nat.mul_le_mul_right _ hl2) z
theorem ints_of_trod {H : Type} {enc : TypeId × Value → H} {P : Program} {W : World} {base : Nat} {spare : Nat → Bool} {held : Bool} {t e : TypeId} {d : DataW H} {ps : List MemPlace} {fuel : Nat} {cs : List Value}
    (hw : ∀ m ∈ d.weights P t, m ≤ reachBytes) (hu : P.underlying t = some (.slice e)) (he : P.underlying e = some (.int .i64)) (hc : P.cellsOf e = 1) (hB : P.bytesOf e = 8)
    (h : DataW.trod enc P W base spare held fuel t cs = some (d, ps)) : ∃ a len cap, cs = [.slice a len cap] ∧ ∃ l : List Int, Rd W ci (.slice a len cap) l ∧ l.length * 8 ≤ 140737488351232 := by
  rcases open_ints hu he hc h with ⟨hcs, _⟩ | ⟨x, len, c, zs, hcs, _, hl, _, hz, hx, hcell, hwz⟩
  · exact ⟨none, 0, 0, hcs, [], Or.inl ⟨_, _, rfl, rfl, fun _ => rfl⟩, by simp⟩
  · refine ⟨_, _, _, hcs, ?_⟩
    obtain ⟨hx, _⟩ := Prod.mk.inj hx
    subst hx
    have z := hw ((((lits (H := H) .i64 (zs.take len)).length + (lits (H := H) .i64 (zs.drop len)).length)) * P.bytesOf e) (by simp [DataW.weights, hu])
    rw [hB] at z
    have hl2 : len ≤ zs.length := by
      rw [hz]
      split
      · exact hl
      · exact Nat.le_refl _
    have h1 : (lits (H := H) .i64 (zs.take len)).length + (lits (H := H) .i64 (zs.drop len)).length = zs.length := by
      simp [lits]
      omega
    rw [h1] at z
    refine ⟨zs.take len, ?_, ?_⟩
    · rcases Nat.eq_zero_or_pos len with h0 | h0
      · subst h0
        exact Or.inl ⟨_, _, rfl, by simp, fun h => by cases h⟩
      · have hsp : x.spot = none := by
          have h2 := hcell 0 (by omega)
          rw [show x.add 0 = x by simp [Addr.add]] at h2
          exact spot_none h2
        obtain ⟨b, o, s⟩ := x
        simp only at hsp
        subst hsp
        refine Or.inr ⟨b, o, _, len, rfl, by rw [List.length_take]; omega, h0, fun i hi => ?_⟩
        rw [List.length_take] at hi
        have h2 := hcell i (by omega)
        rw [Addr.add_mid] at h2
        rw [h2, List.getElem_take]
        simp [List.getD, show i < zs.length by omega]
    · rw [List.length_take, Nat.min_eq_left hl2]
      have : reachBytes = 140737488351232 := rfl
      omega
theorem arg_case {H : Type} {enc : TypeId × Value → H} {P : Program} {W : World} {base b0 : Nat} {rr : Reach} {spare : Nat → Bool} {held : Bool} {t T0 E0 T1 T2 : TypeId} {f0 f1 f2 : Field} {v : Value} {d : DataW H} {ps : List MemPlace} {ts : List TypeId} {ds : List (DataW H)} {j : Nat}
    (hsz : (DataW.weightsEach P ts ds).all (· ≤ reachBytes) = true) (ht : ts[j]? = some t) (hd : ds[j]? = some d) (hs : P.underlying t = some (.struct #[f0, f1, f2]))
    (e0 : f0.type = T0 ∧ f0.offset = 0) (e1 : f1.type = T1 ∧ f1.offset = 1) (e2 : f2.type = T2 ∧ f2.offset = 2)
    (hT0 : P.underlying T0 = some (.slice E0)) (hE0 : P.underlying E0 = some (.int .u64)) (hT1 : P.underlying T1 = some (.slice T2)) (hT2 : P.underlying T2 = some (.int .i64))
    (c3 : P.cellsOf t = 3) (c0 : P.cellsOf T0 = 1) (c1 : P.cellsOf T1 = 1) (c2 : P.cellsOf T2 = 1) (cE : P.cellsOf E0 = 1) (bE : P.bytesOf E0 = 8) (b2 : P.bytesOf T2 = 8)
    (hval : Value.okWide P W rr b0 t v) (h : DataW.Trod enc P W base spare held t v d ps) :
    ∃ lv ov s l ow, v = .agg #[lv, ov, ci s] ∧ Rd W cw lv l ∧ Rd W ci ov ow ∧ l.length * 8 ≤ 140737488351232 ∧ ow.length * 8 ≤ 140737488351232 ∧ -9223372036854775808 ≤ s ∧ s ≤ 9223372036854775807 := by
  have ha : ∃ cs, v = .agg cs := by
    simp only [Value.okWide, hs] at hval
    obtain ⟨cs, h1, _⟩ := hval
    exact ⟨cs, h1⟩
  obtain ⟨cs, rfl⟩ := ha
  obtain ⟨fuel, hf⟩ := h
  obtain ⟨e00, e01⟩ := e0
  obtain ⟨e10, e11⟩ := e1
  obtain ⟨e20, e21⟩ := e2
  have hw : ∀ m ∈ d.weights P t, m ≤ reachBytes := fun m hm => by
    have := List.all_eq_true.1 hsz _ (DataW.weights_mem_each ht hd m hm)
    simpa using this
  obtain ⟨y0, y1, y2, n', hD, hlen, t0, t1, t2⟩ := Deep.trod_struct3 hs hf
  have hDD : d = .agg [y0.1, y1.1, y2.1] := congrArg Prod.fst hD
  rw [c3] at hlen
  have hcl : (Value.agg cs).cells.toList = cs.toList := rfl
  rw [hcl] at hlen t0 t1 t2
  obtain ⟨a, b, c, hl3⟩ : ∃ a b c, cs.toList = [a, b, c] := by
    match cs.toList, hlen with
    | [a, b, c], _ => exact ⟨a, b, c, rfl⟩
  rw [hl3, e00, e01, c0] at t0
  rw [hl3, e10, e11, c1] at t1
  rw [hl3, e20, e21, c2] at t2
  simp only [List.drop_zero, List.drop_succ_cons, List.take_succ_cons, List.take_zero] at t0 t1 t2
  have hww : ∀ m, (m ∈ y0.1.weights P T0 ∨ m ∈ y1.1.weights P T1) → m ≤ reachBytes := fun m hm => hw m (by
    rw [hDD]
    simp only [DataW.weights, hs, DataW.weightsEach, List.map_cons, List.map_nil, e00, e10]
    simp
    rcases hm with hm | hm
    · exact Or.inl hm
    · exact Or.inr (Or.inl hm))
  obtain ⟨a1, l1, c1', hv1, l, hq1, hql1⟩ := words_of_trod (d := y0.1) (ps := y0.2) (fun h => Bv_of64 h) (fun m hm => hww m (Or.inl hm)) hT0 hE0 cE bE t0
  obtain ⟨a2, l2, c2', hv2, ow, hq2, hql2⟩ := ints_of_trod (d := y1.1) (ps := y1.2) (fun m hm => hww m (Or.inr hm)) hT1 hT2 c2 b2 t1
  obtain ⟨k2, hk2, _, hwf⟩ := DataW.trod_int hT2 t2
  simp at hv1 hv2 hk2
  subst hv1 hv2 hk2
  have hb := i64_of hwf
  refine ⟨_, _, k2, l, ow, ?_, hq1, hq2, hql1, hql2, hb.1, hb.2⟩
  congr 1
  apply Array.ext'
  rw [hl3]
end Go.Proofs.Ytkpjnikmcojdlaa
