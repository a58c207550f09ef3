/- An append for which there is room, its block told. No program in sight. -/
import Derived.Test.YtjcbmlpfpcpakaaExt
namespace Go.Proofs.Ytjcbmlpfpcpakaa
open Go.RowKit
set_option linter.unusedVariables false

/-- 'append(v, x...)' where the elements fit into the block that is there -/
theorem wpList_append_room {P : Program} {α : Type} (f : α → Value) (hf1 : ∀ a, (f a).oneCell' = true) {ops : Array Oper} {rest : List Oper} {o : Oper} {a : Act} {w : World} {Q : Exit → Act → World → Prop} (hgd : o.guard = none) (s x : Operand) (t : TypeId)
    (ho : o.op = .call { callee := .builtin .append, args := #[s, x], argTypes := #[t, t] })
    (e : TypeId) (i : TypeInfo) (ht : P.underlying t = some (.slice e)) (hi : P.info? e = some i) (hsize : i.size = 1)
    (g n c : Nat) (L : List α) (hb : Blk w g (V f L) e) (hs : a.eval s = .slice (some ⟨g, 0, none⟩) n c) (sv : Value) (m : List α) (hx : a.eval x = sv) (hm : Rd w f sv m)
    (hc : n + m.length ≤ c) (hL : n + m.length ≤ L.length)
    (h : ∀ w', Blk w' g (V f (L.take n ++ m ++ L.drop (n + m.length))) e → w.grownBy w' (some g) → wpList P ops Q rest (a.put o.dst (.slice (some ⟨g, 0, none⟩) (n + m.length) c)) w') : wpList P ops Q (o :: rest) a w := by
  refine wpList_plain hgd fun K hK => ?_
  have key : ∀ (ad : Addr) (c' : Nat), sv = .slice (some ad) m.length c' → (∀ j u, (m.map f)[j]? = some u → w.cell? (ad.add j) = some u) → o.wp P a w K Q := by
    intro ad c' hsv hnews
    have hr := run_append_room (P := P) w t o.type e i ht hi g n c (V f L) hb ad m.length c' (m.map f) (by rw [hsize]; simp) hnews
      (fun u hu => by obtain ⟨y, _, rfl⟩ := List.mem_map.1 hu; exact hf1 y) hc (by rw [hsize, V_size]; simpa using hL)
    have hrow : ((V f L).toList.take (n * i.size) ++ m.map f ++ (V f L).toList.drop (n * i.size + (m.map f).length)).toArray = V f (L.take n ++ m ++ L.drop (n + m.length)) := by
      apply Array.ext'
      rw [V_toList, V_toList, hsize]
      simp [List.map_take, List.map_drop]
    rw [hrow] at hr
    unfold Oper.wp execOp
    simp only [ho, resolve, invoke, builtin, Sem.run_bind, Sem.run_pure, Result.andThen_ok, List.map_toArray, List.map_cons, List.map_nil, hs, hx, hsv, hr]
    exact hK _ _ (h _ (setRow_heap w g _ _ e (0, 0) hb) ⟨rfl, rfl, rfl, by simp [World.setRow], fun k _ hk => setRow_other w g k _ (fun e => hk (by rw [e]))⟩)
  rcases hm with ⟨ao, c', rfl, rfl, hc0⟩ | ⟨b, off, c', k, rfl, hn, hp, hcell⟩
  · cases ao with
    | some ad => exact key ad c' rfl (fun j u hu => by simp at hu)
    | none =>
      have hn' : n ≤ c := by simpa using hc
      have h' := h w (by simpa using hb) ⟨rfl, rfl, rfl, Nat.le_refl _, fun _ _ _ => rfl⟩
      unfold Oper.wp execOp
      simp only [ho, resolve, invoke, builtin, Sem.run_bind, Sem.run_pure, Result.andThen_ok, List.map_toArray, List.map_cons, List.map_nil, hs, hx]
      simp [Builtin.append_, run_underlying ht, sizeOf, typeInfo, hi, Builtin.lenOf, Builtin.firstCells, hn', storeCells]
      exact hK _ _ (by simpa using h')
  · subst hn
    refine key ⟨b, off, none⟩ c' rfl (fun j u hu => ?_)
    obtain ⟨hj, rfl⟩ := List.getElem?_eq_some_iff.1 hu
    rw [Addr.add_mid, hcell j (by simpa using hj), List.getElem_map]
end Go.Proofs.Ytjcbmlpfpcpakaa
