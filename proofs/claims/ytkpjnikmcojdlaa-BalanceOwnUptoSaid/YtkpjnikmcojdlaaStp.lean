/- Append as one step of a region that draws; a row copied. No program in sight. -/
import Derived.Test.YtkpjnikmcojdlaaGen
import Derived.Laws.OwnMore
namespace Go.Proofs.Ytkpjnikmcojdlaa
open Go.RowKit
set_option linter.unusedVariables false

/-- append, as one step of a region that draws -/
theorem step_append_rd {P : Program} {α : Type} (f : α → Value) (hf1 : ∀ a, (f a).oneCell' = true) {ops : Array Oper} {o : Oper} {a : Act} {w : World} {K : Act → World → Prop} {Q : Exit → Act → World → Prop} {E : Prop} (hgd : o.guard = none) (s x : Operand) (t : TypeId)
    (ho : o.op = .call { callee := .builtin .append, args := #[s, x], argTypes := #[t, t] })
    (B : Nat) (e : TypeId) (i : TypeInfo) (z : α) (bytes : Nat) (ht : P.underlying t = some (.slice e)) (hi : P.info? e = some i) (hz : i.zero = some (f z))
    (hsize : i.size = 1) (hby : i.bytes = bytes) (hzs : (f z).cells.size = 1)
    (v : Value) (l : List α) (hs : a.eval s = v) (hown : Own w B e f v l) (sv : Value) (m : List α) (hx : a.eval x = sv) (hm : Rd w f sv m)
    (hbytes : (l.length + m.length) * bytes ≤ 140737488355328) (h63 : l.length + m.length ≤ 9223372036854775807) (hB : B ≤ w.heap.size)
    (h : ∀ v' w', Own w' B e f v' (l ++ m) → w.grownBy w' v.ownBlock → (v'.ownBlock = v.ownBlock ∨ v'.ownBlock = some w.heap.size) → K (a.put o.dst v') w') :
    if Region.wanted o (yielded ops a.tmps) = true then Oper.wp P o a w K Q else E := by
  have hw : Region.wanted o (yielded ops a.tmps) = true := by simp [Region.wanted, hgd]
  rw [if_pos hw]
  have hmx : l.length + m.length ≤ maxLen := by unfold maxLen; omega
  have fin : ∀ v' w', w'.ownsRow B e 1 v' (l.length + m.length) (l.map f ++ m.map f) → Own w' B e f v' (l ++ m) := fun v' w' h => by
    unfold Own; rw [List.length_append, List.map_append]; exact h
  have go : ∀ ad c, sv = .slice (some ad) m.length c → (∀ j u, (m.map f)[j]? = some u → w.cell? (ad.add j) = some u) → Oper.wp P o a w K Q := fun ad c hsv hnews => by
    obtain ⟨v', w', hr, h2, h3, _, h5⟩ := run_append_own_at (P := P) w B t o.type e i (f z) 1 bytes ht hi hz hsize hby hzs (by decide) v l.length (l.map f) hown ad m.length c (m.map f) (by simp) hnews (fun u hu => by
      obtain ⟨y, _, rfl⟩ := List.mem_map.1 hu
      exact hf1 y) hmx hbytes hB
    subst hsv
    unfold Oper.wp execOp
    simp only [ho, resolve, invoke, builtin, Sem.run_bind, Sem.run_pure, Result.andThen_ok, List.map_toArray, List.map_cons, List.map_nil, hs, hx, hr]
    exact h v' w' (fin v' w' h2) h3 h5
  rcases hm with ⟨ao, c, rfl, rfl, hc0⟩ | ⟨b, off, c, n, rfl, hn, hp, hc⟩
  · cases ao with
    | some ad => exact go ad c rfl (fun j u hj => by simp at hj)
    | none =>
      obtain rfl := hc0 rfl
      have hrun := run_append_owned_none (P := P) (w := w) B t o.type e i 1 ht hi v l.length (l.map f) hown
      unfold Oper.wp
      simp [execOp, ho, resolve, invoke, builtin, hs, hx, hrun, Result.andThen]
      exact h v w (by rw [List.append_nil]; exact hown) (World.grownBy.refl _ _) (Or.inl rfl)
  · subst hn
    exact go ⟨b, off, none⟩ c rfl (fun j u hu => by
      obtain ⟨hj, rfl⟩ := List.getElem?_eq_some_iff.1 hu
      rw [Addr.add_mid, hc j (by simpa using hj), List.getElem_map])
/-- 'append([]T{}, x...)': the same list, in memory of its own; all that was there stays -/
theorem run_copy {P : Program} {α : Type} (f : α → Value) (hf1 : ∀ a, (f a).oneCell' = true) (w : World) (B : Nat) (t ty e : TypeId) (i : TypeInfo) (z : α) (bytes : Nat) (ht : P.underlying t = some (.slice e)) (hi : P.info? e = some i) (hz : i.zero = some (f z))
    (hsize : i.size = 1) (hby : i.bytes = bytes) (hzs : (f z).cells.size = 1) (b : Nat) (hown : Own w B e f (.slice (some ⟨b, 0, none⟩) 0 0) []) (hB : B ≤ w.heap.size) (sv : Value) (m : List α) (hm : Rd w f sv m)
    (hbytes : m.length * bytes ≤ 140737488355328) (h63 : m.length ≤ 9223372036854775807) :
    ∃ v' w', (Builtin.append_ #[t, t] ty #[.slice (some ⟨b, 0, none⟩) 0 0, sv]).run P w = .ok v' w' ∧ Own w' B e f v' m ∧ Ext w w' := by
  obtain ⟨_, ⟨h0, _⟩ | ⟨g, cap, cur, h2, hBg, hg, _, _, hcs, _⟩⟩ := id hown
  · cases h0
  injection h2 with h2 _ h3
  injection h2 with h2
  injection h2 with h2
  subst h2 h3
  have hc0 : cur = #[] := Array.eq_empty_of_size_eq_zero (by simpa using hcs)
  subst hc0
  have same : w.setRow b #[] = w := by
    have hs : w.heap.modify b (fun o => match o with | .cells _ t r => .cells #[] t r | o => o) = w.heap := by
      apply Array.ext_getElem?
      intro k
      rw [Array.getElem?_modify]
      split
      · next e => subst e; rw [hg]; rfl
      · rfl
    cases w
    simp only [World.setRow]
    congr 1
  have go : ∀ ad c, sv = .slice (some ad) m.length c → (∀ j u, (m.map f)[j]? = some u → w.cell? (ad.add j) = some u) → ∃ v' w', (Builtin.append_ #[t, t] ty #[.slice (some ⟨b, 0, none⟩) 0 0, sv]).run P w = .ok v' w' ∧ Own w' B e f v' m ∧ Ext w w' := fun ad c hsv hnews => by
    subst hsv
    have hone : ∀ u ∈ m.map f, u.oneCell' = true := fun u hu => by
      obtain ⟨y, _, rfl⟩ := List.mem_map.1 hu
      exact hf1 y
    obtain ⟨v', w', hr, h1, h3, _, _⟩ := run_append_own_at (P := P) w B t ty e i (f z) 1 bytes ht hi hz hsize hby hzs (by decide) _ 0 [] hown ad m.length c (m.map f) (by simp) hnews hone (by unfold maxLen; omega) (by simpa using hbytes) hB
    refine ⟨v', w', hr, by unfold Own; simpa using h1, ?_⟩
    by_cases h0 : m.length = 0
    · have hm0 : m = [] := List.eq_nil_of_length_eq_zero h0
      subst hm0
      have hr2 := run_append_room (P := P) w t ty e i ht hi b 0 0 #[] hg ad 0 c [] (by simp) (by simp) (by simp) (Nat.le_refl _) (by simp)
      have hw : w' = w.setRow b #[] := by
        simp only [List.length_nil] at hr
        rw [hr] at hr2
        injection hr2 with _ hw
        simpa using hw
      rw [hw, same]
      exact Ext.refl w
    · have hr2 := run_append_grow (P := P) w t ty e i (f z) ht hi hz ⟨b, 0, none⟩ 0 0 [] (by simp) (by simp) ad m.length c (m.map f) (by rw [hsize]; simp) hnews (by omega) (by omega) (by rw [hby]; exact growslice_fits (by omega) (by simpa using hbytes))
      rw [hr] at hr2
      injection hr2 with _ hw
      subst hw
      exact (Ext.refl w).drew.alloc _
  rcases hm with ⟨ao, c, rfl, rfl, hc0⟩ | ⟨b', off, c, n, rfl, hn, hp, hc⟩
  · cases ao with
    | some ad => exact go ad c rfl (fun j u hj => by simp at hj)
    | none =>
      obtain rfl := hc0 rfl
      have hrun := run_append_owned_none (P := P) (w := w) B t ty e i 1 ht hi _ 0 [] hown
      exact ⟨_, w, hrun, hown, Ext.refl w⟩
  · subst hn
    exact go ⟨b', off, none⟩ c rfl (fun j u hu => by
      obtain ⟨hj, rfl⟩ := List.getElem?_eq_some_iff.1 hu
      rw [Addr.add_mid, hc j (by simpa using hj), List.getElem_map])
theorem step_copy {P : Program} {α : Type} (f : α → Value) (hf1 : ∀ a, (f a).oneCell' = true) {ops : Array Oper} {o : Oper} {a : Act} {w : World} {K : Act → World → Prop} {Q : Exit → Act → World → Prop} {E : Prop} (hgd : o.guard = none) (s x : Operand) (t : TypeId)
    (ho : o.op = .call { callee := .builtin .append, args := #[s, x], argTypes := #[t, t] })
    (B : Nat) (e : TypeId) (i : TypeInfo) (z : α) (bytes : Nat) (ht : P.underlying t = some (.slice e)) (hi : P.info? e = some i) (hz : i.zero = some (f z))
    (hsize : i.size = 1) (hby : i.bytes = bytes) (hzs : (f z).cells.size = 1)
    (b : Nat) (hs : a.eval s = .slice (some ⟨b, 0, none⟩) 0 0) (hown : Own w B e f (.slice (some ⟨b, 0, none⟩) 0 0) []) (hB : B ≤ w.heap.size) (sv : Value) (m : List α) (hx : a.eval x = sv) (hm : Rd w f sv m)
    (hbytes : m.length * bytes ≤ 140737488355328) (h63 : m.length ≤ 9223372036854775807)
    (h : ∀ v' w', Own w' B e f v' m → Ext w w' → K (a.put o.dst v') w') :
    if Region.wanted o (yielded ops a.tmps) = true then Oper.wp P o a w K Q else E := by
  have hw : Region.wanted o (yielded ops a.tmps) = true := by simp [Region.wanted, hgd]
  rw [if_pos hw]
  obtain ⟨v', w', hr, h1, h2⟩ := run_copy (P := P) f hf1 w B t o.type e i z bytes ht hi hz hsize hby hzs b hown hB sv m hm hbytes h63
  unfold Oper.wp execOp
  simp only [ho, resolve, invoke, builtin, Sem.run_bind, Sem.run_pure, Result.andThen_ok, List.map_toArray, List.map_cons, List.map_nil, hs, hx, hr]
  exact h v' w' h1 h2
end Go.Proofs.Ytkpjnikmcojdlaa
