/- Laws for rows of the call's own: one element more, their shape, their types; reading calls. No program in sight. -/
import Derived.Test.YtjcbmlpfpcpakaaExt
import Derived.Maps.AppendAt
import Derived.Deep.QuietTactic
import Derived.BigQuiet
namespace Go.Proofs.Ytjcbmlpfpcpakaa
open Go.RowKit
set_option linter.unusedVariables false

abbrev idv : Value → Value := fun v => v
theorem wpList_append_one {P : Program} {α : Type} (f : α → Value) {ops : Array Oper} {rest : List Oper} {o : Oper} {a : Act} {w : World} {Q : Exit → Act → World → Prop} (hgd : o.guard = none) (s x : Operand) (t : TypeId)
    (ho : o.op = .call { callee := .builtin .append, args := #[s, x], argTypes := #[t, t] })
    (B : Nat) (e : TypeId) (i : TypeInfo) (z : Value) (bytes : Nat) (ht : P.underlying t = some (.slice e)) (hi : P.info? e = some i) (hz : i.zero = some z)
    (hsize : i.size = 1) (hby : i.bytes = bytes) (hzs : z.cells.size = 1)
    (v : Value) (l : List α) (hs : a.eval s = v) (hown : Own w B e f v l) (g c : Nat) (y : α) (hx : a.eval x = .slice (some ⟨g, 0, none⟩) 1 c) (hg : w.cell? ⟨g, 0, none⟩ = some (f y)) (hf : (f y).oneCell' = true)
    (hbytes : (l.length + 1) * bytes ≤ 140737488355328) (h63 : l.length + 1 ≤ 9223372036854775807) (hB : B ≤ w.heap.size)
    (h : ∀ v' w', Own w' B e f v' (l ++ [y]) → w.grownBy w' v.ownBlock → (v'.ownBlock = v.ownBlock ∨ v'.ownBlock = some w.heap.size) → wpList P ops Q rest (a.put o.dst v') w') : wpList P ops Q (o :: rest) a w :=
  wpList_append_own_at w hgd s x t ho B e i z 1 bytes ht hi hz hsize hby hzs (by decide) v l.length (l.map f) hs hown ⟨g, 0, none⟩ 1 c [f y] hx rfl
    (fun j u hj => by
      match j, hj with
      | 0, hj =>
        simp at hj
        subst hj
        simpa [Addr.add] using hg)
    (fun u hu => by simp at hu; subst hu; exact hf) (by unfold maxLen; omega) hbytes hB
    (fun v' w' h1 h2 _ h4 => h v' w' (by unfold Own; rw [List.length_append, List.map_append]; exact h1) h2 h4)

/-- a row of the call's own that is not empty -/
theorem Own.form1 {α : Type} {w : World} {B : Nat} {T : TypeId} {f : α → Value} {v : Value} {l : List α} (h : Own w B T f v l) (hl : 0 < l.length) :
    ∃ g c cur, v = .slice (some ⟨g, 0, none⟩) l.length c ∧ B ≤ g ∧ w.heap[g]? = some (.cells cur T (0, 0)) ∧ l.length ≤ c ∧ c ≤ maxLen ∧ ∀ i, (hi : i < l.length) → cur[i]? = some (f l[i]) := by
  obtain ⟨h1, ⟨_, h0⟩ | ⟨g, cap, cur, rfl, hB, hg, hle, hmx, hsz, htake⟩⟩ := h
  · omega
  · refine ⟨g, cap, cur, rfl, hB, hg, hle, hmx, fun i hi => ?_⟩
    have e : (cur.toList.take (l.length * 1))[i]? = (l.map f)[i]? := by rw [htake]
    rw [List.getElem?_take, if_pos (by omega), List.getElem?_map, List.getElem?_eq_getElem hi] at e
    simpa using e
theorem Blk.type {w : World} {g : Nat} {c c' : Array Value} {t t' : TypeId} (h : Blk w g c t) (k : Blk w g c' t') : t = t' := by
  unfold Blk at h k
  rw [h] at k
  injection k with k
  injection k with _ k
theorem Own.type {α : Type} {w : World} {B : Nat} {T : TypeId} {f : α → Value} {v : Value} {l : List α} {g : Nat} {c : Array Value} {t : TypeId} (h : Own w B T f v l) (k : Blk w g c t) (ht : T ≠ t) : some g ≠ v.ownBlock := by
  obtain ⟨_, ⟨rfl, _⟩ | ⟨g', cap, cur, rfl, _, hg, _⟩⟩ := h
  · intro e; cases e
  · intro e
    have : g = g' := Option.some.inj e
    subst this
    exact ht (Blk.type (show Blk w g cur T from hg) k)
theorem quiet_add {P : Program} {f : FuncId} {args : Array Value} {w : World} {v : Value} (h : ∀ m', Calls P f args (w.drewN m') fun e w' => e = .returned v ∧ ∃ n, (w.drewN m').drewN n = w') (m x : Nat) :
    Calls P f args (w.drewN (m + x)) fun e w'' => e = .returned v ∧ ∃ n, w'' = w.drewN (m + n) :=
  (h (m + x)).mono fun e w' ⟨h1, n, h2⟩ => ⟨h1, x + n, by rw [← h2, World.drewN_drewN, Nat.add_assoc]⟩
theorem quiet_same {P : Program} {f : FuncId} {args : Array Value} {w : World} {v : Value} (h : ∀ m, Calls P f args (w.drewN m) fun e w' => e = .returned v ∧ w.drewN m = w') (x : Nat) :
    Calls P f args (w.drewN x) fun e w'' => e = .returned v ∧ ∃ m, w'' = w.drewN m :=
  (h x).mono fun e w' ⟨h1, h2⟩ => ⟨h1, x, h2.symm⟩
/-- a row whose first cells are told -/
def HasRow {α : Type} (w : World) (f : α → Value) (T : TypeId) (g : Nat) (l : List α) : Prop := ∃ cur, w.heap[g]? = some (.cells cur T (0, 0)) ∧ ∀ i, (hi : i < l.length) → cur[i]? = some (f l[i])
theorem HasRow.ext {α : Type} {w w' : World} {f : α → Value} {T : TypeId} {g : Nat} {l : List α} (h : HasRow w f T g l) (e : Ext w w') : HasRow w' f T g l := by
  obtain ⟨cur, h1, h2⟩ := h
  exact ⟨cur, e.heap h1, h2⟩
theorem HasRow.cell {α : Type} {w : World} {f : α → Value} {T : TypeId} {g : Nat} {l : List α} (h : HasRow w f T g l) (i : Nat) (hi : i < l.length) : w.cell? ⟨g, i, none⟩ = some (f l[i]) := by
  obtain ⟨cur, h1, h2⟩ := h
  rw [cell_of_row w g i cur T (0, 0) h1]; exact h2 i hi
theorem HasRow.rd {α : Type} {w : World} {f : α → Value} {T : TypeId} {g : Nat} {l m : List α} {n c : Nat} (h : HasRow w f T g (l ++ m)) (hn : n = l.length) : Rd w f (.slice (some ⟨g, 0, none⟩) n c) l := by
  subst hn
  rcases Nat.eq_zero_or_pos l.length with h0 | h0
  · have : l = [] := List.eq_nil_of_length_eq_zero h0
    subst this
    exact Or.inl ⟨_, _, rfl, rfl, fun h => by cases h⟩
  · refine Or.inr ⟨g, 0, c, l.length, rfl, rfl, h0, fun i hi => ?_⟩
    rw [Nat.zero_add, h.cell i (by simp; omega), List.getElem_append_left hi]
theorem Own.has {α : Type} {w : World} {B : Nat} {T : TypeId} {f : α → Value} {v : Value} {l : List α} (h : Own w B T f v l) (hl : 0 < l.length) : ∃ g c, v = .slice (some ⟨g, 0, none⟩) l.length c ∧ B ≤ g ∧ HasRow w f T g l ∧ l.length ≤ c ∧ c ≤ maxLen := by
  obtain ⟨g, c, cur, h1, h2, h3, h4, h5, h6⟩ := h.form1 hl
  exact ⟨g, c, h1, h2, ⟨cur, h3, h6⟩, h4, h5⟩
theorem Own.made {α : Type} {w : World} {B : Nat} {T : TypeId} {f : α → Value} (hB : B ≤ w.heap.size) : Own (w.alloc (.cells #[] T)) B T f (.slice (some ⟨w.heap.size, 0, none⟩) 0 0) [] :=
  World.ownsRow_made w #[] 0 hB (by unfold maxLen; omega) rfl
end Go.Proofs.Ytjcbmlpfpcpakaa
