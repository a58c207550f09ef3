/- Families of rows that grow: each in a block of its own, with or without room; what is appended to one of them changes no other. No program in sight. -/
import Derived.Test.YtjcbmlpfpcpakaaGen
namespace Go.Proofs.Ytjcbmlpfpcpakaa
open Go.RowKit
set_option linter.unusedVariables false

/-- a row from a block's start on, with room for c -/
structure Spn {α : Type} (w : World) (T : TypeId) (f : α → Value) (g c : Nat) (l : List α) : Prop where
  le : l.length ≤ c
  mx : c ≤ maxLen
  blk : ∃ cur, Blk w g cur T ∧ c ≤ cur.size ∧ ∀ i, (hi : i < l.length) → cur[i]? = some (f l[i])
/-- a slice that is nil, or such a row -/
def Sp {α : Type} (w : World) (T : TypeId) (f : α → Value) (v : Value) (l : List α) : Prop :=
  (v = .slice none 0 0 ∧ l = []) ∨ ∃ g c, v = .slice (some ⟨g, 0, none⟩) l.length c ∧ Spn w T f g c l
theorem Spn.cell {α : Type} {w : World} {T : TypeId} {f : α → Value} {g c : Nat} {l : List α} (h : Spn w T f g c l) (i : Nat) (hi : i < l.length) : w.cell? ⟨g, i, none⟩ = some (f l[i]) := by
  obtain ⟨cur, h1, _, h2⟩ := h.blk
  rw [h1.cell]; exact h2 i hi
theorem Spn.free {α : Type} {w : World} {T : TypeId} {f : α → Value} {g c : Nat} {l : List α} (h : Spn w T f g c l) (i : Nat) : w.frozen? ⟨g, i, none⟩ = false := by
  obtain ⟨cur, h1, _, h2⟩ := h.blk
  exact h1.free i
theorem Spn.lt {α : Type} {w : World} {T : TypeId} {f : α → Value} {g c : Nat} {l : List α} (h : Spn w T f g c l) : g < w.heap.size := by
  obtain ⟨cur, h1, _, h2⟩ := h.blk
  exact h1.lt
theorem Spn.grown {α : Type} {w w' : World} {T : TypeId} {f : α → Value} {g c : Nat} {l : List α} {row : Option Nat} (h : Spn w T f g c l) (k : w.grownBy w' row) (hg : some g ≠ row) : Spn w' T f g c l := by
  obtain ⟨cur, h1, h2, h3⟩ := h.blk
  exact ⟨h.le, h.mx, cur, h1.grown k hg, h2, h3⟩
theorem Spn.ext {α : Type} {w w' : World} {T : TypeId} {f : α → Value} {g c : Nat} {l : List α} (h : Spn w T f g c l) (k : Ext w w') : Spn w' T f g c l := by
  obtain ⟨cur, h1, h2, h3⟩ := h.blk
  exact ⟨h.le, h.mx, cur, h1.ext k, h2, h3⟩
theorem Spn.set {α : Type} {w : World} {T : TypeId} {f : α → Value} {g c : Nat} {l : List α} (h : Spn w T f g c l) (i : Nat) (x : α) (hi : i < l.length) : Spn (w.setCell ⟨g, i, none⟩ (f x)) T f g c (l.set i x) := by
  obtain ⟨cur, h1, h2, h3⟩ := h.blk
  have hle := h.le
  refine ⟨by simpa using h.le, h.mx, _, h1.set i (f x), by simpa using h2, fun j hj => ?_⟩
  rw [List.length_set] at hj
  by_cases e : i = j
  · subst e
    rw [Array.getElem?_setIfInBounds_self_of_lt (by omega), List.getElem_set_self]
  · rw [Array.getElem?_setIfInBounds_ne (by omega), h3 j hj, List.getElem_set_ne e]
theorem Spn.rd {α : Type} {w : World} {T : TypeId} {f : α → Value} {g c n : Nat} {l : List α} (h : Spn w T f g c l) (hn : n = l.length) : Rd w f (.slice (some ⟨g, 0, none⟩) n c) l := by
  subst hn
  rcases Nat.eq_zero_or_pos l.length with h0 | h0
  · have : l = [] := List.eq_nil_of_length_eq_zero h0
    subst this
    exact Or.inl ⟨_, _, rfl, rfl, fun h => by cases h⟩
  · exact Or.inr ⟨_, _, _, _, rfl, rfl, h0, fun i hi => by rw [Nat.zero_add]; exact h.cell i hi⟩
theorem Sp.rd {α : Type} {w : World} {T : TypeId} {f : α → Value} {v : Value} {l : List α} (h : Sp w T f v l) : Rd w f v l := by
  rcases h with ⟨rfl, rfl⟩ | ⟨g, c, rfl, h⟩
  · exact Or.inl ⟨_, _, rfl, rfl, fun _ => rfl⟩
  · exact h.rd rfl
theorem Sp.form {α : Type} {w : World} {T : TypeId} {f : α → Value} {v : Value} {l : List α} (h : Sp w T f v l) (hl : 0 < l.length) : ∃ g c, v = .slice (some ⟨g, 0, none⟩) l.length c ∧ Spn w T f g c l := by
  rcases h with ⟨rfl, rfl⟩ | h
  · simp at hl
  · exact h
theorem Sp.slice {α : Type} {w : World} {T : TypeId} {f : α → Value} {v : Value} {l : List α} (h : Sp w T f v l) : ∃ a c, v = .slice a l.length c ∧ l.length ≤ c ∧ c ≤ maxLen ∧ ∀ i, (hi : i < l.length) → ∃ g, a = some ⟨g, 0, none⟩ ∧ v.ownBlock = some g ∧ w.cell? ⟨g, i, none⟩ = some (f l[i]) ∧ w.frozen? ⟨g, i, none⟩ = false := by
  rcases h with ⟨rfl, rfl⟩ | ⟨g, c, rfl, h⟩
  · exact ⟨_, _, rfl, by simp, by unfold maxLen; omega, fun i hi => by simp at hi⟩
  · exact ⟨_, _, rfl, h.le, h.mx, fun i hi => ⟨g, rfl, rfl, h.cell i hi, h.free i⟩⟩
theorem Sp.ext {α : Type} {w w' : World} {T : TypeId} {f : α → Value} {v : Value} {l : List α} (h : Sp w T f v l) (k : Ext w w') : Sp w' T f v l := by
  rcases h with h | ⟨g, c, rfl, h⟩
  · exact Or.inl h
  · exact Or.inr ⟨g, c, rfl, h.ext k⟩
theorem Sp.grown {α : Type} {w w' : World} {T : TypeId} {f : α → Value} {v : Value} {l : List α} {row : Option Nat} (h : Sp w T f v l) (k : w.grownBy w' row) (hg : v.ownBlock = none ∨ v.ownBlock ≠ row) : Sp w' T f v l := by
  rcases h with h | ⟨g, c, rfl, h⟩
  · exact Or.inl h
  · refine Or.inr ⟨g, c, rfl, h.grown k ?_⟩
    rcases hg with hg | hg
    · cases hg
    · exact hg
theorem Sp.lt {α : Type} {w : World} {T : TypeId} {f : α → Value} {v : Value} {l : List α} (h : Sp w T f v l) : ∀ g, v.ownBlock = some g → g < w.heap.size := by
  rcases h with ⟨rfl, rfl⟩ | ⟨g, c, rfl, h⟩
  · intro g hg; cases hg
  · intro g' hg; cases hg; exact h.lt
theorem Sp.type {α : Type} {w : World} {T : TypeId} {f : α → Value} {v : Value} {l : List α} {g : Nat} {c : Array Value} {t : TypeId} (h : Sp w T f v l) (k : Blk w g c t) (ht : T ≠ t) : some g ≠ v.ownBlock := by
  rcases h with ⟨rfl, rfl⟩ | ⟨g', c', rfl, h⟩
  · intro e; cases e
  · intro e
    have e : g = g' := Option.some.inj e
    subst e
    obtain ⟨cur, h1, _⟩ := h.blk
    exact ht (Blk.type h1 k)
theorem Own.sp {α : Type} {w : World} {B : Nat} {T : TypeId} {f : α → Value} {v : Value} {l : List α} (h : Own w B T f v l) : Sp w T f v l := by
  obtain ⟨_, ⟨rfl, h0⟩ | ⟨g, cap, cur, rfl, _, hg, hle, hmx, hsz, htake⟩⟩ := h
  · exact Or.inl ⟨rfl, List.eq_nil_of_length_eq_zero h0⟩
  · refine Or.inr ⟨g, cap, rfl, hle, hmx, cur, hg, by omega, fun i hi => ?_⟩
    have e : (cur.toList.take (l.length * 1))[i]? = (l.map f)[i]? := by rw [htake]
    rw [List.getElem?_take, if_pos (by omega), List.getElem?_map, List.getElem?_eq_getElem hi] at e
    simpa using e
theorem Blk.sp {α : Type} {w : World} {T : TypeId} {f : α → Value} {g n : Nat} {l : List α} (h : Blk w g (V f l) T) (hn : n = l.length) (hm : n ≤ maxLen) : Sp w T f (.slice (some ⟨g, 0, none⟩) n n) l := by
  subst hn
  exact Or.inr ⟨g, _, rfl, Nat.le_refl _, hm, _, h, by rw [V_size]; exact Nat.le_refl _, fun i hi => by rw [V_get, List.getElem?_eq_getElem hi]; rfl⟩
/-- one element more: where there is room, in its place; else in new memory -/
theorem run_append_sp {P : Program} {α : Type} (f : α → Value) (w : World) (t ty e : TypeId) (i : TypeInfo) (z : Value) (bytes : Nat) (ht : P.underlying t = some (.slice e)) (hi : P.info? e = some i) (hz : i.zero = some z)
    (hsize : i.size = 1) (hby : i.bytes = bytes) (hzs : z.cells.size = 1) (v : Value) (l : List α) (hv : Sp w e f v l) (g c : Nat) (y : α) (hg : w.cell? ⟨g, 0, none⟩ = some (f y)) (hf : (f y).oneCell' = true)
    (hbytes : (l.length + 1) * bytes ≤ 140737488355328) (h63 : l.length + 1 ≤ 9223372036854775807) :
    ∃ v' w', (Builtin.append_ #[t, t] ty #[v, .slice (some ⟨g, 0, none⟩) 1 c]).run P w = .ok v' w' ∧ Sp w' e f v' (l ++ [y]) ∧ (v'.ownBlock = v.ownBlock ∨ v'.ownBlock = some w.heap.size) ∧ w.grownBy w' v.ownBlock ∧ v'.ownBlock ≠ none ∧
      ∀ u m, Sp w e f u m → m.length ≤ l.length → Sp w' e f u m := by
  have hnews : ∀ (j : Nat) (u : Value), [f y][j]? = some u → w.cell? ((⟨g, 0, none⟩ : Addr).add j) = some u := fun j u hj => by
    match j, hj with
    | 0, hj =>
      simp at hj
      subst hj
      simpa [Addr.add] using hg
  rcases hv with ⟨rfl, rfl⟩ | ⟨b, cap, rfl, hv⟩
  · obtain ⟨v', w', hr, h1, h2, h3, h4⟩ := run_append_own_at (P := P) w w.heap.size t ty e i z 1 bytes ht hi hz hsize hby hzs (by decide) (.slice none 0 0) 0 [] (World.ownsRow_nil _ _ _ _) ⟨g, 0, none⟩ 1 c [f y] rfl hnews
      (fun u hu => by simp at hu; subst hu; exact hf) (by unfold maxLen; omega) (by simpa using hbytes) (Nat.le_refl _)
    have ho : Own w' w.heap.size e f v' ([] ++ [y]) := by unfold Own; simpa using h1
    have hn : v'.ownBlock ≠ none := by
      obtain ⟨g', c', cur, rfl, _⟩ := ho.form1 (by simp)
      intro h; cases h
    exact ⟨v', w', hr, ho.sp, h4, h2, hn, fun u m hu _ => hu.grown h2 (by cases hh : u.ownBlock <;> simp [Value.ownBlock])⟩
  · obtain ⟨cur, hb, hcs, hcur⟩ := hv.blk
    rcases Nat.lt_or_ge l.length cap with hlt | hge
    · have hr := run_append_room (P := P) w t ty e i ht hi b l.length cap cur hb ⟨g, 0, none⟩ 1 c [f y] (by rw [hsize]; rfl) hnews
        (fun u hu => by simp at hu; subst hu; exact hf) hlt (by rw [hsize]; simp; omega)
      rw [hsize, Nat.mul_one] at hr
      obtain ⟨cur', hc'⟩ : ∃ x, (cur.toList.take l.length ++ [f y] ++ cur.toList.drop (l.length + [f y].length)).toArray = x := ⟨_, rfl⟩
      rw [hc'] at hr
      have hget : ∀ j, cur'[j]? = if j = l.length then some (f y) else cur[j]? := fun j => by
        rw [← hc']
        simp only [List.getElem?_toArray, List.length_singleton]
        rcases Nat.lt_trichotomy j l.length with h | h | h
        · rw [if_neg (by omega), List.append_assoc, List.getElem?_append_left (by simp; omega), List.getElem?_take, if_pos h]; simp
        · rw [if_pos h, List.append_assoc, List.getElem?_append_right (by simp; omega)]
          subst h
          have e0 : l.length - min l.length cur.size = 0 := by omega
          simp [e0]
        · rw [if_neg (by omega), List.getElem?_append_right (by simp; omega), List.getElem?_drop]
          have e1 : l.length + 1 + (j - (List.take l.length cur.toList ++ [f y]).length) = j := by simp; omega
          rw [e1]; simp
      have hsz : cur'.size = cur.size := by rw [← hc']; simp; omega
      have hb' := setRow_heap w b cur cur' e (0, 0) hb
      have hgr : w.grownBy (w.setRow b cur') (some b) := ⟨rfl, rfl, rfl, by simp [World.setRow], fun k _ hk => setRow_other w b k _ (fun e => hk (by rw [e]))⟩
      refine ⟨_, _, hr, Or.inr ⟨b, cap, by simp, by simp; omega, hv.mx, cur', hb', by omega, fun j hj => ?_⟩, Or.inl rfl, hgr, (fun h => by cases h), fun u m hu hm => ?_⟩
      · rw [hget]
        simp only [List.length_append, List.length_singleton] at hj
        by_cases e1 : j = l.length
        · subst e1
          rw [if_pos rfl]; simp
        · rw [if_neg e1, hcur j (by omega), List.getElem_append_left (by omega)]
      · rcases hu with hu | ⟨g', c', rfl, hu⟩
        · exact Or.inl hu
        · by_cases e1 : g' = b
          · subst e1
            obtain ⟨cur2, hb2, hs2, hc2⟩ := hu.blk
            have : cur2 = cur := by
              unfold Blk at hb hb2
              rw [hb] at hb2
              injection hb2 with hb2
              injection hb2 with hb2
              exact hb2.symm
            subst this
            refine Or.inr ⟨g', c', rfl, hu.le, hu.mx, cur', hb', by omega, fun j hj => ?_⟩
            rw [hget, if_neg (by omega)]
            exact hc2 j hj
          · exact Or.inr ⟨g', c', rfl, hu.grown hgr (fun h => e1 (Option.some.inj h))⟩
    · obtain rfl : cap = l.length := by have := hv.le; omega
      have hmx : l.length + 1 ≤ maxLen := by unfold maxLen; omega
      have hge := grownCap_ge w (l.length + 1) l.length e
      have hcm : grownCap w (l.length + 1) l.length e ≤ maxLen := grownCap_le_maxLen w (l.length + 1) l.length e hmx
      have hr := run_append_grow (P := P) w t ty e i z ht hi hz ⟨b, 0, none⟩ l.length l.length (l.map f) (by rw [hsize]; simp) (fun j v hj => by
          obtain ⟨hjl, rfl⟩ := List.getElem?_eq_some_iff.1 hj
          rw [Addr.add_mid, Nat.zero_add, hb.cell, hcur j (by simpa using hjl), List.getElem_map]) ⟨g, 0, none⟩ 1 c [f y] (by rw [hsize]; rfl) hnews (by omega) (by omega) (by rw [hby]; exact growslice_fits (by omega) hbytes)
      have hext : Ext w (w.drew.alloc (.cells ((l.map f).toArray ++ [f y].toArray ++ Builtin.zeroCells z.cells (grownCap w (l.length + 1) l.length e - (l.length + 1))) e)) := (Ext.refl w).drew.alloc _
      refine ⟨_, _, hr, Or.inr ⟨w.heap.size, _, by simp, by simp; omega, hcm, _, heap_alloc_new w.drew _, ?_, fun j hj => ?_⟩, Or.inr rfl, ⟨hext.to.os, hext.to.tape, hext.to.output, hext.size, fun k hk _ => hext.block hk⟩, (fun h => by cases h), fun u m hu _ => hu.ext hext⟩
      · simp only [Array.size_append, List.size_toArray, size_zeroCells, hzs, List.length_map, List.length_singleton]
        omega
      · rw [Array.getElem?_append_left (by simpa using hj)]
        have : ((l.map f).toArray ++ [f y].toArray) = ((l ++ [y]).map f).toArray := by simp
        rw [this]
        simp only [List.getElem?_toArray, List.getElem?_map, List.getElem?_eq_getElem hj]
        rfl
theorem wpList_append_sp {P : Program} {α : Type} (f : α → Value) {ops : Array Oper} {rest : List Oper} {o : Oper} {a : Act} {w : World} {Q : Exit → Act → World → Prop} (hgd : o.guard = none) (s x : Operand) (t : TypeId)
    (ho : o.op = .call { callee := .builtin .append, args := #[s, x], argTypes := #[t, t] })
    (e : TypeId) (i : TypeInfo) (z : Value) (bytes : Nat) (ht : P.underlying t = some (.slice e)) (hi : P.info? e = some i) (hz : i.zero = some z)
    (hsize : i.size = 1) (hby : i.bytes = bytes) (hzs : z.cells.size = 1)
    (v : Value) (l : List α) (hs : a.eval s = v) (hv : Sp w e f v l) (g c : Nat) (y : α) (hx : a.eval x = .slice (some ⟨g, 0, none⟩) 1 c) (hg : w.cell? ⟨g, 0, none⟩ = some (f y)) (hf : (f y).oneCell' = true)
    (hbytes : (l.length + 1) * bytes ≤ 140737488355328) (h63 : l.length + 1 ≤ 9223372036854775807)
    (h : ∀ v' w', Sp w' e f v' (l ++ [y]) → (v'.ownBlock = v.ownBlock ∨ v'.ownBlock = some w.heap.size) → w.grownBy w' v.ownBlock → v'.ownBlock ≠ none → (∀ u m, Sp w e f u m → m.length ≤ l.length → Sp w' e f u m) → wpList P ops Q rest (a.put o.dst v') w') : wpList P ops Q (o :: rest) a w := by
  refine wpList_plain hgd fun K hK => ?_
  obtain ⟨v', w', hr, h2, h3, h4, h5, h6⟩ := run_append_sp (P := P) f w t o.type e i z bytes ht hi hz hsize hby hzs v l hv g c y hg hf hbytes h63
  unfold Oper.wp execOp
  simp only [ho, resolve, invoke, builtin, Sem.run_bind, Sem.run_pure, Result.andThen_ok, List.map_toArray, List.map_cons, List.map_nil, hs, hx, hr]
  exact hK _ _ (h v' w' h2 h3 h4 h5 h6)
/-- rows that are apart -/
def Apart (u v : Value) : Prop := u.ownBlock = none ∨ u.ownBlock ≠ v.ownBlock
/-- n rows, and what each has grown to -/
structure Fam {α : Type} (w : World) (T : TypeId) (f : α → Value) (n : Nat) (vs hs : Nat → Value) (ls ms : Nat → List α) : Prop where
  v : ∀ j, j < n → Sp w T f (vs j) (ls j)
  h : ∀ j, j < n → Sp w T f (hs j) (ms j)
  p : ∀ j, j < n → (ls j).length ≤ (ms j).length
  d : ∀ i j, i < n → j < n → i ≠ j → Apart (vs i) (vs j) ∧ Apart (vs i) (hs j) ∧ Apart (hs i) (vs j) ∧ Apart (hs i) (hs j)
def upd {β : Type} (g : Nat → β) (i : Nat) (x : β) : Nat → β := fun j => if j = i then x else g j
theorem upd_self {β : Type} (g : Nat → β) (i : Nat) (x : β) : upd g i x i = x := if_pos rfl
theorem upd_ne {β : Type} (g : Nat → β) {i j : Nat} (x : β) (h : j ≠ i) : upd g i x j = g j := if_neg h
theorem Fam.ext {α : Type} {w w' : World} {T : TypeId} {f : α → Value} {n : Nat} {vs hs : Nat → Value} {ls ms : Nat → List α} (h : Fam w T f n vs hs ls ms) (e : Ext w w') : Fam w' T f n vs hs ls ms :=
  ⟨fun j hj => (h.v j hj).ext e, fun j hj => (h.h j hj).ext e, h.p, h.d⟩
theorem Fam.grown {α : Type} {w w' : World} {T : TypeId} {f : α → Value} {n : Nat} {vs hs : Nat → Value} {ls ms : Nat → List α} {row : Option Nat} (h : Fam w T f n vs hs ls ms) (k : w.grownBy w' row) (hv : ∀ j, j < n → row ≠ (vs j).ownBlock ∨ row = none) (hh : ∀ j, j < n → row ≠ (hs j).ownBlock ∨ row = none) : Fam w' T f n vs hs ls ms :=
  have aux : ∀ u : Value, row ≠ u.ownBlock ∨ row = none → (u.ownBlock = none ∨ u.ownBlock ≠ row) := fun u hu => by
    rcases hu with hu | hu
    · exact Or.inr (Ne.symm hu)
    · subst hu
      cases hh : u.ownBlock with
      | none => exact Or.inl rfl
      | some x => exact Or.inr (by simp)
  ⟨fun j hj => (h.v j hj).grown k (aux _ (hv j hj)), fun j hj => (h.h j hj).grown k (aux _ (hh j hj)), h.p, h.d⟩
theorem Fam.app {α : Type} {w w' : World} {T : TypeId} {f : α → Value} {n : Nat} {vs hs : Nat → Value} {ls ms : Nat → List α} {i : Nat} {y : α} {v' : Value} (h : Fam w T f n vs hs ls ms) (hi : i < n) (h1 : Sp w' T f v' (ms i ++ [y])) (h2 : v'.ownBlock = (hs i).ownBlock ∨ v'.ownBlock = some w.heap.size) (h3 : w.grownBy w' (hs i).ownBlock)
    (h4 : v'.ownBlock ≠ none) (h5 : ∀ u m, Sp w T f u m → m.length ≤ (ms i).length → Sp w' T f u m) : Fam w' T f n vs (upd hs i v') ls (upd ms i (ms i ++ [y])) := by
  have blk : ∀ u l, Sp w T f u l → Apart u (hs i) → Sp w' T f u l := fun u l hu ha => hu.grown h3 ha
  have ap : ∀ u l, Sp w T f u l → Apart u (hs i) → Apart u v' := fun u l hu ha => by
    rcases ha with ha | ha
    · exact Or.inl ha
    · refine Or.inr ?_
      rcases h2 with h2 | h2
      · rw [h2]; exact ha
      · rw [h2]
        intro he
        have := hu.lt _ he
        omega
  have sy : ∀ u l, Sp w T f u l → Apart u (hs i) → Apart v' u := fun u l hu ha => by
    refine Or.inr ?_
    rcases ap u l hu ha with hn | hn
    · rw [hn]; exact h4
    · exact Ne.symm hn
  refine ⟨fun j hj => ?_, fun j hj => ?_, fun j hj => ?_, fun a b ha hb hab => ?_⟩
  · by_cases e : j = i
    · subst e; exact h5 _ _ (h.v j hj) (h.p j hj)
    · exact blk _ _ (h.v j hj) (h.d j i hj hi e).2.1
  · by_cases e : j = i
    · subst e; rw [upd_self, upd_self]; exact h1
    · rw [upd_ne _ _ e, upd_ne _ _ e]; exact blk _ _ (h.h j hj) (h.d j i hj hi e).2.2.2
  · by_cases e : j = i
    · subst e; rw [upd_self, List.length_append]; have := h.p j hj; omega
    · rw [upd_ne _ _ e]; exact h.p j hj
  · by_cases e : a = i
    · subst e
      have eb : b ≠ a := Ne.symm hab
      have d1 := h.d b a hb ha eb
      rw [upd_self, upd_ne _ _ eb]
      exact ⟨(h.d a b ha hb hab).1, (h.d a b ha hb hab).2.1, sy _ _ (h.v b hb) d1.2.1, sy _ _ (h.h b hb) d1.2.2.2⟩
    · rw [upd_ne _ _ e]
      by_cases e2 : b = i
      · subst e2
        have d1 := h.d a b ha hb hab
        rw [upd_self]
        exact ⟨d1.1, ap _ _ (h.v a ha) d1.2.1, d1.2.2.1, ap _ _ (h.h a ha) d1.2.2.2⟩
      · rw [upd_ne _ _ e2]
        exact h.d a b ha hb hab
/-- as yet none has grown -/
theorem Fam.start {α : Type} {w : World} {T : TypeId} {f : α → Value} {n : Nat} {vs : Nat → Value} {ls : Nat → List α} (h : ∀ j, j < n → Sp w T f (vs j) (ls j)) (d : ∀ i j, i < n → j < n → i ≠ j → Apart (vs i) (vs j)) : Fam w T f n vs vs ls ls :=
  ⟨h, h, fun _ _ => Nat.le_refl _, fun i j hi hj hij => ⟨d i j hi hj hij, d i j hi hj hij, d i j hi hj hij, d i j hi hj hij⟩⟩
/-- an element is written while none has grown -/
theorem Fam.set {α : Type} {w : World} {T : TypeId} {f : α → Value} {n : Nat} {vs : Nat → Value} {ls : Nat → List α} (h : Fam w T f n vs vs ls ls) {i k g : Nat} (x : α) (hi : i < n) (hk : k < (ls i).length) (hg : (vs i).ownBlock = some g) : Fam (w.setCell ⟨g, k, none⟩ (f x)) T f n vs vs (upd ls i ((ls i).set k x)) (upd ls i ((ls i).set k x)) := by
  refine Fam.start (fun j hj => ?_) (fun a b ha hb hab => (h.d a b ha hb hab).1)
  by_cases e : j = i
  · subst e
    rw [upd_self]
    obtain ⟨g', c, hv, hs⟩ := (h.v j hj).form (by omega)
    rw [hv] at hg ⊢
    cases hg
    exact Or.inr ⟨_, _, by simp, hs.set k x hk⟩
  · rw [upd_ne _ _ e]
    refine (h.v j hj).grown (grown_set w g k (f x)) ?_
    rcases (h.d j i hj hi e).1 with hn | hn
    · exact Or.inl hn
    · rw [hg] at hn; exact Or.inr hn
end Go.Proofs.Ytjcbmlpfpcpakaa
