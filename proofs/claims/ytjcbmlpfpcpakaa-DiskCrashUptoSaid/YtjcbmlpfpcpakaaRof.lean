/- Rows of bytes that were answered: they are written over where they lie, and gone on with; what else there is stays. No program in sight. -/
import Derived.Test.YtjcbmlpfpcpakaaD8a
import Derived.Test.YtjcbmlpfpcpakaaFam
namespace Go.Proofs.Ytjcbmlpfpcpakaa
open Go.RowKit
set_option linter.unusedVariables false

/-- a row from a block's start on: in a block of the list's own type, or in one of the other type with no room behind it -/
def Ro {α : Type} (w : World) (T U : TypeId) (f : α → Value) (v : Value) (l : List α) : Prop :=
  ∃ g c T', v = .slice (some ⟨g, 0, none⟩) l.length c ∧ Spn w T' f g c l ∧ (T' = T ∨ (T' = U ∧ c = l.length))
section
variable {α : Type} {w w' : World} {T U : TypeId} {f : α → Value} {v : Value} {l : List α}
theorem Ro.ext (h : Ro w T U f v l) (e : Ext w w') : Ro w' T U f v l := by
  obtain ⟨g, c, T', h1, h2, h3⟩ := h
  exact ⟨g, c, T', h1, h2.ext e, h3⟩
theorem Ro.grown {row : Option Nat} (h : Ro w T U f v l) (k : w.grownBy w' row) (hg : v.ownBlock ≠ row) : Ro w' T U f v l := by
  obtain ⟨g, c, T', rfl, h2, h3⟩ := h
  exact ⟨g, c, T', rfl, h2.grown k hg, h3⟩
theorem Ro.lt (h : Ro w T U f v l) : ∀ g, v.ownBlock = some g → g < w.heap.size := by
  obtain ⟨g, c, T', rfl, h2, h3⟩ := h
  intro g' hg; cases hg; exact h2.lt
theorem Ro.own (h : Ro w T U f v l) : ∃ g, v.ownBlock = some g := by
  obtain ⟨g, c, T', rfl, h2, h3⟩ := h
  exact ⟨g, rfl⟩
theorem Ro.type {g : Nat} {c : Array Value} {t : TypeId} (h : Ro w T U f v l) (k : Blk w g c t) (h1 : T ≠ t) (h2 : U ≠ t) : v.ownBlock ≠ some g := by
  obtain ⟨g', c', T', rfl, hs, h3⟩ := h
  intro e
  have e : g' = g := Option.some.inj e
  subst e
  obtain ⟨cur, hb, _⟩ := hs.blk
  have := Blk.type hb k
  rcases h3 with h3 | h3
  · exact h1 (h3 ▸ this)
  · exact h2 (h3.1 ▸ this)
theorem Ro.form (h : Ro w T U f v l) : ∃ g c, v = .slice (some ⟨g, 0, none⟩) l.length c ∧ l.length ≤ c ∧ c ≤ maxLen ∧ g < w.heap.size ∧ (∀ i, (hi : i < l.length) → w.cell? ⟨g, i, none⟩ = some (f l[i])) ∧ ∀ i, w.frozen? ⟨g, i, none⟩ = false := by
  obtain ⟨g, c, T', rfl, h2, h3⟩ := h
  exact ⟨g, c, rfl, h2.le, h2.mx, h2.lt, fun i hi => h2.cell i hi, fun i => h2.free i⟩
theorem Ro.set (h : Ro w T U f v l) {g k : Nat} (x : α) (hk : k < l.length) (hg : v.ownBlock = some g) : Ro (w.setCell ⟨g, k, none⟩ (f x)) T U f v (l.set k x) := by
  obtain ⟨g', c, T', rfl, h2, h3⟩ := h
  cases hg
  exact ⟨g', c, T', by simp, h2.set k x hk, by simpa using h3⟩
theorem Ro.rd (h : Ro w T U f v l) : Rd w f v l := by
  obtain ⟨g, c, T', rfl, h2, h3⟩ := h
  exact h2.rd rfl
theorem Sp.ro (h : Sp w T f v l) (hl : 0 < l.length) (U : TypeId) : Ro w T U f v l := by
  obtain ⟨g, c, h1, h2⟩ := h.form hl
  exact ⟨g, c, T, h1, h2, Or.inl rfl⟩
theorem Spn.ro {g c n : Nat} (h : Spn w T f g c l) (hn : n = l.length) (U : TypeId) : Ro w T U f (.slice (some ⟨g, 0, none⟩) n c) l := ⟨g, c, T, by rw [hn], h, Or.inl rfl⟩
theorem Blk.ro {g n : Nat} (h : Blk w g (V f l) U) (hn : n = l.length) (hm : n ≤ maxLen) (T : TypeId) : Ro w T U f (.slice (some ⟨g, 0, none⟩) n n) l := by
  subst hn
  exact ⟨g, _, U, rfl, ⟨Nat.le_refl _, hm, _, h, by rw [V_size]; exact Nat.le_refl _, fun i hi => by rw [V_get, List.getElem?_eq_getElem hi]; rfl⟩, Or.inr ⟨rfl, rfl⟩⟩
end
/-- one element more where there is no room -/
theorem run_append_full {P : Program} {α : Type} (f : α → Value) (w : World) (t ty e T' : TypeId) (i : TypeInfo) (z : Value) (bytes : Nat) (ht : P.underlying t = some (.slice e)) (hi : P.info? e = some i) (hz : i.zero = some z)
    (hsize : i.size = 1) (hby : i.bytes = bytes) (hzs : z.cells.size = 1) (b : Nat) (l : List α) (hv : Spn w T' f b l.length l) (g c : Nat) (y : α) (hg : w.cell? ⟨g, 0, none⟩ = some (f y)) (hf : (f y).oneCell' = true)
    (hbytes : (l.length + 1) * bytes ≤ 140737488355328) (h63 : l.length + 1 ≤ 9223372036854775807) :
    ∃ v' w', (Builtin.append_ #[t, t] ty #[.slice (some ⟨b, 0, none⟩) l.length l.length, .slice (some ⟨g, 0, none⟩) 1 c]).run P w = .ok v' w' ∧ Sp w' e f v' (l ++ [y]) ∧ v'.ownBlock = some w.heap.size ∧ Ext w w' := by
  have hnews : ∀ (j : Nat) (u : Value), [f y][j]? = some u → w.cell? ((⟨g, 0, none⟩ : Addr).add j) = some u := fun j u hj => by
    match j, hj with
    | 0, hj =>
      simp at hj
      subst hj
      simpa [Addr.add] using hg
  obtain ⟨cur, hb, hcs, hcur⟩ := hv.blk
  have hm1 : l.length + 1 ≤ maxLen := by unfold maxLen; omega
  have hge := grownCap_ge w (l.length + 1) l.length e
  have hcm : grownCap w (l.length + 1) l.length e ≤ maxLen := grownCap_le_maxLen w (l.length + 1) l.length e hm1
  have hr := run_append_grow (P := P) w t ty e i z ht hi hz ⟨b, 0, none⟩ l.length l.length (l.map f) (by rw [hsize]; simp) (fun j v hj => by
      obtain ⟨hjl, rfl⟩ := List.getElem?_eq_some_iff.1 hj
      rw [Addr.add_mid, Nat.zero_add, hb.cell, hcur j (by simpa using hjl), List.getElem_map]) ⟨g, 0, none⟩ 1 c [f y] (by rw [hsize]; rfl) hnews (by omega) (by omega) (by rw [hby]; exact growslice_fits (by omega) hbytes)
  have hext : Ext w (w.drew.alloc (.cells ((l.map f).toArray ++ [f y].toArray ++ Builtin.zeroCells z.cells (grownCap w (l.length + 1) l.length e - (l.length + 1))) e)) := (Ext.refl w).drew.alloc _
  refine ⟨_, _, hr, Or.inr ⟨w.heap.size, _, by simp, by simp; omega, hcm, _, heap_alloc_new w.drew _, ?_, fun j hj => ?_⟩, rfl, hext⟩
  · simp only [Array.size_append, List.size_toArray, size_zeroCells, hzs, List.length_map, List.length_singleton]
    omega
  · rw [Array.getElem?_append_left (by simpa using hj)]
    have : ((l.map f).toArray ++ [f y].toArray) = ((l ++ [y]).map f).toArray := by simp
    rw [this]
    simp only [List.getElem?_toArray, List.getElem?_map, List.getElem?_eq_getElem hj]
    rfl
theorem run_append_ro {P : Program} {α : Type} (f : α → Value) (w : World) (t ty e U : TypeId) (i : TypeInfo) (z : Value) (bytes : Nat) (ht : P.underlying t = some (.slice e)) (hi : P.info? e = some i) (hz : i.zero = some z)
    (hsize : i.size = 1) (hby : i.bytes = bytes) (hzs : z.cells.size = 1) (v : Value) (l : List α) (hv : Ro w e U f v l) (g c : Nat) (y : α) (hg : w.cell? ⟨g, 0, none⟩ = some (f y)) (hf : (f y).oneCell' = true)
    (hbytes : (l.length + 1) * bytes ≤ 140737488355328) (h63 : l.length + 1 ≤ 9223372036854775807) :
    ∃ v' w', (Builtin.append_ #[t, t] ty #[v, .slice (some ⟨g, 0, none⟩) 1 c]).run P w = .ok v' w' ∧ Ro w' e U f v' (l ++ [y]) ∧ (v'.ownBlock = v.ownBlock ∨ v'.ownBlock = some w.heap.size) ∧ w.grownBy w' v.ownBlock ∧
      ∀ u m, Ro w e U f u m → m.length ≤ l.length → Ro w' e U f u m := by
  obtain ⟨b, cap, T', rfl, hs, hT⟩ := hv
  by_cases he : T' = e
  · subst he
    obtain ⟨v', w', hr, h2, h3, h4, h5, h6⟩ := run_append_sp (P := P) f w t ty T' i z bytes ht hi hz hsize hby hzs _ l (Or.inr ⟨b, cap, rfl, hs⟩) g c y hg hf hbytes h63
    refine ⟨v', w', hr, h2.ro (by simp) U, h3, h4, fun u m hu hm => ?_⟩
    obtain ⟨g', c', T'', rfl, hs', hT''⟩ := hu
    by_cases he : T'' = T'
    · subst he
      rcases h6 _ m (Or.inr ⟨g', c', rfl, hs'⟩) hm with ⟨hn, _⟩ | ⟨g2, c2, hn, hs2⟩
      · cases hn
      · injection hn with hn1 hn2 hn3
        injection hn1 with hn1
        injection hn1 with hn1
        subst hn1 hn3
        exact ⟨_, _, _, rfl, hs2, hT''⟩
    · refine ⟨g', c', T'', rfl, hs'.grown h4 (fun e => he ?_), hT''⟩
      have e : g' = b := Option.some.inj e
      subst e
      obtain ⟨c1, b1, _⟩ := hs.blk
      obtain ⟨c2, b2, _⟩ := hs'.blk
      exact Blk.type b2 b1
  · obtain ⟨rfl, rfl⟩ := hT.resolve_left he
    obtain ⟨v', w', hr, h2, h3, h4⟩ := run_append_full (P := P) f w t ty e T' i z bytes ht hi hz hsize hby hzs b l hs g c y hg hf hbytes h63
    exact ⟨v', w', hr, h2.ro (by simp) T', Or.inr h3, h4.grownBy _, fun u m hu _ => hu.ext h4⟩
theorem wpList_append_ro {P : Program} {α : Type} (f : α → Value) {ops : Array Oper} {rest : List Oper} {o : Oper} {a : Act} {w : World} {Q : Exit → Act → World → Prop} (hgd : o.guard = none) (s x : Operand) (t : TypeId)
    (ho : o.op = .call { callee := .builtin .append, args := #[s, x], argTypes := #[t, t] })
    (e U : TypeId) (i : TypeInfo) (z : Value) (bytes : Nat) (ht : P.underlying t = some (.slice e)) (hi : P.info? e = some i) (hz : i.zero = some z)
    (hsize : i.size = 1) (hby : i.bytes = bytes) (hzs : z.cells.size = 1)
    (v : Value) (l : List α) (hs : a.eval s = v) (hv : Ro w e U f v l) (g c : Nat) (y : α) (hx : a.eval x = .slice (some ⟨g, 0, none⟩) 1 c) (hg : w.cell? ⟨g, 0, none⟩ = some (f y)) (hf : (f y).oneCell' = true)
    (hbytes : (l.length + 1) * bytes ≤ 140737488355328) (h63 : l.length + 1 ≤ 9223372036854775807)
    (h : ∀ v' w', Ro w' e U f v' (l ++ [y]) → (v'.ownBlock = v.ownBlock ∨ v'.ownBlock = some w.heap.size) → w.grownBy w' v.ownBlock → (∀ u m, Ro w e U f u m → m.length ≤ l.length → Ro w' e U f u m) → wpList P ops Q rest (a.put o.dst v') w') : wpList P ops Q (o :: rest) a w := by
  refine wpList_plain hgd fun K hK => ?_
  obtain ⟨v', w', hr, h2, h3, h4, h5⟩ := run_append_ro (P := P) f w t o.type e U i z bytes ht hi hz hsize hby hzs v l hv g c y hg hf hbytes h63
  unfold Oper.wp execOp
  simp only [ho, resolve, invoke, builtin, Sem.run_bind, Sem.run_pure, Result.andThen_ok, List.map_toArray, List.map_cons, List.map_nil, hs, hx, hr]
  exact hK _ _ (h v' w' h2 h3 h4 h5)
/-- n rows vs that were answered (they read as ls), and what each has grown to (hs, ms), behind the world WB -/
structure RW (WB w : World) (U n : Nat) (N : Nat → Nat) (vs hs : Nat → Value) (ls ms : Nat → List (BitVec 8)) : Prop where
  only : Only WB w (fun k => ∃ j, j < n ∧ (vs j).ownBlock = some k)
  v : ∀ j, j < n → Ro w 5 U cb (vs j) (ls j)
  h : ∀ j, j < n → Ro w 5 U cb (hs j) (ms j)
  p : ∀ j, j < n → (ls j).length ≤ (ms j).length
  d : ∀ i j, i < n → j < n → i ≠ j → (vs i).ownBlock ≠ (vs j).ownBlock ∧ (vs i).ownBlock ≠ (hs j).ownBlock ∧ (hs i).ownBlock ≠ (hs j).ownBlock
  nw : ∀ j, j < n → (hs j).ownBlock = (vs j).ownBlock ∨ ∃ k, (hs j).ownBlock = some k ∧ WB.heap.size ≤ k
  len : ∀ j, j < n → (ls j).length = N j
section
variable {WB w w' : World} {U n : Nat} {N : Nat → Nat} {vs hs : Nat → Value} {ls ms : Nat → List (BitVec 8)}
theorem RW.start (h : ∀ j, j < n → Ro WB 5 U cb (vs j) (ls j)) (d : ∀ i j, i < n → j < n → i ≠ j → (vs i).ownBlock ≠ (vs j).ownBlock) (len : ∀ j, j < n → (ls j).length = N j) : RW WB WB U n N vs vs ls ls :=
  ⟨Only.refl _ _, h, h, fun _ _ => Nat.le_refl _, fun i j hi hj hij => ⟨d i j hi hj hij, d i j hi hj hij, d i j hi hj hij⟩, fun _ _ => Or.inl rfl, len⟩
theorem RW.ext (h : RW WB w U n N vs hs ls ms) (e : Ext w w') : RW WB w' U n N vs hs ls ms :=
  ⟨h.only.ext e, fun j hj => (h.v j hj).ext e, fun j hj => (h.h j hj).ext e, h.p, h.d, h.nw, h.len⟩
theorem RW.set {i k g : Nat} (x : BitVec 8) (h : RW WB w U n N vs vs ls ls) (hi : i < n) (hk : k < N i) (hg : (vs i).ownBlock = some g) : RW WB (w.setCell ⟨g, k, none⟩ (cb x)) U n N vs vs (upd ls i ((ls i).set k x)) (upd ls i ((ls i).set k x)) := by
  have hgr := grown_set w g k (cb x)
  have hv : ∀ j, j < n → Ro (w.setCell ⟨g, k, none⟩ (cb x)) 5 U cb (vs j) (upd ls i ((ls i).set k x) j) := fun j hj => by
    by_cases e : j = i
    · subst e; rw [upd_self]; exact (h.v j hj).set x (by rw [h.len j hj]; exact hk) hg
    · rw [upd_ne _ _ e]
      exact (h.v j hj).grown hgr (by rw [← hg]; exact (h.d j i hj hi e).1)
  refine ⟨h.only.grown hgr (fun k hk => ⟨i, hi, by rw [hg]; exact hk⟩), hv, hv, fun _ _ => Nat.le_refl _, h.d, h.nw, fun j hj => ?_⟩
  by_cases e : j = i
  · subst e; rw [upd_self, List.length_set]; exact h.len j hj
  · rw [upd_ne _ _ e]; exact h.len j hj
theorem RW.app {i : Nat} {y : BitVec 8} {v' : Value} (h : RW WB w U n N vs hs ls ms) (hi : i < n) (h1 : Ro w' 5 U cb v' (ms i ++ [y])) (h2 : v'.ownBlock = (hs i).ownBlock ∨ v'.ownBlock = some w.heap.size) (h3 : w.grownBy w' (hs i).ownBlock)
    (h5 : ∀ u m, Ro w 5 U cb u m → m.length ≤ (ms i).length → Ro w' 5 U cb u m) : RW WB w' U n N vs (upd hs i v') ls (upd ms i (ms i ++ [y])) := by
  have new : ∀ u l, Ro w 5 U cb u l → u.ownBlock ≠ (hs i).ownBlock → u.ownBlock ≠ v'.ownBlock := fun u l hu hne => by
    rcases h2 with h2 | h2
    · rw [h2]; exact hne
    · rw [h2]
      intro he
      have := hu.lt _ he
      omega
  refine ⟨?_, fun j hj => ?_, fun j hj => ?_, fun j hj => ?_, fun a b ha hb hab => ?_, fun j hj => ?_, h.len⟩
  · refine h.only.trans' (q := fun k => some k = (hs i).ownBlock) ⟨h3.os, h3.tape, h3.output, h3.size, fun k hk hne => h3.block k hk hne⟩ fun k hk hq => ?_
    rcases h.nw i hi with hn | ⟨k', hn, hk'⟩
    · exact ⟨i, hi, by rw [← hn]; exact hq.symm⟩
    · rw [hn] at hq
      have := Option.some.inj hq
      omega
  · by_cases e : j = i
    · subst e; exact h5 _ _ (h.v j hj) (h.p j hj)
    · exact (h.v j hj).grown h3 (h.d j i hj hi e).2.1
  · by_cases e : j = i
    · subst e; rw [upd_self, upd_self]; exact h1
    · rw [upd_ne _ _ e, upd_ne _ _ e]; exact (h.h j hj).grown h3 (h.d j i hj hi e).2.2
  · by_cases e : j = i
    · subst e; rw [upd_self, List.length_append]; have := h.p j hj; omega
    · rw [upd_ne _ _ e]; exact h.p j hj
  · have hd := h.d a b ha hb hab
    by_cases e2 : b = i
    · subst e2
      rw [upd_self, upd_ne _ _ hab]
      exact ⟨hd.1, new _ _ (h.v a ha) hd.2.1, new _ _ (h.h a ha) hd.2.2⟩
    · rw [upd_ne _ _ e2]
      by_cases e : a = i
      · subst e
        rw [upd_self]
        exact ⟨hd.1, hd.2.1, (new _ _ (h.h b hb) (h.d b a hb ha (Ne.symm hab)).2.2).symm⟩
      · rw [upd_ne _ _ e]; exact hd
  · by_cases e : j = i
    · subst e
      rw [upd_self]
      rcases h2 with h2 | h2
      · rw [h2]; exact h.nw j hj
      · exact Or.inr ⟨_, h2, h.only.size⟩
    · rw [upd_ne _ _ e]; exact h.nw j hj
/-- a row of another kind, made since -/
theorem RW.other {row : Option Nat} (h : RW WB w U n N vs hs ls ms) (k : w.grownBy w' row) (h1 : ∀ x, row = some x → WB.heap.size ≤ x) (h2 : ∀ j, j < n → (vs j).ownBlock ≠ row ∧ (hs j).ownBlock ≠ row) : RW WB w' U n N vs hs ls ms :=
  ⟨h.only.trans' (q := fun x => row = some x) ⟨k.os, k.tape, k.output, k.size, fun x hx hne => k.block x hx (fun e => hne e.symm)⟩ (fun x hx hq => by have := h1 x hq; omega), fun j hj => (h.v j hj).grown k (h2 j hj).1, fun j hj => (h.h j hj).grown k (h2 j hj).2, h.p, h.d, h.nw, h.len⟩
/-- what is no row's block stays -/
theorem RW.blk {b : Nat} {c : Array Value} {t : TypeId} (h : RW WB w U n N vs hs ls ms) (k : Blk WB b c t) (hb : ∀ j, j < n → (vs j).ownBlock ≠ some b) : Blk w b c t := h.only.blk k (fun ⟨j, hj, e⟩ => hb j hj e)
theorem RW.row (h : RW WB w U n N vs hs ls ms) (i : Nat) (hi : i < n) : ∃ b c, vs i = .slice (some ⟨b, 0, none⟩) (N i) c ∧ N i ≤ c ∧ c ≤ maxLen ∧ (∀ k, k < N i → ∃ y, w.cell? ⟨b, k, none⟩ = some (cb y) ∧ (ls i)[k]? = some y) ∧ ∀ k, w.frozen? ⟨b, k, none⟩ = false := by
  obtain ⟨g, c, e, h1, h2, _, h3, h4⟩ := (h.v i hi).form
  rw [h.len i hi] at e h1
  refine ⟨g, c, e, h1, h2, fun k hk => ?_, h4⟩
  have hk' : k < (ls i).length := by rw [h.len i hi]; exact hk
  exact ⟨_, h3 k hk', List.getElem?_eq_getElem hk'⟩
end
/-- while rows grow: i of them have grown by M, and stand in the list gv -/
structure RG (WB w : World) (U n M L : Nat) (N : Nat → Nat) (F1 F2 : Nat → Nat → BitVec 8) (vs hs : Nat → Value) (ls ms : Nat → List (BitVec 8)) (gv : Value) (GL : List Value) (i k : Nat) : Prop where
  rw : RW WB w U n N vs hs ls ms
  own : Own w WB.heap.size L idv gv GL
  gl : GL.length = i
  at' : ∀ j, j < i → GL[j]? = some (hs j)
  done : ∀ j, j < i → (ms j).length = N j + M ∧ ∀ q, q < M → (ms j)[N j + q]? = some (F2 j q)
  cur : i < n → (ms i).length = N i + k ∧ ∀ q, q < k → (ms i)[N i + q]? = some (F2 i q)
  todo : ∀ j, i < j → j < n → (ms j).length = N j ∧ hs j = vs j
  here : i < n → k = 0 → hs i = vs i
  wr1 : ∀ j q, j < n → q < N j → (ls j)[q]? = some (F1 j q)
  old : ∀ j q, j < n → q < N j → (ms j)[q]? = some (F1 j q)
section
variable {WB w w' : World} {U n M L : Nat} {N : Nat → Nat} {F1 F2 : Nat → Nat → BitVec 8} {vs hs : Nat → Value} {ls ms : Nat → List (BitVec 8)} {gv : Value} {GL : List Value} {i k : Nat}
theorem RG.start (h : RW WB w U n N vs vs ls ls) (hw : ∀ j q, j < n → q < N j → (ls j)[q]? = some (F1 j q)) : RG WB w U n M L N F1 F2 vs vs ls ls (.slice none 0 0) [] 0 0 :=
  ⟨h, Own.nil, rfl, fun j hj => by omega, fun j hj => by omega, fun h0 => ⟨h.len 0 h0, fun q hq => by omega⟩, fun j _ hj => ⟨h.len j hj, rfl⟩, fun _ _ => rfl, hw, hw⟩
theorem RG.app {w1 w2 : World} {v' : Value} (h : RG WB w U n M L N F1 F2 vs hs ls ms gv GL i k) (e : Ext w w1) (hi : i < n) (hL1 : L ≠ 5) (hL2 : L ≠ U) (h1 : Ro w2 5 U cb v' (ms i ++ [F2 i k])) (h2 : v'.ownBlock = (hs i).ownBlock ∨ v'.ownBlock = some w1.heap.size) (h3 : w1.grownBy w2 (hs i).ownBlock)
    (h5 : ∀ u m, Ro w1 5 U cb u m → m.length ≤ (ms i).length → Ro w2 5 U cb u m) : RG WB w2 U n M L N F1 F2 vs (upd hs i v') ls (upd ms i (ms i ++ [F2 i k])) gv GL i (k + 1) := by
  have ho := e.own h.own
  refine ⟨(h.rw.ext e).app hi h1 h2 h3 h5, ho.kept h3 ?_, h.gl, fun j hj => ?_, fun j hj => ?_, fun _ => ⟨?_, fun q hq => ?_⟩, fun j hj hjn => ?_, fun _ hk => by omega, h.wr1, fun j q hj hq => ?_⟩
  · have hro := (h.rw.ext e).h i hi
    cases hh : gv.ownBlock with
    | none => exact Or.inl rfl
    | some x =>
      refine Or.inr (fun he => ?_)
      obtain ⟨_, ⟨rfl, _⟩ | ⟨g', cap, cur, rfl, _, hg, _⟩⟩ := ho
      · cases hh
      · cases hh
        exact hro.type (show Blk w1 g' cur L from hg) (Ne.symm hL1) (Ne.symm hL2) he.symm
  · rw [upd_ne _ _ (by omega)]; exact h.at' j hj
  · rw [upd_ne _ _ (by omega)]; exact h.done j hj
  · rw [upd_self, List.length_append, (h.cur hi).1]; rfl
  · rw [upd_self]
    by_cases e : q = k
    · subst e
      rw [List.getElem?_append_right (by rw [(h.cur hi).1]; exact Nat.le_refl _), (h.cur hi).1, Nat.sub_self]
      rfl
    · rw [List.getElem?_append_left (by rw [(h.cur hi).1]; omega)]
      exact (h.cur hi).2 q (by omega)
  · rw [upd_ne _ _ (by omega), upd_ne _ _ (by omega)]; exact h.todo j hj hjn
  · by_cases e : j = i
    · subst e
      rw [upd_self, List.getElem?_append_left (by rw [(h.cur hi).1]; omega)]
      exact h.old j q hj hq
    · rw [upd_ne _ _ e]; exact h.old j q hj hq
theorem RG.push {w1 w2 : World} {gv' : Value} (h : RG WB w U n M L N F1 F2 vs hs ls ms gv GL i M) (e : Ext w w1) (hi : i < n) (hL1 : L ≠ 5) (hL2 : L ≠ U) (h1 : Own w2 WB.heap.size L idv gv' (GL ++ [hs i])) (h2 : w1.grownBy w2 gv.ownBlock) :
    RG WB w2 U n M L N F1 F2 vs hs ls ms gv' (GL ++ [hs i]) (i + 1) 0 := by
  have ho := e.own h.own
  have hrw := h.rw.ext e
  have hne : ∀ u l, Ro w1 5 U cb u l → u.ownBlock ≠ gv.ownBlock := fun u l hu he => by
    obtain ⟨_, ⟨rfl, _⟩ | ⟨g', cap, cur, rfl, _, hg, _⟩⟩ := ho
    · obtain ⟨x, hx⟩ := hu.own
      rw [hx] at he
      cases he
    · exact hu.type (show Blk w1 g' cur L from hg) (Ne.symm hL1) (Ne.symm hL2) he
  refine ⟨hrw.other h2 (fun x hx => (ho.lt x hx).1) (fun j hj => ⟨hne _ _ (hrw.v j hj), hne _ _ (hrw.h j hj)⟩), h1, by rw [List.length_append, h.gl]; rfl, fun j hj => ?_, fun j hj => ?_, fun hn => ?_, fun j hj hjn => h.todo j (by omega) hjn, fun hn _ => (h.todo (i + 1) (by omega) hn).2, h.wr1, h.old⟩
  · by_cases e : j = i
    · subst e
      rw [List.getElem?_append_right (by rw [h.gl]; exact Nat.le_refl _), h.gl, Nat.sub_self]
      rfl
    · rw [List.getElem?_append_left (by rw [h.gl]; omega)]
      exact h.at' j (by omega)
  · by_cases e : j = i
    · subst e; exact h.cur hi
    · exact h.done j (by omega)
  · exact ⟨(h.todo (i + 1) (by omega) hn).1, fun q hq => by omega⟩
theorem RG.ext (h : RG WB w U n M L N F1 F2 vs hs ls ms gv GL i k) (e : Ext w w') : RG WB w' U n M L N F1 F2 vs hs ls ms gv GL i k :=
  ⟨h.rw.ext e, e.own h.own, h.gl, h.at', h.done, h.cur, h.todo, h.here, h.wr1, h.old⟩
theorem RG.cells (h : RG WB w U n M L N F1 F2 vs hs ls ms gv GL n k) (hn : 0 < n) : ∃ gg cg, gv = .slice (some ⟨gg, 0, none⟩) n cg ∧ n ≤ cg ∧ ∀ i, i < n → w.cell? ⟨gg, i, none⟩ = some (hs i) := by
  obtain ⟨gg, cg, cur, rfl, _, hg, hc1, _, hc⟩ := h.own.form1 (by rw [h.gl]; omega)
  rw [h.gl] at hc1 ⊢
  refine ⟨gg, cg, rfl, hc1, fun i hi => ?_⟩
  have hl : i < GL.length := by rw [h.gl]; exact hi
  rw [cell_of_row w gg i cur L (0, 0) hg, hc i hl]
  have := h.at' i hi
  rw [List.getElem?_eq_getElem hl] at this
  exact this
theorem RG.grow (h : RG WB w U n M L N F1 F2 vs hs ls ms gv GL n k) (i : Nat) (hi : i < n) : ∃ b c, hs i = .slice (some ⟨b, 0, none⟩) (N i + M) c ∧ N i + M ≤ c ∧ c ≤ maxLen ∧ (∀ q, q < M → w.cell? ⟨b, N i + q, none⟩ = some (cb (F2 i q))) ∧ ∀ q, q < N i → w.cell? ⟨b, q, none⟩ = some (cb (F1 i q)) := by
  obtain ⟨hl, hf⟩ := h.done i hi
  obtain ⟨b, c, e, h1, h2, _, h3, _⟩ := (h.rw.h i hi).form
  rw [hl] at e h1
  refine ⟨b, c, e, h1, h2, fun q hq => ?_, fun q hq => ?_⟩
  · have hq' : N i + q < (ms i).length := by omega
    rw [h3 _ hq']
    have := hf q hq
    rw [List.getElem?_eq_getElem hq'] at this
    exact congrArg (fun x => some (cb x)) (Option.some.inj this)
  · have hq' : q < (ms i).length := by omega
    rw [h3 _ hq']
    have := h.old i q hi hq
    rw [List.getElem?_eq_getElem hq'] at this
    exact congrArg (fun x => some (cb x)) (Option.some.inj this)
theorem RG.cell1 (h : RG WB w U n M L N F1 F2 vs hs ls ms gv GL i k) (j : Nat) (hj : j < n) : ∃ b c, vs j = .slice (some ⟨b, 0, none⟩) (N j) c ∧ N j ≤ c ∧ c ≤ maxLen ∧ ∀ q, q < N j → w.cell? ⟨b, q, none⟩ = some (cb (F1 j q)) := by
  obtain ⟨b, c, e, h1, h2, h3, _⟩ := h.rw.row j hj
  refine ⟨b, c, e, h1, h2, fun q hq => ?_⟩
  obtain ⟨y, hy1, hy2⟩ := h3 q hq
  rw [h.wr1 j q hj hq] at hy2
  rw [hy1, Option.some.inj hy2]
end
end Go.Proofs.Ytjcbmlpfpcpakaa
