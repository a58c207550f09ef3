/- LoadOwn: a meter and rows that it gave, while these are written over and go on. -/
import Derived.Test.YtjgdeijodjihlaaD9h
import Derived.Test.YtjgdeijodjihlaaFam
import Derived.Test.YtjgdeijodjihlaaFlb
namespace Go.Proofs.Ytjgdeijodjihlaa
open Go.RowKit
open Ieee
set_option linter.unusedVariables false

theorem set_clock (m : Mt) (o : Sc) : ((setP m o).1 = true → ((setP m o).2.now : Int) = o.now) ∧ ((setP m o).1 = false → (setP m o).2 = m) := by
  have on : ∀ t : Int, ((onP m t).1 = 0 → ((onP m t).2.now : Int) = t) ∧ ((onP m t).1 ≠ 0 → (onP m t).2 = m) := fun t => by
    refine ⟨fun h => ?_, onP_bad⟩
    obtain ⟨h1, h2, h3, h4⟩ := onP_ok h
    rw [h4]
    show ((t.toNat : Nat) : Int) = t
    omega
  unfold setP
  by_cases k1 : o.kind = 1
  · rw [if_pos k1]
    unfold hitP
    split
    · exact ⟨fun h => by simp at h, fun _ => rfl⟩
    · by_cases h0 : (onP m o.now).1 = 0
      · rw [if_pos h0]
        exact ⟨fun _ => (on o.now).1 h0, fun h => by simp at h⟩
      · rw [if_neg h0]
        exact ⟨fun h => by simp at h; exact absurd h h0, fun _ => rfl⟩
  · rw [if_neg k1]
    split
    · exact ⟨fun h => (on o.now).1 (by simpa using h), fun h => (on o.now).2 (by simpa using h)⟩
    · exact ⟨fun h => by simp at h, fun _ => rfl⟩
theorem run_clock : ∀ (l : List Sc) (m : Mt) (c : Int), (m.now : Int) = c → ((runM m c l).1.now : Int) = (runM m c l).2
  | [], m, c, h => h
  | o :: r, m, c, h => by
    rw [runM_cons]
    refine run_clock r _ _ ?_
    cases hs : (setP m o).1 with
    | true => rw [if_pos rfl]; exact (set_clock m o).1 hs
    | false => rw [if_neg Bool.false_ne_true, (set_clock m o).2 hs]; exact h
/-- a hit at the clock's own time -/
theorem hit_now {m : Mt} (h : m.ok) : (hitP m 0 m.now 4607182418800017408).1 = 0 := by
  have h1 := h.l1
  have h2 := h.n1
  have hw : wtB 4607182418800017408 = true := by kernel_rfl
  have ho : (onP m m.now).1 = 0 := by
    unfold onP
    rw [if_neg (by omega), if_neg (by omega)]
  unfold hitP
  have c : ¬ ((0 : Int) < 0 ∨ (m.L.length : Int) ≤ 0 ∨ wtB 4607182418800017408 = false) := by
    rw [hw]
    rintro (h | h | h)
    · omega
    · omega
    · cases h
  rw [if_neg c, if_pos ho]
theorem hit_len (m : Mt) (s t : Int) (x : Nat) : (hitP m s t x).2.L.length = m.L.length := by
  unfold hitP
  split
  · rfl
  · split
    · unfold addM; simp [onP_len]
    · rfl
/-- what is written, and what is gone on with -/
def F1 (i k : Nat) : Nat := floatOfInt .f64 (-1000 * (i : Int) - k - 1)
def F2 (i k : Nat) : Nat := floatOfInt .f64 (1000 * (i : Int) + k + 7)
theorem ofInt_self (n : Int) : (FloatKind.f64.format.order (floatOfInt .f64 n) (floatOfInt .f64 n) != some .eq) = false := by
  have h : ∃ s m p, D64.read (floatOfInt .f64 n) = .number s m p ∨ ∃ s', D64.read (floatOfInt .f64 n) = .infinity s' := by
    have e : floatOfInt .f64 n = D64.nearest (decide (n < 0)) n.natAbs 0 := by
      have : ∀ f : Format, f.write (.number (decide (n < 0)) n.natAbs 0) = f.nearest (decide (n < 0)) n.natAbs 0 := fun _ => rfl
      exact this D64
    rw [e]
    obtain ⟨h1, h2⟩ := nearest_abs (decide (n < 0)) n.natAbs 0
    have hg := write_good n.natAbs 0
    rw [write_number] at hg
    unfold good inf64 at hg
    rcases read_cases _ h2 with ⟨s, m, p, hr, _⟩ | ⟨s, hr, _⟩ | ⟨s, f, hr, h⟩
    · exact ⟨s, m, p, Or.inl hr⟩
    · exact ⟨false, 0, 0, Or.inr ⟨s, hr⟩⟩
    · omega
  obtain ⟨s, m, p, h | ⟨s', h⟩⟩ := h
  · unfold Format.order
    rw [show FloatKind.f64.format.read (floatOfInt .f64 n) = _ from h]
    simp only [Datum.order, cmp_self]
    rfl
  · unfold Format.order
    rw [show FloatKind.f64.format.read (floatOfInt .f64 n) = _ from h]
    cases s' <;> rfl
theorem F1_self (i k : Nat) : (FloatKind.f64.format.order (F1 i k) (F1 i k) != some .eq) = false := ofInt_self _
theorem F2_self (i k : Nat) : (FloatKind.f64.format.order (F2 i k) (F2 i k) != some .eq) = false := ofInt_self _
theorem F1_run (i k : Nat) (w : World) : (convert 3 33 (.int .i64 (-1000 * (i : Int) - k - 1))).run Try.prog w = .ok (cf (F1 i k)) w :=
  run_convert_int_float (P := Try.prog) w 3 33 .i64 .f64 _ (by kernel_rfl) (by kernel_rfl)
theorem F2_run (i k : Nat) (w : World) : (convert 3 33 (.int .i64 (1000 * (i : Int) + k + 7))).run Try.prog w = .ok (cf (F2 i k)) w :=
  run_convert_int_float (P := Try.prog) w 3 33 .i64 .f64 _ (by kernel_rfl) (by kernel_rfl)
attribute [irreducible] F1 F2
theorem MB.grown {w w' : World} {g lb : Nat} {m : Mt} {row : Option Nat} (h : MB w g lb m) (k : w.grownBy w' row) (h1 : some g ≠ row) (h2 : some lb ≠ row) : MB w' g lb m := ⟨h.b.grown k h1, h.l.grown k h2, h.ok⟩
/-- four rows: three that are written over, and one that is not; the meter; the list of the three -/
structure LO (W w : World) (g lb ab : Nat) (m : Mt) (N : Nat) (vs hs : Nat → Value) (ls ms : Nat → List Nat) : Prop where
  ext : Ext W w
  mb : MB w g lb m
  fam : Fam w 33 cf 4 vs hs ls ms
  nv : ∀ j, j < 4 → some lb ≠ (vs j).ownBlock
  nh : ∀ j, j < 4 → some lb ≠ (hs j).ownBlock
  lv : ∀ j, j < 4 → ∀ x, (vs j).ownBlock = some x → W.heap.size ≤ x
  lh : ∀ j, j < 4 → ∀ x, (hs j).ownBlock = some x → W.heap.size ≤ x
  al : Blk w ab #[vs 0, vs 1, vs 2] 28
  la : ls 3 = m.L ∧ ms 3 = m.L
  len : ∀ j, j < 3 → (ls j).length = N
  pos : 0 < N ∧ N ≤ 64
theorem LO.ext' {W w w' : World} {g lb ab : Nat} {m : Mt} {N : Nat} {vs hs : Nat → Value} {ls ms : Nat → List Nat} (h : LO W w g lb ab m N vs hs ls ms) (e : Ext w w') : LO W w' g lb ab m N vs hs ls ms :=
  ⟨h.ext.trans e, h.mb.ext e, h.fam.ext e, h.nv, h.nh, h.lv, h.lh, h.al.ext e, h.la, h.len, h.pos⟩
theorem LO.drewN {W w : World} {g lb ab : Nat} {m : Mt} {N : Nat} {vs hs : Nat → Value} {ls ms : Nat → List Nat} (h : LO W w g lb ab m N vs hs ls ms) (n : Nat) : LO W (w.drewN n) g lb ab m N vs hs ls ms := h.ext' ((Ext.refl _).drewN n)
theorem LO.cell {W w : World} {g lb ab : Nat} {m : Mt} {N : Nat} {vs hs : Nat → Value} {ls ms : Nat → List Nat} (h : LO W w g lb ab m N vs hs ls ms) (i : Nat) (hi : i < 3) : w.cell? ⟨ab, i, none⟩ = some (vs i) := by
  rw [h.al.cell]
  match i, hi with
  | 0, _ => rfl
  | 1, _ => rfl
  | 2, _ => rfl
theorem LO.row {W w : World} {g lb ab : Nat} {m : Mt} {N : Nat} {vs hs : Nat → Value} {ls ms : Nat → List Nat} (h : LO W w g lb ab m N vs hs ls ms) (i : Nat) (hi : i < 3) :
    ∃ b c, vs i = .slice (some ⟨b, 0, none⟩) N c ∧ N ≤ c ∧ c ≤ maxLen ∧ Spn w 33 cf b c (ls i) ∧ W.heap.size ≤ b := by
  have hl := h.len i hi
  obtain ⟨b, c, e, hs⟩ := (h.fam.v i (by omega)).form (by have := h.pos; omega)
  rw [hl] at e
  exact ⟨b, c, e, by have := hs.le; omega, hs.mx, hs, h.lv i (by omega) b (by rw [e]; rfl)⟩
/-- one row more element -/
theorem LO.app {W w w' : World} {g lb ab : Nat} {m : Mt} {N : Nat} {vs hs : Nat → Value} {ls ms : Nat → List Nat} {i y : Nat} {v' : Value} (h : LO W w g lb ab m N vs hs ls ms) (hi : i < 3) (h1 : Sp w' 33 cf v' (ms i ++ [y])) (h2 : v'.ownBlock = (hs i).ownBlock ∨ v'.ownBlock = some w.heap.size) (h3 : w.grownBy w' (hs i).ownBlock)
    (h4 : v'.ownBlock ≠ none) (h5 : ∀ u l, Sp w 33 cf u l → l.length ≤ (ms i).length → Sp w' 33 cf u l) : LO W w' g lb ab m N vs (upd hs i v') ls (upd ms i (ms i ++ [y])) := by
  have hf := h.fam.app (by omega) h1 h2 h3 h4 h5
  have hsp := h.fam.h i (by omega)
  have hW := h.ext.size
  refine ⟨h.ext.grown h3 (fun x hx => h.lh i (by omega) x hx), h.mb.grown h3 (hsp.type h.mb.b (by decide)) (h.nh i (by omega)), hf, h.nv, fun j hj => ?_, h.lv, fun j hj x hx => ?_, h.al.grown h3 (hsp.type h.al (by decide)), ⟨h.la.1, ?_⟩, h.len, h.pos⟩
  · by_cases e : j = i
    · subst e
      rw [upd_self]
      rcases h2 with h2 | h2
      · rw [h2]; exact h.nh j hj
      · rw [h2]
        intro he
        have := Option.some.inj he
        have := h.mb.l.lt
        omega
    · rw [upd_ne _ _ e]; exact h.nh j hj
  · by_cases e : j = i
    · subst e
      rw [upd_self] at hx
      rcases h2 with h2 | h2
      · rw [h2] at hx; exact h.lh j hj x hx
      · rw [h2] at hx; cases hx; exact hW
    · rw [upd_ne _ _ e] at hx; exact h.lh j hj x hx
  · rw [upd_ne _ _ (by omega)]; exact h.la.2
/-- an element is written -/
theorem LO.set {W w : World} {g lb ab : Nat} {m : Mt} {N : Nat} {vs : Nat → Value} {ls : Nat → List Nat} {i k b : Nat} (x : Nat) (h : LO W w g lb ab m N vs vs ls ls) (hi : i < 3) (hk : k < N) (hb : (vs i).ownBlock = some b) :
    LO W (w.setCell ⟨b, k, none⟩ (cf x)) g lb ab m N vs vs (upd ls i ((ls i).set k x)) (upd ls i ((ls i).set k x)) := by
  have hf := h.fam.set (i := i) (k := k) (g := b) x (by omega) (by rw [h.len i hi]; exact hk) hb
  have hsp := h.fam.v i (by omega)
  have hgr := grown_set w b k (cf x)
  rw [← hb] at hgr
  refine ⟨h.ext.grown hgr (fun y hy => h.lv i (by omega) y hy), h.mb.grown hgr (hsp.type h.mb.b (by decide)) (h.nv i (by omega)), hf, h.nv, h.nv, h.lv, h.lv, h.al.grown hgr (hsp.type h.al (by decide)), ⟨?_, ?_⟩, fun j hj => ?_, h.pos⟩
  · rw [upd_ne _ _ (by omega)]; exact h.la.1
  · rw [upd_ne _ _ (by omega)]; exact h.la.1
  · by_cases e : j = i
    · subst e; rw [upd_self, List.length_set]; exact h.len j hj
    · rw [upd_ne _ _ e]; exact h.len j hj
theorem Sp.own_ne {α β : Type} {w : World} {T T' : TypeId} {f : α → Value} {f' : β → Value} {v u : Value} {l : List α} {m : List β} {B : Nat} (h : Sp w T f v l) (o : Own w B T' f' u m) (ht : T' ≠ T) : v.ownBlock = none ∨ v.ownBlock ≠ u.ownBlock := by
  rcases h with ⟨rfl, rfl⟩ | ⟨g, c, rfl, h⟩
  · exact Or.inl rfl
  · obtain ⟨cur, h1, _⟩ := h.blk
    exact Or.inr (o.type h1 ht)
/-- the list of grown rows goes on -/
theorem LO.list {W w w' : World} {g lb ab : Nat} {m : Mt} {N : Nat} {vs hs : Nat → Value} {ls ms : Nat → List Nat} {gv : Value} {GL : List Value} (h : LO W w g lb ab m N vs hs ls ms) (o : Own w W.heap.size 28 idv gv GL) (ha : some ab ≠ gv.ownBlock) (hg : w.grownBy w' gv.ownBlock) : LO W w' g lb ab m N vs hs ls ms := by
  have aux : ∀ v l, Sp w 33 cf v l → gv.ownBlock ≠ v.ownBlock ∨ gv.ownBlock = none := fun v l hv => by
    rcases hv.own_ne o (by decide) with hn | hn
    · cases hh : gv.ownBlock with
      | none => exact Or.inr rfl
      | some x => rw [hn]; exact Or.inl (by simp)
    · exact Or.inl (Ne.symm hn)
  exact ⟨h.ext.grown hg (fun x hx => (o.lt x hx).1), h.mb.grown hg (o.type h.mb.b (by decide)) (o.type h.mb.l (by decide)), h.fam.grown hg (fun j hj => aux _ _ (h.fam.v j hj)) (fun j hj => aux _ _ (h.fam.h j hj)), h.nv, h.nh, h.lv, h.lh, h.al.grown hg ha, h.la, h.len, h.pos⟩
theorem Sp.one {α : Type} {w : World} {T : TypeId} {f : α → Value} {v : Value} {l : List α} (h : Sp w T f v l) : v.oneCell' = true := by
  rcases h with ⟨rfl, rfl⟩ | ⟨g, c, rfl, h⟩ <;> rfl
/-- while rows grow: i of them have grown, and stand in the list -/
structure GR (W w : World) (g lb ab : Nat) (m : Mt) (N : Nat) (vs hs : Nat → Value) (ls ms : Nat → List Nat) (gv : Value) (GL : List Value) (i : Nat) : Prop where
  lo : LO W w g lb ab m N vs hs ls ms
  own : Own w W.heap.size 28 idv gv GL
  ne : some ab ≠ gv.ownBlock
  gl : GL.length = i
  at' : ∀ j, j < i → GL[j]? = some (hs j)
  done : ∀ j, j < i → (ms j).length = N + 80 ∧ ∀ q, q < 80 → (ms j)[N + q]? = some (F2 j q)
  todo : ∀ j, i ≤ j → hs j = vs j ∧ ms j = ls j
  wr1 : ∀ j q, j < 3 → q < N → (ls j)[q]? = some (F1 j q)
structure GI (W w : World) (g lb ab : Nat) (m : Mt) (N : Nat) (vs hs : Nat → Value) (ls ms : Nat → List Nat) (gv : Value) (GL : List Value) (i k : Nat) : Prop where
  lo : LO W w g lb ab m N vs hs ls ms
  own : Own w W.heap.size 28 idv gv GL
  ne : some ab ≠ gv.ownBlock
  gl : GL.length = i
  at' : ∀ j, j < i → GL[j]? = some (hs j)
  done : ∀ j, j < i → (ms j).length = N + 80 ∧ ∀ q, q < 80 → (ms j)[N + q]? = some (F2 j q)
  cur : (ms i).length = N + k ∧ ∀ q, q < k → (ms i)[N + q]? = some (F2 i q)
  todo : ∀ j, i < j → hs j = vs j ∧ ms j = ls j
  wr1 : ∀ j q, j < 3 → q < N → (ls j)[q]? = some (F1 j q)
section
variable {W w : World} {g lb ab : Nat} {m : Mt} {N : Nat} {vs hs : Nat → Value} {ls ms : Nat → List Nat} {gv : Value} {GL : List Value} {i k : Nat}
theorem GR.start (h : GR W w g lb ab m N vs hs ls ms gv GL i) (hi : i < 3) : GI W w g lb ab m N vs hs ls ms gv GL i 0 :=
  ⟨h.lo, h.own, h.ne, h.gl, h.at', h.done, ⟨by rw [(h.todo i (Nat.le_refl _)).2]; exact h.lo.len i hi, fun q hq => by omega⟩, fun j hj => h.todo j (by omega), h.wr1⟩
theorem GI.app {w1 w2 : World} {v' : Value} (h : GI W w g lb ab m N vs hs ls ms gv GL i k) (e : Ext w w1) (hi : i < 3) (h1 : Sp w2 33 cf v' (ms i ++ [F2 i k])) (h2 : v'.ownBlock = (hs i).ownBlock ∨ v'.ownBlock = some w1.heap.size) (h3 : w1.grownBy w2 (hs i).ownBlock)
    (h4 : v'.ownBlock ≠ none) (h5 : ∀ u l, Sp w1 33 cf u l → l.length ≤ (ms i).length → Sp w2 33 cf u l) : GI W w2 g lb ab m N vs (upd hs i v') ls (upd ms i (ms i ++ [F2 i k])) gv GL i (k + 1) := by
  have ho := e.own h.own
  have hsp := (h.lo.fam.h i (by omega)).ext e
  refine ⟨(h.lo.ext' e).app hi h1 h2 h3 h4 h5, ho.kept h3 ?_, h.ne, h.gl, fun j hj => ?_, fun j hj => ?_, ⟨?_, fun q hq => ?_⟩, fun j hj => ?_, h.wr1⟩
  · rcases hsp.own_ne ho (by decide) with hn | hn
    · rw [hn]
      cases hh : gv.ownBlock with
      | none => exact Or.inl rfl
      | some x => exact Or.inr (by simp)
    · exact Or.inr (Ne.symm hn)
  · rw [upd_ne _ _ (by omega)]; exact h.at' j hj
  · rw [upd_ne _ _ (by omega)]; exact h.done j hj
  · rw [upd_self, List.length_append, h.cur.1]; rfl
  · rw [upd_self]
    by_cases e : q = k
    · subst e
      rw [List.getElem?_append_right (by rw [h.cur.1]; exact Nat.le_refl _), h.cur.1, Nat.sub_self]
      rfl
    · rw [List.getElem?_append_left (by rw [h.cur.1]; omega)]
      exact h.cur.2 q (by omega)
  · rw [upd_ne _ _ (by omega), upd_ne _ _ (by omega)]; exact h.todo j hj
theorem GI.push {w1 w2 : World} {gv' : Value} (h : GI W w g lb ab m N vs hs ls ms gv GL i 80) (e : Ext w w1) (hi : i < 3) (h1 : Own w2 W.heap.size 28 idv gv' (GL ++ [hs i])) (h2 : w1.grownBy w2 gv.ownBlock) (h3 : gv'.ownBlock = gv.ownBlock ∨ gv'.ownBlock = some w1.heap.size) :
    GR W w2 g lb ab m N vs hs ls ms gv' (GL ++ [hs i]) (i + 1) := by
  have hlo := h.lo.ext' e
  refine ⟨hlo.list (e.own h.own) h.ne h2, h1, ?_, by rw [List.length_append, h.gl]; rfl, fun j hj => ?_, fun j hj => ?_, fun j hj => h.todo j (by omega), h.wr1⟩
  · rcases h3 with h3 | h3
    · rw [h3]; exact h.ne
    · rw [h3]
      intro he
      have := Option.some.inj he
      have := hlo.al.lt
      omega
  · by_cases e : j = i
    · subst e
      rw [List.getElem?_append_right (by rw [h.gl]; exact Nat.le_refl _), h.gl, Nat.sub_self]
      rfl
    · rw [List.getElem?_append_left (by rw [h.gl]; omega)]
      exact h.at' j (by omega)
  · by_cases e : j = i
    · subst e; exact h.cur
    · exact h.done j (by omega)
theorem GR.cells (h : GR W w g lb ab m N vs hs ls ms gv GL 3) : ∃ gg cg, gv = .slice (some ⟨gg, 0, none⟩) 3 cg ∧ ∀ i, i < 3 → w.cell? ⟨gg, i, none⟩ = some (hs i) := by
  obtain ⟨gg, cg, cur, rfl, _, hg, _, _, hc⟩ := h.own.form1 (by rw [h.gl]; omega)
  rw [h.gl]
  refine ⟨gg, cg, rfl, fun i hi => ?_⟩
  have hl : i < GL.length := by rw [h.gl]; exact hi
  rw [cell_of_row w gg i cur 28 (0, 0) hg, hc i hl]
  have := h.at' i hi
  rw [List.getElem?_eq_getElem hl] at this
  exact this
theorem GR.grow (h : GR W w g lb ab m N vs hs ls ms gv GL 3) (i : Nat) (hi : i < 3) : ∃ b c, hs i = .slice (some ⟨b, 0, none⟩) (N + 80) c ∧ N + 80 ≤ c ∧ c ≤ maxLen ∧ ∀ q, q < 80 → w.cell? ⟨b, N + q, none⟩ = some (cf (F2 i q)) := by
  obtain ⟨hl, hf⟩ := h.done i hi
  obtain ⟨b, c, e, hs⟩ := (h.lo.fam.h i (by omega)).form (by omega)
  rw [hl] at e
  refine ⟨b, c, e, by have := hs.le; omega, hs.mx, fun q hq => ?_⟩
  have hq' : N + q < (ms i).length := by omega
  rw [hs.cell _ hq']
  have := hf q hq
  rw [List.getElem?_eq_getElem hq'] at this
  exact congrArg (fun x => some (cf x)) (Option.some.inj this)
theorem GR.cell1 (h : GR W w g lb ab m N vs hs ls ms gv GL i) (j : Nat) (hj : j < 3) : ∃ b c, vs j = .slice (some ⟨b, 0, none⟩) N c ∧ N ≤ c ∧ c ≤ maxLen ∧ ∀ q, q < N → w.cell? ⟨b, q, none⟩ = some (cf (F1 j q)) := by
  obtain ⟨b, c, e, h1, h2, hs, _⟩ := h.lo.row j hj
  refine ⟨b, c, e, h1, h2, fun q hq => ?_⟩
  have hq' : q < (ls j).length := by rw [h.lo.len j hj]; exact hq
  rw [hs.cell _ hq']
  have := h.wr1 j q hj hq
  rw [List.getElem?_eq_getElem hq'] at this
  exact congrArg (fun x => some (cf x)) (Option.some.inj this)
end
theorem Own.spn {α : Type} {w : World} {B : Nat} {T : TypeId} {f : α → Value} {v : Value} {l : List α} {N : Nat} (h : Own w B T f v l) (hl : l.length = N) (h0 : 0 < N) : ∃ g c, v = .slice (some ⟨g, 0, none⟩) N c ∧ Spn w T f g c l ∧ B ≤ g ∧ g < w.heap.size ∧ N ≤ c ∧ c ≤ maxLen := by
  subst hl
  obtain ⟨g, c, e, hs⟩ := h.sp.form h0
  subst e
  exact ⟨g, c, rfl, hs, (h.lt g rfl).1, (h.lt g rfl).2, hs.le, hs.mx⟩
theorem Spn.grw2 {α : Type} {w w' : World} {T : TypeId} {f : α → Value} {b c g l : Nat} {xs : List α} (h : Spn w T f b c xs) (k : Grw2 w w' g l) (h1 : b ≠ g) (h2 : b ≠ l) : Spn w' T f b c xs := by
  obtain ⟨cur, b1, b2, b3⟩ := h.blk
  exact ⟨h.le, h.mx, cur, b1.grw2 k h1 h2, b2, b3⟩
def four {β : Type} (a b c d : β) : Nat → β := fun j => if j = 0 then a else if j = 1 then b else if j = 2 then c else d
theorem LO.made {W w : World} {g lb ab a b c d ca cb cc cd N : Nat} {m : Mt} {La Lb : List Nat} (e : Ext W w) (mb : MB w g lb m) (sa : Spn w 33 cf a ca La) (sb : Spn w 33 cf b cb Lb) (sc : Spn w 33 cf c cc m.L) (sd : Spn w 33 cf d cd m.L)
    (na : La.length = N) (nb : Lb.length = N) (nc : m.L.length = N) (hp : 0 < N ∧ N ≤ 64) (d1 : a ≠ b ∧ a ≠ c ∧ a ≠ d ∧ b ≠ c ∧ b ≠ d ∧ c ≠ d) (d2 : lb ≠ a ∧ lb ≠ b ∧ lb ≠ c ∧ lb ≠ d) (lo : W.heap.size ≤ a ∧ W.heap.size ≤ b ∧ W.heap.size ≤ c ∧ W.heap.size ≤ d)
    (al : Blk w ab #[.slice (some ⟨a, 0, none⟩) N ca, .slice (some ⟨b, 0, none⟩) N cb, .slice (some ⟨c, 0, none⟩) N cc] 28) :
    ∃ vs ls, vs 0 = .slice (some ⟨a, 0, none⟩) N ca ∧ vs 1 = .slice (some ⟨b, 0, none⟩) N cb ∧ vs 2 = .slice (some ⟨c, 0, none⟩) N cc ∧ vs 3 = .slice (some ⟨d, 0, none⟩) N cd ∧ LO W w g lb ab m N vs vs ls ls := by
  have hb : ∀ (j : Nat), j < 4 → (four (Value.slice (some ⟨a, 0, none⟩) N ca) (Value.slice (some ⟨b, 0, none⟩) N cb) (Value.slice (some ⟨c, 0, none⟩) N cc) (Value.slice (some ⟨d, 0, none⟩) N cd) j).ownBlock = some (four a b c d j) := fun j hj => by
    match j, hj with
    | 0, _ => rfl
    | 1, _ => rfl
    | 2, _ => rfl
    | 3, _ => rfl
  have hd : ∀ i j : Nat, i < 4 → j < 4 → i ≠ j → four a b c d i ≠ four a b c d j := fun i j hi hj hij => by
    obtain ⟨h1, h2, h3, h4, h5, h6⟩ := d1
    match i, j, hi, hj with
    | 0, 0, _, _ => exact absurd rfl hij
    | 0, 1, _, _ => exact h1
    | 0, 2, _, _ => exact h2
    | 0, 3, _, _ => exact h3
    | 1, 0, _, _ => exact Ne.symm h1
    | 1, 1, _, _ => exact absurd rfl hij
    | 1, 2, _, _ => exact h4
    | 1, 3, _, _ => exact h5
    | 2, 0, _, _ => exact Ne.symm h2
    | 2, 1, _, _ => exact Ne.symm h4
    | 2, 2, _, _ => exact absurd rfl hij
    | 2, 3, _, _ => exact h6
    | 3, 0, _, _ => exact Ne.symm h3
    | 3, 1, _, _ => exact Ne.symm h5
    | 3, 2, _, _ => exact Ne.symm h6
    | 3, 3, _, _ => exact absurd rfl hij
  have hl : ∀ j : Nat, j < 4 → lb ≠ four a b c d j ∧ W.heap.size ≤ four a b c d j := fun j hj => by
    match j, hj with
    | 0, _ => exact ⟨d2.1, lo.1⟩
    | 1, _ => exact ⟨d2.2.1, lo.2.1⟩
    | 2, _ => exact ⟨d2.2.2.1, lo.2.2.1⟩
    | 3, _ => exact ⟨d2.2.2.2, lo.2.2.2⟩
  refine ⟨four (.slice (some ⟨a, 0, none⟩) N ca) (.slice (some ⟨b, 0, none⟩) N cb) (.slice (some ⟨c, 0, none⟩) N cc) (.slice (some ⟨d, 0, none⟩) N cd), four La Lb m.L m.L, rfl, rfl, rfl, rfl, ?_⟩
  refine ⟨e, mb, Fam.start (fun j hj => ?_) (fun i j hi hj hij => Or.inr ?_), fun j hj => ?_, fun j hj => ?_, fun j hj x hx => ?_, fun j hj x hx => ?_, al, ⟨rfl, rfl⟩, fun j hj => ?_, hp⟩
  · match j, hj with
    | 0, _ => exact Or.inr ⟨a, ca, by rw [← na]; rfl, sa⟩
    | 1, _ => exact Or.inr ⟨b, cb, by rw [← nb]; rfl, sb⟩
    | 2, _ => exact Or.inr ⟨c, cc, by rw [← nc]; rfl, sc⟩
    | 3, _ => exact Or.inr ⟨d, cd, by rw [← nc]; rfl, sd⟩
  · rw [hb i hi, hb j hj]
    exact fun h => hd i j hi hj hij (Option.some.inj h)
  · rw [hb j hj]; exact fun h => (hl j hj).1 (Option.some.inj h)
  · rw [hb j hj]; exact fun h => (hl j hj).1 (Option.some.inj h)
  · rw [hb j hj] at hx; cases hx; exact (hl j hj).2
  · rw [hb j hj] at hx; cases hx; exact (hl j hj).2
  · match j, hj with
    | 0, _ => exact na
    | 1, _ => exact nb
    | 2, _ => exact nc
end Go.Proofs.Ytjgdeijodjihlaa
