/- DiceOwn: the walk of the law. -/
import Derived.Test.YtaneknfhilfalaaD7h
import Derived.Deep.CutRange
import Derived.Deep.RegionHeld
import Derived.Deep.DeepCutAuto
namespace Go.Proofs.Ytaneknfhilfalaa
open Go.RowKit
set_option linter.unusedVariables false

/-- two dice and three rows that they gave, and a copy of the second -/
structure Q1 (W w : World) (gd ge A B C : Nat) (sd se : BitVec 64) (la lb lc : List Int) (wv : Value) (l2 : List Int) : Prop where
  ext : Ext W w
  d : DB w gd sd
  e : DB w ge se
  a : Blk w A (V ci la) 3
  b : Blk w B (V ci lb) 3
  c : Blk w C (V ci lc) 3
  o : Own w W.heap.size 3 ci wv l2
  lo : W.heap.size ≤ gd ∧ W.heap.size ≤ ge ∧ W.heap.size ≤ A ∧ W.heap.size ≤ B ∧ W.heap.size ≤ C
  de : gd ≠ ge
  ab : A ≠ B
  ac : A ≠ C
  bc : B ≠ C
  oa : wv.ownBlock ≠ some A
  ob : wv.ownBlock ≠ some B
  oc : wv.ownBlock ≠ some C
theorem Q1.ext' {W w w' : World} {gd ge A B C : Nat} {sd se : BitVec 64} {la lb lc : List Int} {wv : Value} {l2 : List Int} (h : Q1 W w gd ge A B C sd se la lb lc wv l2) (x : Ext w w') : Q1 W w' gd ge A B C sd se la lb lc wv l2 :=
  ⟨h.ext.trans x, h.d.ext x, h.e.ext x, h.a.ext x, h.b.ext x, h.c.ext x, x.own h.o, h.lo, h.de, h.ab, h.ac, h.bc, h.oa, h.ob, h.oc⟩
/-- the list that a block holds, all of it -/
theorem Blk.whole' {α : Type} {w : World} {f : α → Value} {g : Nat} {l : List α} {T : TypeId} {n c : Nat} (h : Blk w g (V f l) T) (hn : n = l.length) : Rd w f (.slice (some ⟨g, 0, none⟩) n c) l := by
  subst hn
  rcases Nat.eq_zero_or_pos l.length with h0 | h0
  · have : l = [] := List.eq_nil_of_length_eq_zero h0
    subst this
    exact Or.inl ⟨_, _, rfl, rfl, fun h => by cases h⟩
  · refine Or.inr ⟨_, _, _, _, rfl, rfl, h0, fun i hi => ?_⟩
    rw [Nat.zero_add, h.cell, V_get, List.getElem?_eq_getElem hi]
    rfl
theorem Q1.acell {W w : World} {gd ge A B C : Nat} {sd se : BitVec 64} {la lb lc : List Int} {wv : Value} {l2 : List Int} (h : Q1 W w gd ge A B C sd se la lb lc wv l2) (i : Nat) (hi : i < la.length) : ∃ x, w.cell? ⟨A, i, none⟩ = some (ci x) :=
  ⟨la[i], by rw [h.a.cell, V_get, List.getElem?_eq_getElem hi]; rfl⟩
theorem Q1.bcell {W w : World} {gd ge A B C : Nat} {sd se : BitVec 64} {la lb lc : List Int} {wv : Value} {l2 : List Int} (h : Q1 W w gd ge A B C sd se la lb lc wv l2) (i : Nat) (hi : i < lb.length) : ∃ x, w.cell? ⟨B, i, none⟩ = some (ci x) :=
  ⟨lb[i], by rw [h.b.cell, V_get, List.getElem?_eq_getElem hi]; rfl⟩
theorem Q1.ccell {W w : World} {gd ge A B C : Nat} {sd se : BitVec 64} {la lb lc : List Int} {wv : Value} {l2 : List Int} (h : Q1 W w gd ge A B C sd se la lb lc wv l2) (i : Nat) (hi : i < lc.length) : ∃ x, w.cell? ⟨C, i, none⟩ = some (ci x) :=
  ⟨lc[i], by rw [h.c.cell, V_get, List.getElem?_eq_getElem hi]; rfl⟩
theorem db_ne' {w : World} {b g : Nat} {s : BitVec 64} {c : Array Value} (h : DB w b s) (k : Blk w g c 3) : b ≠ g := fun e => by
  subst e; exact absurd (Blk.type h k) (by decide)
theorem Q1.fill {W w : World} {gd ge A B C : Nat} {sd se : BitVec 64} {L1 L2 L3 : List Int} {wv : Value} {l2 : List Int} (k : Nat) (h : Q1 W w gd ge A B C sd se (fillF 1000 k L1) (fillF 2000 k L2) (fillF 3000 k L3) wv l2) (h1 : k < L1.length) (h2 : k < L2.length) (h3 : k < L3.length) :
    Q1 W (((w.setCell ⟨A, k, none⟩ (ci (1000 + k))).setCell ⟨B, k, none⟩ (ci (2000 + k))).setCell ⟨C, k, none⟩ (ci (3000 + k))) gd ge A B C sd se (fillF 1000 (k + 1) L1) (fillF 2000 (k + 1) L2) (fillF 3000 (k + 1) L3) wv l2 := by
  refine ⟨((h.ext.set h.lo.2.2.1 _).set h.lo.2.2.2.1 _).set h.lo.2.2.2.2 _, ?_, ?_, ?_, ?_, ?_, ?_, h.lo, h.de, h.ab, h.ac, h.bc, h.oa, h.ob, h.oc⟩
  · exact ((Blk.far h.d ⟨A, k, none⟩ (db_ne' h.d h.a) _).far ⟨B, k, none⟩ (db_ne' h.d h.b) _).far ⟨C, k, none⟩ (db_ne' h.d h.c) _
  · exact ((Blk.far h.e ⟨A, k, none⟩ (db_ne' h.e h.a) _).far ⟨B, k, none⟩ (db_ne' h.e h.b) _).far ⟨C, k, none⟩ (db_ne' h.e h.c) _
  · have := (((h.a.set k (ci (1000 + k))).far ⟨B, k, none⟩ h.ab (ci (2000 + k))).far ⟨C, k, none⟩ h.ac (ci (3000 + k)))
    rw [V_set, fillF_set _ _ _ h1] at this; exact this
  · have := (((h.b.far ⟨A, k, none⟩ (Ne.symm h.ab) (ci (1000 + k))).set k (ci (2000 + k))).far ⟨C, k, none⟩ h.bc (ci (3000 + k)))
    rw [V_set, fillF_set _ _ _ h2] at this; exact this
  · have := (((h.c.far ⟨A, k, none⟩ (Ne.symm h.ac) (ci (1000 + k))).far ⟨B, k, none⟩ (Ne.symm h.bc) (ci (2000 + k))).set k (ci (3000 + k)))
    rw [V_set, fillF_set _ _ _ h3] at this; exact this
  · exact ((h.o.kept (grown_set _ A k _) (Or.inr h.oa)).kept (grown_set _ B k _) (Or.inr h.ob)).kept (grown_set _ C k _) (Or.inr h.oc)
theorem Q1.grown {W w w' : World} {gd ge A B C : Nat} {sd se : BitVec 64} {la lb lc : List Int} {wv v : Value} {l2 l : List Int} (h : Q1 W w gd ge A B C sd se la lb lc wv l2) (o : Own w W.heap.size 3 ci v l) (hp : ∀ p ∈ [some A, some B, some C, wv.ownBlock], p ≠ v.ownBlock) (k : w.grownBy w' v.ownBlock) : Q1 W w' gd ge A B C sd se la lb lc wv l2 :=
  ⟨h.ext.grown k (fun g hg => (o.lt g hg).1), Blk.grown h.d k (o.type h.d (by decide)), Blk.grown h.e k (o.type h.e (by decide)), h.a.grown k (hp _ (by simp)), h.b.grown k (hp _ (by simp)), h.c.grown k (hp _ (by simp)), h.o.kept k (Or.inr (hp _ (by simp))), h.lo, h.de, h.ab, h.ac, h.bc, h.oa, h.ob, h.oc⟩
/-- three rows of the call's own, apart -/
structure R3 (W w : World) (A B C : Nat) (wv xv yv zv : Value) (lx ly lz : List Int) : Prop where
  x : Own w W.heap.size 3 ci xv lx
  y : Own w W.heap.size 3 ci yv ly
  z : Own w W.heap.size 3 ci zv lz
  px : ∀ p ∈ [some A, some B, some C, wv.ownBlock], p ≠ xv.ownBlock
  py : ∀ p ∈ [some A, some B, some C, wv.ownBlock], p ≠ yv.ownBlock
  pz : ∀ p ∈ [some A, some B, some C, wv.ownBlock], p ≠ zv.ownBlock
  xy : xv.ownBlock ≠ yv.ownBlock
  xz : xv.ownBlock ≠ zv.ownBlock
  yz : yv.ownBlock ≠ zv.ownBlock
theorem R3.rot {W w : World} {A B C : Nat} {wv xv yv zv : Value} {lx ly lz : List Int} (h : R3 W w A B C wv xv yv zv lx ly lz) : R3 W w A B C wv yv zv xv ly lz lx :=
  ⟨h.y, h.z, h.x, h.py, h.pz, h.px, h.yz, Ne.symm h.xy, Ne.symm h.xz⟩
theorem R3.ext' {W w w' : World} {A B C : Nat} {wv xv yv zv : Value} {lx ly lz : List Int} (h : R3 W w A B C wv xv yv zv lx ly lz) (e : Ext w w') : R3 W w' A B C wv xv yv zv lx ly lz :=
  ⟨e.own h.x, e.own h.y, e.own h.z, h.px, h.py, h.pz, h.xy, h.xz, h.yz⟩
theorem R3.app {W w w1 w2 : World} {gd ge A B C : Nat} {sd se : BitVec 64} {la lb lc : List Int} {wv xv yv zv xv' : Value} {l2 lx ly lz : List Int} {u : Int} (q : Q1 W w gd ge A B C sd se la lb lc wv l2) (r : R3 W w A B C wv xv yv zv lx ly lz) (e : Ext w w1)
    (ho : Own w2 W.heap.size 3 ci xv' (lx ++ [u])) (hg : w1.grownBy w2 xv.ownBlock) (hb : xv'.ownBlock = xv.ownBlock ∨ xv'.ownBlock = some w1.heap.size) : Q1 W w2 gd ge A B C sd se la lb lc wv l2 ∧ R3 W w2 A B C wv xv' yv zv (lx ++ [u]) ly lz := by
  have q1 := q.ext' e
  have r1 := r.ext' e
  have hlt : ∀ p ∈ [some A, some B, some C, wv.ownBlock, yv.ownBlock, zv.ownBlock], p ≠ some w1.heap.size := fun p hp he => by
    simp only [List.mem_cons, List.not_mem_nil, or_false] at hp
    rcases hp with rfl | rfl | rfl | rfl | rfl | rfl
    · have := q1.a.lt; have := Option.some.inj he; omega
    · have := q1.b.lt; have := Option.some.inj he; omega
    · have := q1.c.lt; have := Option.some.inj he; omega
    · have := (q1.o.lt _ he).2; omega
    · have := (r1.y.lt _ he).2; omega
    · have := (r1.z.lt _ he).2; omega
  refine ⟨q1.grown r1.x r.px hg, ho, r1.y.kept hg (Or.inr (Ne.symm r.xy)), r1.z.kept hg (Or.inr (Ne.symm r.xz)), fun p hp => ?_, r.py, r.pz, ?_, ?_, r.yz⟩
  · rcases hb with b | b
    · rw [b]; exact r.px p hp
    · rw [b]
      refine hlt p ?_
      simp only [List.mem_cons, List.not_mem_nil, or_false] at hp ⊢
      rcases hp with h | h | h | h <;> simp [h]
  · rcases hb with b | b
    · rw [b]; exact r.xy
    · rw [b]; exact Ne.symm (hlt _ (by simp))
  · rcases hb with b | b
    · rw [b]; exact r.xz
    · rw [b]; exact Ne.symm (hlt _ (by simp))
theorem R3.made {W w w1 w2 w3 w4 w5 w6 : World} {gd ge A B C : Nat} {sd se : BitVec 64} {la lb lc : List Int} {wv xv yv zv : Value} {l2 lx ly lz : List Int} (q : Q1 W w gd ge A B C sd se la lb lc wv l2)
    (e1 : Ext w w1) (ox : Own w2 w1.heap.size 3 ci xv lx) (e2 : Ext w1 w2) (e3 : Ext w2 w3) (oy : Own w4 w3.heap.size 3 ci yv ly) (e4 : Ext w3 w4) (e5 : Ext w4 w5) (oz : Own w6 w5.heap.size 3 ci zv lz) (e6 : Ext w5 w6) (nx : xv.ownBlock ≠ none) (ny : yv.ownBlock ≠ none) (nz : zv.ownBlock ≠ none) :
    Q1 W w6 gd ge A B C sd se la lb lc wv l2 ∧ R3 W w6 A B C wv xv yv zv lx ly lz := by
  have s1 := e1.size
  have s2 := e2.size
  have s3 := e3.size
  have s4 := e4.size
  have s5 := e5.size
  have hW := q.ext.size
  have base : ∀ {v : Value} {g : Nat}, (∀ k, v.ownBlock = some k → g ≤ k) → w.heap.size ≤ g → v.ownBlock ≠ none → ∀ p ∈ [some A, some B, some C, wv.ownBlock], p ≠ v.ownBlock := fun {v g} hv hg hn p hp he => by
    cases hk : v.ownBlock with
    | none => exact hn hk
    | some k =>
      have h1 := hv k hk
      rw [hk] at he
      simp only [List.mem_cons, List.not_mem_nil, or_false] at hp
      rcases hp with rfl | rfl | rfl | rfl
      · have := q.a.lt; have := Option.some.inj he; omega
      · have := q.b.lt; have := Option.some.inj he; omega
      · have := q.c.lt; have := Option.some.inj he; omega
      · have := (q.o.lt _ he).2; omega
  have lx' := fun k (h : xv.ownBlock = some k) => (ox.lt k h).1
  have ly' := fun k (h : yv.ownBlock = some k) => (oy.lt k h).1
  have lz' := fun k (h : zv.ownBlock = some k) => (oz.lt k h).1
  have e26 : Ext w2 w6 := ((e3.trans e4).trans e5).trans e6
  have e46 : Ext w4 w6 := e5.trans e6
  refine ⟨q.ext' ((e1.trans e2).trans e26), (e26.own ox).mono (by omega), (e46.own oy).mono (by omega), oz.mono (by omega), base lx' (by omega) nx, base ly' (by omega) ny, base lz' (by omega) nz, fun h => ?_, fun h => ?_, fun h => ?_⟩
  · cases hk : yv.ownBlock with
    | none => exact ny hk
    | some k => have := (ox.lt k (h.trans hk)).2; have := ly' k hk; omega
  · cases hk : zv.ownBlock with
    | none => exact nz hk
    | some k => have := (ox.lt k (h.trans hk)).2; have := lz' k hk; omega
  · cases hk : zv.ownBlock with
    | none => exact nz hk
    | some k => have := (oy.lt k (h.trans hk)).2; have := lz' k hk; omega
theorem Own.some' {α : Type} {w : World} {B : Nat} {T : TypeId} {f : α → Value} {v : Value} {l : List α} (h : Own w B T f v l) (hl : 0 < l.length) : v.ownBlock ≠ none := by
  obtain ⟨g, c, rfl, _⟩ := h.has hl
  intro h; cases h
theorem Blk.atcnt {w : World} {A n : Nat} {c : Int} (h : Blk w A (V ci (cnt c n)) 3) (i : Nat) (hi : i < n) : w.cell? ⟨A, i, none⟩ = some (ci (c + i)) := by
  have hl : i < (cnt c n).length := by rw [cnt_len]; exact hi
  rw [h.cell, V_get, List.getElem?_eq_getElem hl, cnt_get]
  rfl
theorem Own.tail {w : World} {B N M : Nat} {a b : Int} {v : Value} (h : Own w B 3 ci v (cnt a N ++ cnt b M)) (hM : 0 < M) : ∃ g c, v = .slice (some ⟨g, 0, none⟩) (N + M) c ∧ ∀ i : Nat, i < M → w.cell? ⟨g, N + i, none⟩ = some (ci (b + i)) := by
  have hl : (cnt a N ++ cnt b M).length = N + M := by rw [List.length_append, cnt_len, cnt_len]
  obtain ⟨g, c, cur, rfl, _, hg, _, _, hc⟩ := h.form1 (by omega)
  rw [hl]
  refine ⟨g, c, rfl, fun i hi => ?_⟩
  have hi' : N + i < (cnt a N ++ cnt b M).length := by omega
  rw [cell_of_row w g _ cur 3 (0, 0) hg, hc _ hi', List.getElem_append_right (by rw [cnt_len]; omega), cnt_get, cnt_len]
  congr 2
  rw [show N + i - N = i by omega]
theorem HasRow.grown {α : Type} {w w' : World} {f : α → Value} {T : TypeId} {g : Nat} {l : List α} {row : Option Nat} (h : HasRow w f T g l) (k : w.grownBy w' row) (hg : some g ≠ row) : HasRow w' f T g l := by
  obtain ⟨cur, h1, h2⟩ := h
  exact ⟨cur, Blk.grown h1 k hg, h2⟩
theorem HasRow.set {α : Type} {w : World} {f : α → Value} {T : TypeId} {g : Nat} {l : List α} (h : HasRow w f T g l) (i : Nat) (a : α) (hi : i < l.length) : HasRow (w.setCell ⟨g, i, none⟩ (f a)) f T g (l.set i a) := by
  obtain ⟨cur, h1, h2⟩ := h
  have hc : i < cur.size := (Array.getElem?_eq_some_iff.1 (h2 i hi)).1
  refine ⟨_, Blk.set h1 i (f a), fun j hj => ?_⟩
  rw [List.length_set] at hj
  by_cases e : i = j
  · subst e; simp [hc]
  · rw [Array.getElem?_setIfInBounds_ne (by omega), h2 j hj, List.getElem_set_ne e]
theorem HasRow.free {α : Type} {w : World} {f : α → Value} {T : TypeId} {g : Nat} {l : List α} (h : HasRow w f T g l) (i : Nat) : w.frozen? ⟨g, i, none⟩ = false := by
  obtain ⟨cur, h1, h2⟩ := h
  exact Blk.free h1 i
theorem HasRow.neD {α : Type} {w : World} {f : α → Value} {T : TypeId} {g b : Nat} {s : BitVec 64} {l : List α} (h : HasRow w f T g l) (d : DB w b s) (hT : T ≠ 69) : b ≠ g := by
  obtain ⟨cur, h1, h2⟩ := h
  rintro rfl
  exact hT (Blk.type (show Blk w b cur T from h1) d)
theorem bitsOf_lt {l : List (BitVec 64)} : ∀ x ∈ bitsOf l, x < 18446744073709551616 := fun x hx => by
  obtain ⟨y, _, rfl⟩ := List.mem_map.1 hx
  exact y.isLt
theorem third_lt (k : Nat) : wholeW (k % 3) < 18446744073709551616 := by
  have h0 : wholeW 0 < 18446744073709551616 := of_decide_eq_true (by kernel_rfl)
  have h1 : wholeW 1 < 18446744073709551616 := of_decide_eq_true (by kernel_rfl)
  have h2 : wholeW 2 < 18446744073709551616 := of_decide_eq_true (by kernel_rfl)
  have : k % 3 < 3 := Nat.mod_lt _ (by decide)
  generalize k % 3 = m at *
  match m, this with
  | 0, _ => exact h0
  | 1, _ => exact h1
  | 2, _ => exact h2
/-- what stands while the weights are written over -/
structure W5 (W w : World) (gd ge g : Nat) (sd se : BitVec 64) (L : List Nat) (x : Nat) : Prop where
  ext : Ext W w
  d : DB w gd sd
  e : DB w ge se
  r : HasRow w cf 37 g (L ++ [x])
  lt : ∀ y ∈ L, y < 18446744073709551616
theorem W5.fill {W w : World} {gd ge g : Nat} {sd se : BitVec 64} {L : List Nat} {x : Nat} (h : W5 W w gd ge g sd se L x) (k a : Nat) (hk : k < L.length) (hg : W.heap.size ≤ g) (ha : a < 18446744073709551616) : W5 W (w.setCell ⟨g, k, none⟩ (cf a)) gd ge g sd se (L.set k a) x := by
  refine ⟨h.ext.set hg _, Blk.far h.d ⟨g, k, none⟩ (h.r.neD h.d (by decide)) _, Blk.far h.e ⟨g, k, none⟩ (h.r.neD h.e (by decide)) _, ?_, fun y hy => ?_⟩
  · have := h.r.set k a (by rw [List.length_append]; omega)
    rw [List.set_append_left _ _ hk] at this
    exact this
  · rcases List.mem_or_eq_of_mem_set hy with h1 | h1
    · exact h.lt y h1
    · rw [h1]; exact ha
theorem ci_one (a : Int) : (ci a).oneCell' = true := rfl
theorem db_ne {w : World} {b g : Nat} {s : BitVec 64} {c : Array Value} {t : TypeId} (h : DB w b s) (k : Blk w g c t) (ht : t ≠ 69) : b ≠ g := fun e => by
  subst e; exact ht (Blk.type h k).symm
set_option maxHeartbeats 4000000 in
set_option maxRecDepth 100000 in
theorem own_walk (seed : BitVec 64) (n : Int) (bv : Value) (bits : List (BitVec 64)) (W : World) (hn : -9223372036854775808 ≤ n ∧ n ≤ 9223372036854775807) (hb : Rd W cw bv bits) (hbm : bits.length * 8 ≤ 140737488351232) :
    Calls Try.prog 11 #[.int .u64 (Bv seed), .int .i64 n, bv] W fun e w' => e = .returned (.bool true) ∧ Ext W w' := by
  obtain ⟨i3, j1, j2, j3, j4⟩ := info_parts Try.info3
  have hz : i3.zero = some (ci 0) := j2
  obtain ⟨ad, c, rfl, hat⟩ := hb.at
  have HB := Lib.hid hb
  have HBM := Lib.hid hbm
  have H18 := Lib.hid (awake_calls W)
  obtain ⟨m, hm⟩ : ∃ m : Nat, n % 100 = (m : Int) := ⟨(n % 100).toNat, by omega⟩
  have hm100 : m < 100 := by omega
  have H24 := Lib.hid (fun w => round_calls n 100 hn.1 hn.2 (by omega) (by omega) w)
  rw [hm] at H24
  obtain ⟨N, hN⟩ : ∃ N, 1 + m = N := ⟨_, rfl⟩
  have hNi : (1 : Int) + (m : Int) = (N : Int) := by omega
  have hN1 : 1 ≤ N := by omega
  have hN2 : N ≤ 100 := by omega
  have hN3 : (N : Int) ≤ 100 := by omega
  have HN1 := Lib.hid hN1
  have HN2 := Lib.hid hN2
  clear hat hb hbm hn hm hN hN1 hN2
  obtain ⟨L1, hL1⟩ : ∃ x, (shuf (N - 1) (upto N) seed).1 = x := ⟨_, rfl⟩
  obtain ⟨s1, hs1⟩ : ∃ x, (shuf (N - 1) (upto N) seed).2 = x := ⟨_, rfl⟩
  obtain ⟨L2, hL2⟩ : ∃ x, (shuf (N - 1) (upto N) s1).1 = x := ⟨_, rfl⟩
  obtain ⟨s2, hs2⟩ : ∃ x, (shuf (N - 1) (upto N) s1).2 = x := ⟨_, rfl⟩
  have hl1 : L1.length = N := by rw [← hL1]; exact shuf_len N seed HN1.out (by have := HN2.out; omega)
  have hl2 : L2.length = N := by rw [← hL2]; exact shuf_len N s1 HN1.out (by have := HN2.out; omega)
  have HSa := Lib.hid (fun b w h => shuffle_own b seed N HN1.out (by have := HN2.out; omega) w h)
  have HSb := Lib.hid (fun b w h => shuffle_own b s1 N HN1.out (by have := HN2.out; omega) w h)
  rw [hL1, hs1] at HSa
  rw [hL2, hs2] at HSb
  have HL1 := Lib.hid hl1
  have HL2 := Lib.hid hl2
  clear hL1 hs1 hL2 hs2 hl1 hl2
  have BB : Hid ((([] : List Int).length + N) * 8 ≤ 140737488355328) := by show _ ≤ _; have := HN2.out; simp; omega
  have MM : Hid ((([] : List Int).length + N) ≤ 9223372036854775807) := by show _ ≤ _; have := HN2.out; simp; omega
  go_enter Try.func11, Try.ntmps11
  go_wp2_with (first
    | (go_at_call 18; refine H18.out.mono ?_; clear H18; rintro e w1 ⟨rfl, s0, hw1⟩
       have E1 := Lib.hid (Ext.of_alloc (w := W) (.cells #[.int .u64 (Bv s0)] 69))
       rw [hw1] at E1
       clear hw1)
    | (go_at_call 24; refine (H24.out _).mono ?_; clear H24; rintro e w2 ⟨rfl, rfl⟩)
    | (go_at_call 19; refine (new_calls seed w1).mono ?_; rintro e w2 ⟨rfl, hw2⟩
       obtain ⟨gd, hgd⟩ : ∃ g, w1.heap.size = g := ⟨_, rfl⟩
       have e2 := Ext.of_alloc (w := w1) (.cells #[.int .u64 (Bv seed)] 69)
       have d2 : DB (w1.alloc (.cells #[.int .u64 (Bv seed)] 69)) gd seed := by rw [← hgd]; exact Blk.new _ _ _
       rw [hw2] at e2 d2
       rw [hgd]
       have E2 := Lib.hid (E1.out.trans e2)
       have D2 := Lib.hid d2
       have LO1 := Lib.hid (show W.heap.size ≤ gd by rw [← hgd]; exact E1.out.size)
       clear hw2 e2 d2 hgd E1)
    | (go_at_call 19; refine (new_calls seed w2).mono ?_; rintro e w3 ⟨rfl, hw3⟩
       obtain ⟨ge, hge⟩ : ∃ g, w2.heap.size = g := ⟨_, rfl⟩
       have e3 := Ext.of_alloc (w := w2) (.cells #[.int .u64 (Bv seed)] 69)
       have d3 : DB (w2.alloc (.cells #[.int .u64 (Bv seed)] 69)) ge seed := by rw [← hge]; exact Blk.new _ _ _
       rw [hw3] at e3 d3
       rw [hge]
       have E3 := Lib.hid (E2.out.trans e3)
       have D3 := Lib.hid (D2.out.ext e3)
       have F3 := Lib.hid d3
       have LO2 := Lib.hid (show W.heap.size ≤ ge by rw [← hge]; exact E2.out.size)
       have NE := Lib.hid (show gd ≠ ge by have := D2.out.lt; omega)
       have Ha := Lib.hid (HSa.out gd w3 D3.out)
       clear hw3 e3 d3 hge E2 D2)
    | (go_at_call 29; refine Ha.out.mono ?_; clear Ha; rintro e w4 ⟨rfl, d4, a4, g4, z4⟩
       obtain ⟨A, hA⟩ : ∃ g, w3.heap.size = g := ⟨_, rfl⟩
       rw [hA] at a4
       rw [hA]
       have D4 := Lib.hid d4
       have F4 := Lib.hid (F3.out.grown g4 (fun e => NE.out (Option.some.inj e).symm))
       have A4 := Lib.hid a4
       have E4 := Lib.hid (E3.out.grown1 g4 LO1.out)
       have LO3 := Lib.hid (show W.heap.size ≤ A by rw [← hA]; exact E3.out.size)
       have x5 := Ext.of_alloc (w := w4) (.cells #[] 3)
       have X5 := Lib.hid x5
       have O5 : Hid (Own (w4.alloc (.cells #[] 3)) w4.heap.size 3 ci (.slice (some ⟨w4.heap.size, 0, none⟩) 0 0) []) := Own.made (Nat.le_refl _)
       have R5 : Hid (Rd (w4.alloc (.cells #[] 3)) ci (.slice (some ⟨A, 0, none⟩) N N) L1) := (x5.rd (a4.whole' HL1.out.symm))
       have S5 := Lib.hid x5.size
       have B5 : Hid ((([] : List Int).length + L1.length) * 8 ≤ 140737488355328) := by show _ ≤ _; rw [HL1.out]; exact BB.out
       have M5 : Hid ((([] : List Int).length + L1.length) ≤ 9223372036854775807) := by show _ ≤ _; rw [HL1.out]; exact MM.out
       clear d4 a4 g4 z4 hA D3 F3 E3 x5)
    | (at_builtin; refine wpList_append_rd ci ci_one rfl (.tmp 40) (.tmp 41) 43 rfl w4.heap.size 3 i3 0 8 Try.underlying43 j1 hz j3 j4 rfl (.slice (some ⟨w4.heap.size, 0, none⟩) 0 0) [] rfl O5.out _ L1 rfl R5.out B5.out M5.out S5.out ?_
       intro fv w5 o5 g5
       rw [List.nil_append] at o5
       have x6 := X5.out.grown g5 (fun k hk => by cases hk; exact Nat.le_refl _)
       have OF := Lib.hid o5
       have D5 := Lib.hid (D4.out.ext x6)
       have F5 := Lib.hid (F4.out.ext x6)
       have A5 := Lib.hid (A4.out.ext x6)
       have E5 := Lib.hid (E4.out.trans x6)
       have Hb := Lib.hid (HSb.out gd w5 D5.out)
       clear o5 g5 x6 D4 F4 A4 E4 X5 O5 R5 S5 B5 M5)
    | (go_at_call 29; refine Hb.out.mono ?_; clear Hb; rintro e w6 ⟨rfl, d6, b6, g6, z6⟩
       obtain ⟨B, hB⟩ : ∃ g, w5.heap.size = g := ⟨_, rfl⟩
       rw [hB] at b6
       rw [hB]
       have D6 := Lib.hid d6
       have F6 := Lib.hid (F5.out.grown g6 (fun e => NE.out (Option.some.inj e).symm))
       have A6 := Lib.hid (A5.out.grown g6 (fun e => db_ne D5.out A5.out (by decide) (Option.some.inj e).symm))
       have B6 := Lib.hid b6
       have OF6 := Lib.hid (OF.out.kept g6 (Or.inr (Ne.symm (OF.out.type D5.out (by decide)))))
       have E6 := Lib.hid (E5.out.grown1 g6 LO1.out)
       have LO4 := Lib.hid (show W.heap.size ≤ B by rw [← hB]; exact E5.out.size)
       have AB := Lib.hid (show A < B by rw [← hB]; exact A5.out.lt)
       have x7 := Ext.of_alloc (w := w6) (.cells #[] 3)
       have X7 := Lib.hid x7
       have O7 : Hid (Own (w6.alloc (.cells #[] 3)) w6.heap.size 3 ci (.slice (some ⟨w6.heap.size, 0, none⟩) 0 0) []) := Own.made (Nat.le_refl _)
       have R7 : Hid (Rd (w6.alloc (.cells #[] 3)) ci (.slice (some ⟨B, 0, none⟩) N N) L2) := (x7.rd (b6.whole' HL2.out.symm))
       have S7 := Lib.hid x7.size
       have B7 : Hid ((([] : List Int).length + L2.length) * 8 ≤ 140737488355328) := by show _ ≤ _; rw [HL2.out]; exact BB.out
       have M7 : Hid ((([] : List Int).length + L2.length) ≤ 9223372036854775807) := by show _ ≤ _; rw [HL2.out]; exact MM.out
       clear d6 b6 g6 z6 hB D5 F5 A5 E5 OF x7)
    | (at_builtin; refine wpList_append_rd ci ci_one rfl (.tmp 46) (.tmp 47) 43 rfl w6.heap.size 3 i3 0 8 Try.underlying43 j1 hz j3 j4 rfl (.slice (some ⟨w6.heap.size, 0, none⟩) 0 0) [] rfl O7.out _ L2 rfl R7.out B7.out M7.out S7.out ?_
       intro wv w7 o7 g7
       rw [List.nil_append] at o7
       have x8 := X7.out.grown g7 (fun k hk => by cases hk; exact Nat.le_refl _)
       have OW7 := Lib.hid o7
       have D7 := Lib.hid (D6.out.ext x8)
       have F7 := Lib.hid (F6.out.ext x8)
       have A7 := Lib.hid (A6.out.ext x8)
       have B7' := Lib.hid (B6.out.ext x8)
       have OF7 := Lib.hid (x8.own OF6.out)
       have E7 := Lib.hid (E6.out.trans x8)
       have OA := Lib.hid (show wv.ownBlock ≠ some A from fun e => by have := (o7.lt _ e).1; have := A6.out.lt; omega)
       have OB := Lib.hid (show wv.ownBlock ≠ some B from fun e => by have := (o7.lt _ e).1; have := B6.out.lt; omega)
       have Hc := Lib.hid (HSa.out ge w7 F7.out)
       clear o7 g7 x8 D6 F6 A6 B6 X7 O7 R7 S7 B7 M7 OF6)
    | (go_at_call 29; refine Hc.out.mono ?_; clear Hc; rintro e w8 ⟨rfl, f8, c8, g8, z8⟩
       obtain ⟨C, hC⟩ : ∃ g, w7.heap.size = g := ⟨_, rfl⟩
       rw [hC] at c8
       rw [hC]
       have OC := Lib.hid (show wv.ownBlock ≠ some C from fun e => by have := (OW7.out.lt _ e).2; omega)
       have AC := Lib.hid (show A < C by rw [← hC]; exact A7.out.lt)
       have BC := Lib.hid (show B < C by rw [← hC]; exact B7'.out.lt)
       have LO5 := Lib.hid (show W.heap.size ≤ C by rw [← hC]; exact E7.out.size)
       have Q8 : Hid (Q1 W w8 gd ge A B C s2 s1 L1 L2 L1 wv L2) := ⟨E7.out.grown1 g8 LO2.out, D7.out.grown g8 (fun e => NE.out (Option.some.inj e)), f8,
         A7.out.grown g8 (fun e => db_ne F7.out A7.out (by decide) (Option.some.inj e).symm), B7'.out.grown g8 (fun e => db_ne F7.out B7'.out (by decide) (Option.some.inj e).symm), c8,
         (OW7.out.mono E6.out.size).kept g8 (Or.inr (Ne.symm (OW7.out.type F7.out (by decide)))), ⟨LO1.out, LO2.out, LO3.out, LO4.out, LO5.out⟩, NE.out, by have := AB.out; omega, by have := AC.out; omega, by have := BC.out; omega, OA.out, OB.out, OC.out⟩
       have OF8 := Lib.hid (OF7.out.kept g8 (Or.inr (Ne.symm (OF7.out.type F7.out (by decide)))))
       have T1 := Lib.hid (same_calls (.slice (some ⟨A, 0, none⟩) N N) fv L1 L1 w8 (Q8.out.a.whole' HL1.out.symm) OF8.out.rd (by rw [HL1.out]; have := HN2.out; omega) (by rw [HL1.out]; have := HN2.out; omega))
       rw [show decide (L1 = L1) = true by simp] at T1
       clear f8 c8 g8 z8 hC D7 F7 A7 B7' OW7 OF7 E7 E6 OA OB OC AB AC BC LO1 LO2 LO3 LO4 LO5 NE)
    | (go_at_call 36; refine T1.out.mono ?_; clear T1; rintro e w9 ⟨rfl, k9, h9⟩
       have x9 : Ext w8 w9 := by rw [← h9]; exact (Ext.refl w8).drewN k9
       have T2 := Lib.hid (same_calls (.slice (some ⟨C, 0, none⟩) N N) fv L1 L1 w9 ((Q8.out.c.ext x9).whole' HL1.out.symm) (x9.own OF8.out).rd (by rw [HL1.out]; have := HN2.out; omega) (by rw [HL1.out]; have := HN2.out; omega))
       rw [show decide (L1 = L1) = true by simp] at T2
       have X9 := Lib.hid x9
       clear h9 x9)
    | (go_at_call 36; refine T2.out.mono ?_; clear T2; rintro e w10 ⟨rfl, k10, h10⟩
       have X10 : Hid (Ext w8 w10) := by show Ext _ _; rw [← h10]; exact X9.out.drewN k10
       have Q10 := Lib.hid (Q8.out.ext' X10.out)
       clear h10 X9 X10 Q8 OF8)
    | fail)
  go_loopw [14] (fun iv wx => ∃ (k : Nat), k ≤ N ∧ iv = .int .i64 k ∧ Hid (Q1 W wx gd ge A B C s2 s1 (fillF 1000 k L1) (fillF 2000 k L2) (fillF 3000 k L1) wv L2)) (fun iv _ => (N - (intOf iv).toNat))
  case atStart => exact ⟨0, by omega, rfl, by rw [fillF_zero, fillF_zero, fillF_zero]; exact Q10.out⟩
  case round =>
    clear Q10
    obtain ⟨k, hk, rfl, hQ⟩ := hrel
    by_cases hlt : k < N
    · obtain ⟨x, hx⟩ := hQ.out.acell k (by rw [fillF_len _ _ _ (by rw [HL1.out]; omega), HL1.out]; exact hlt)
      obtain ⟨y, hy⟩ := hQ.out.bcell k (by rw [fillF_len _ _ _ (by rw [HL2.out]; omega), HL2.out]; exact hlt)
      obtain ⟨z, hz'⟩ := hQ.out.ccell k (by rw [fillF_len _ _ _ (by rw [HL1.out]; omega), HL1.out]; exact hlt)
      have hf := hQ.out.a.free k
      have hy2 : ∀ v, (wr.setCell ⟨A, k, none⟩ v).cell? ⟨B, k, none⟩ = some (ci y) := fun v => by rw [World.cell?_setCell_far _ _ _ _ hQ.out.ab]; exact hy
      have hz2 : ∀ v u, ((wr.setCell ⟨A, k, none⟩ v).setCell ⟨B, k, none⟩ u).cell? ⟨C, k, none⟩ = some (ci z) := fun v u => by rw [World.cell?_setCell_far _ _ _ _ hQ.out.bc, World.cell?_setCell_far _ _ _ _ hQ.out.ac]; exact hz'
      have hfy : ∀ v, (wr.setCell ⟨A, k, none⟩ v).frozen? ⟨B, k, none⟩ = false := fun v => (hQ.out.b.far _ (Ne.symm hQ.out.ab) v).free k
      have hfz : ∀ v u, ((wr.setCell ⟨A, k, none⟩ v).setCell ⟨B, k, none⟩ u).frozen? ⟨C, k, none⟩ = false := fun v u => ((hQ.out.c.far _ (Ne.symm hQ.out.ac) v).far _ (Ne.symm hQ.out.bc) u).free k
      have hf3 := Lib.hid (hQ.out.fill k (by rw [HL1.out]; exact hlt) (by rw [HL2.out]; exact hlt) (by rw [HL1.out]; exact hlt))
      go_wp2_with fail
      go_roundw
      case measure => simp only [intOf]; omega
      case rel => exact ⟨k + 1, by omega, by go_num, hf3.out⟩
    · obtain rfl : N = k := by omega
      clear hk hlt
      have hQ2 := hQ.out
      have e1 : fillF 1000 N L1 = cnt 1000 N := by rw [← HL1.out]; exact fillF_all _ _
      have e2 : fillF 2000 N L2 = cnt 2000 N := by
        have := fillF_all 2000 L2
        rw [HL2.out] at this; exact this
      have e3 : fillF 3000 N L1 = cnt 3000 N := by
        have := fillF_all 3000 L1
        rw [HL1.out] at this; exact this
      rw [e1, e2, e3] at hQ2
      have Q11 := Lib.hid hQ2
      clear hQ hQ2 e1 e2 e3
      go_wp2_with fail
      go_loopw [15, 16, 17, 18] (fun xv0 yv0 zv0 iv wx => ∃ (k : Nat) (xv yv zv : Value), k ≤ 60 ∧ xv = xv0 ∧ yv = yv0 ∧ zv = zv0 ∧ iv = .int .i64 k ∧ Hid (Q1 W wx gd ge A B C s2 s1 (cnt 1000 N) (cnt 2000 N) (cnt 3000 N) wv L2 ∧ ((k = 0 ∧ xv = .slice (some ⟨A, 0, none⟩) N N ∧ yv = .slice (some ⟨B, 0, none⟩) N N ∧ zv = .slice (some ⟨C, 0, none⟩) N N) ∨ (0 < k ∧ R3 W wx A B C wv xv yv zv (cnt 1000 N ++ cnt 4000 k) (cnt 2000 N ++ cnt 5000 k) (cnt 3000 N ++ cnt 6000 k))))) (fun _ _ _ iv _ => (60 - (intOf iv).toNat))
      case atStart => exact ⟨0, _, _, _, by omega, rfl, rfl, rfl, rfl, Q11.out, Or.inl ⟨rfl, rfl, rfl, rfl⟩⟩
      case round =>
        clear Q11
        obtain ⟨k, xv, yv, zv, hk, rfl, rfl, rfl, rfl, hQ⟩ := hrel
        by_cases hlt : k < 60
        · have hlt' : (k : Int) < 60 := by omega
          rcases hQ.out.2 with ⟨hk0, rfl, rfl, rfl⟩ | ⟨hk0, hr⟩
          · have HK0 := Lib.hid hk0
            have q0 := Lib.hid hQ.out.1
            have X1 : Hid ((wr.alloc (.cells #[ci (4000 + k)] 3)).cell? ⟨wr.heap.size, 0, none⟩ = some (ci (4000 + k))) := by show _ = _; rw [World.cell?_alloc_new]; rfl
            have BK1 := Lib.hid (q0.out.a.ext (Ext.of_alloc (w := wr) (.cells #[ci (4000 + k)] 3)))
            clear hk0 hQ
            go_wp2_with (first
              | (at_builtin; refine wpList_append_full ci rfl (.tmp 95) (.tmp 98) 43 rfl 3 i3 (ci 0) 8 Try.underlying43 j1 hz j3 j4 rfl A N (cnt 1000 N) (cnt_len _ _) rfl BK1.out wr.heap.size 1 (4000 + k) rfl X1.out (by omega) (by simp only [maxLen]; omega) ?_
                 intro xv w11 o11 e11 s11
                 have T1 := Lib.hid (And.intro o11 (And.intro e11 s11))
                 clear o11 e11 s11 X1 BK1
                 have X2 : Hid ((w11.alloc (.cells #[ci (5000 + k)] 3)).cell? ⟨w11.heap.size, 0, none⟩ = some (ci (5000 + k))) := by show _ = _; rw [World.cell?_alloc_new]; rfl
                 have BK2 := Lib.hid (((q0.out.b.ext (Ext.of_alloc (w := wr) (.cells #[ci (4000 + k)] 3))).ext T1.out.2.1).ext (Ext.of_alloc (w := w11) (.cells #[ci (5000 + k)] 3))))
              | (at_builtin; refine wpList_append_full ci rfl (.tmp 100) (.tmp 103) 43 rfl 3 i3 (ci 0) 8 Try.underlying43 j1 hz j3 j4 rfl B N (cnt 2000 N) (cnt_len _ _) rfl BK2.out w11.heap.size 1 (5000 + k) rfl X2.out (by omega) (by simp only [maxLen]; omega) ?_
                 intro yv w12 o12 e12 s12
                 have T2 := Lib.hid (And.intro o12 (And.intro e12 s12))
                 clear o12 e12 s12 X2 BK2
                 have X3 : Hid ((w12.alloc (.cells #[ci (6000 + k)] 3)).cell? ⟨w12.heap.size, 0, none⟩ = some (ci (6000 + k))) := by show _ = _; rw [World.cell?_alloc_new]; rfl
                 have BK3 := Lib.hid (((((q0.out.c.ext (Ext.of_alloc (w := wr) (.cells #[ci (4000 + k)] 3))).ext T1.out.2.1).ext (Ext.of_alloc (w := w11) (.cells #[ci (5000 + k)] 3))).ext T2.out.2.1).ext (Ext.of_alloc (w := w12) (.cells #[ci (6000 + k)] 3))))
              | (at_builtin; refine wpList_append_full ci rfl (.tmp 105) (.tmp 108) 43 rfl 3 i3 (ci 0) 8 Try.underlying43 j1 hz j3 j4 rfl C N (cnt 3000 N) (cnt_len _ _) rfl BK3.out w12.heap.size 1 (6000 + k) rfl X3.out (by omega) (by simp only [maxLen]; omega) ?_
                 intro zv w13 o13 e13 s13
                 have T3 := Lib.hid (And.intro o13 (And.intro e13 s13))
                 clear o13 e13 s13 X3 BK3
                 have F3 : Hid (Q1 W w13 gd ge A B C s2 s1 (cnt 1000 N) (cnt 2000 N) (cnt 3000 N) wv L2 ∧ R3 W w13 A B C wv xv yv zv (cnt 1000 N ++ [4000 + (k : Int)]) (cnt 2000 N ++ [5000 + (k : Int)]) (cnt 3000 N ++ [6000 + (k : Int)])) :=
                   R3.made q0.out (Ext.of_alloc (w := wr) (.cells #[ci (4000 + k)] 3)) T1.out.1 T1.out.2.1 (Ext.of_alloc (w := w11) (.cells #[ci (5000 + k)] 3)) T2.out.1 T2.out.2.1 (Ext.of_alloc (w := w12) (.cells #[ci (6000 + k)] 3)) T3.out.1 T3.out.2.1 (T1.out.1.some' (by simp)) (T2.out.1.some' (by simp)) (T3.out.1.some' (by simp))
                 clear T1 T2 T3)
              | fail)
            go_roundw
            case measure => simp only [intOf]; omega
            case rel => exact ⟨k + 1, _, _, _, by omega, rfl, rfl, rfl, by go_num, F3.out.1, Or.inr ⟨by omega, by have := HK0.out; subst this; exact F3.out.2⟩⟩
          · have HK0 := Lib.hid hk0
            have HQ := Lib.hid (And.intro hQ.out.1 hr)
            clear hr hk0 hQ
            have l1 : ∀ c d : Int, (cnt c N ++ cnt d k).length = N + k := fun c d => by rw [List.length_append, cnt_len, cnt_len]
            have X1 : Hid ((wr.alloc (.cells #[ci (4000 + k)] 3)).cell? ⟨wr.heap.size, 0, none⟩ = some (ci (4000 + k))) := by show _ = _; rw [World.cell?_alloc_new]; rfl
            have OX := Lib.hid ((Ext.of_alloc (w := wr) (.cells #[ci (4000 + k)] 3)).own HQ.out.2.x)
            have SX := Lib.hid ((HQ.out.1.ext.alloc (.cells #[ci (4000 + k)] 3)).size)
            have BX : Hid ((N + k + 1) * 8 ≤ 140737488355328) := by show _ ≤ _; have := HN2.out; omega
            have MX : Hid (N + k + 1 ≤ 9223372036854775807) := by show _ ≤ _; have := HN2.out; omega
            have LL := Lib.hid l1
            clear l1
            go_wp2_with (first
              | (at_builtin; refine wpList_append_one ci rfl (.tmp 95) (.tmp 98) 43 rfl W.heap.size 3 i3 (ci 0) 8 Try.underlying43 j1 hz j3 j4 rfl xv (cnt 1000 N ++ cnt 4000 k) rfl OX.out wr.heap.size 1 (4000 + k) rfl X1.out rfl (by rw [LL.out]; exact BX.out) (by rw [LL.out]; exact MX.out) SX.out ?_
                 intro xv' w11 o11 g11 b11
                 have T1 := Lib.hid (R3.app HQ.out.1 HQ.out.2 (Ext.of_alloc (w := wr) (.cells #[ci (4000 + k)] 3)) o11 g11 b11)
                 clear o11 g11 b11 X1 OX SX HQ
                 have X2 : Hid ((w11.alloc (.cells #[ci (5000 + k)] 3)).cell? ⟨w11.heap.size, 0, none⟩ = some (ci (5000 + k))) := by show _ = _; rw [World.cell?_alloc_new]; rfl
                 have OY := Lib.hid ((Ext.of_alloc (w := w11) (.cells #[ci (5000 + k)] 3)).own T1.out.2.y)
                 have SY := Lib.hid ((T1.out.1.ext.alloc (.cells #[ci (5000 + k)] 3)).size))
              | (at_builtin; refine wpList_append_one ci rfl (.tmp 100) (.tmp 103) 43 rfl W.heap.size 3 i3 (ci 0) 8 Try.underlying43 j1 hz j3 j4 rfl yv (cnt 2000 N ++ cnt 5000 k) rfl OY.out w11.heap.size 1 (5000 + k) rfl X2.out rfl (by rw [LL.out]; exact BX.out) (by rw [LL.out]; exact MX.out) SY.out ?_
                 intro yv' w12 o12 g12 b12
                 have T2 := Lib.hid (R3.app T1.out.1 T1.out.2.rot (Ext.of_alloc (w := w11) (.cells #[ci (5000 + k)] 3)) o12 g12 b12)
                 clear o12 g12 b12 X2 OY SY T1
                 have X3 : Hid ((w12.alloc (.cells #[ci (6000 + k)] 3)).cell? ⟨w12.heap.size, 0, none⟩ = some (ci (6000 + k))) := by show _ = _; rw [World.cell?_alloc_new]; rfl
                 have OZ := Lib.hid ((Ext.of_alloc (w := w12) (.cells #[ci (6000 + k)] 3)).own T2.out.2.y)
                 have SZ := Lib.hid ((T2.out.1.ext.alloc (.cells #[ci (6000 + k)] 3)).size))
              | (at_builtin; refine wpList_append_one ci rfl (.tmp 105) (.tmp 108) 43 rfl W.heap.size 3 i3 (ci 0) 8 Try.underlying43 j1 hz j3 j4 rfl zv (cnt 3000 N ++ cnt 6000 k) rfl OZ.out w12.heap.size 1 (6000 + k) rfl X3.out rfl (by rw [LL.out]; exact BX.out) (by rw [LL.out]; exact MX.out) SZ.out ?_
                 intro zv' w13 o13 g13 b13
                 have T3 := Lib.hid (R3.app T2.out.1 T2.out.2.rot (Ext.of_alloc (w := w12) (.cells #[ci (6000 + k)] 3)) o13 g13 b13)
                 clear o13 g13 b13 X3 OZ SZ T2)
              | fail)
            go_roundw
            case measure => simp only [intOf]; omega
            case rel =>
              refine ⟨k + 1, _, _, _, by omega, rfl, rfl, rfl, by go_num, T3.out.1, Or.inr ⟨by omega, ?_⟩⟩
              rw [cnt_succ, cnt_succ, cnt_succ, ← List.append_assoc, ← List.append_assoc, ← List.append_assoc]
              exact T3.out.2.rot
        · obtain rfl : k = 60 := by omega
          have HQ : Hid (Q1 W wr gd ge A B C s2 s1 (cnt 1000 N) (cnt 2000 N) (cnt 3000 N) wv L2 ∧ R3 W wr A B C wv xv yv zv (cnt 1000 N ++ cnt 4000 60) (cnt 2000 N ++ cnt 5000 60) (cnt 3000 N ++ cnt 6000 60)) := ⟨hQ.out.1, by
            rcases hQ.out.2 with ⟨h, -⟩ | ⟨-, h⟩
            · omega
            · exact h⟩
          have HA := Lib.hid (fun (i : Nat) (hi : i < N) => HQ.out.1.a.atcnt i hi)
          have HB' := Lib.hid (fun (i : Nat) (hi : i < N) => HQ.out.1.b.atcnt i hi)
          have HC := Lib.hid (fun (i : Nat) (hi : i < N) => HQ.out.1.c.atcnt i hi)
          obtain ⟨gx, cx, rfl, hgx⟩ := HQ.out.2.x.tail (by omega)
          obtain ⟨gy, cy, rfl, hgy⟩ := HQ.out.2.y.tail (by omega)
          obtain ⟨gz, cz, rfl, hgz⟩ := HQ.out.2.z.tail (by omega)
          have HX := Lib.hid hgx
          have HY := Lib.hid hgy
          have HZ := Lib.hid hgz
          clear hQ hk hlt hgx hgy hgz
          go_wp2_with fail
          go_loop [19] (fun iv => ∃ (k : Nat), k ≤ N ∧ iv = .int .i64 k) (fun iv => (N - (intOf iv).toNat))
          case atStart => exact ⟨0, by omega, rfl⟩
          case round =>
            obtain ⟨k, hk, rfl⟩ := hrel
            by_cases hlt : k < N
            · have ha := HA.out k hlt
              have hb := HB'.out k hlt
              have hc := HC.out k hlt
              go_wp2_with fail
              go_roundw
              case measure => simp only [intOf]; omega
              case rel => exact ⟨k + 1, by omega, by go_num⟩
            · obtain rfl : N = k := by omega
              clear hk hlt HA HB' HC
              go_wp2_with fail
              go_loop [20] (fun iv => ∃ (k : Nat), k ≤ 60 ∧ iv = .int .i64 k) (fun iv => (60 - (intOf iv).toNat))
              case atStart => exact ⟨0, by omega, rfl⟩
              case round =>
                obtain ⟨k, hk, rfl⟩ := hrel
                by_cases hlt : k < 60
                · have hlt' : (k : Int) < 60 := by omega
                  have ha := HX.out k hlt
                  have hb := HY.out k hlt
                  have hc := HZ.out k hlt
                  have hi1 : IntKind.i64.wrap ((N : Int) + (k : Int)) = ((N + k : Nat) : Int) := by
                    simp only [IntKind.wrap, IntKind.bits, IntKind.signed]; simp; omega
                  have hi2 : N + k < N + 60 := by omega
                  go_wp2_with fail
                  go_roundw
                  case measure => simp only [intOf]; omega
                  case rel => exact ⟨k + 1, by omega, by go_num⟩
                · obtain rfl : k = 60 := by omega
                  clear hk hlt HX HY HZ
                  have Hs := Lib.hid (HSb.out ge wr HQ.out.1.e)
                  clear HSa HSb
                  go_wp2_with (first
                    | (go_at_call 29; refine Hs.out.mono ?_; clear Hs; rintro e w11 ⟨rfl, f11, b11, g11, z11⟩
                       obtain ⟨D, hD⟩ : ∃ g, wr.heap.size = g := ⟨_, rfl⟩
                       rw [hD] at b11
                       rw [hD]
                       have EW := Lib.hid (HQ.out.1.ext.grown1 g11 HQ.out.1.lo.2.1)
                       have DD := Lib.hid (HQ.out.1.d.grown g11 (fun e => HQ.out.1.de (Option.some.inj e)))
                       have EE := Lib.hid f11
                       have OO := Lib.hid (HQ.out.1.o.kept g11 (Or.inr (Ne.symm (HQ.out.1.o.type HQ.out.1.e (by decide)))))
                       have LOD := Lib.hid HQ.out.1.lo.1
                       have LOE := Lib.hid HQ.out.1.lo.2.1
                       have NDE := Lib.hid HQ.out.1.de
                       have Ts := Lib.hid (same_calls (.slice (some ⟨D, 0, none⟩) N N) wv L2 L2 w11 (b11.whole' HL2.out.symm) OO.out.rd (by rw [HL2.out]; have := HN2.out; omega) (by rw [HL2.out]; have := HN2.out; omega))
                       rw [show decide (L2 = L2) = true by simp] at Ts
                       clear f11 b11 g11 z11 hD HQ)
                    | (go_at_call 36; refine Ts.out.mono ?_; clear Ts; rintro e w12 ⟨rfl, k12, h12⟩
                       have x12 : Ext w11 w12 := by rw [← h12]; exact (Ext.refl w11).drewN k12
                       have E12 := Lib.hid (EW.out.trans x12)
                       have D12 := Lib.hid (DD.out.ext x12)
                       have F12 := Lib.hid (EE.out.ext x12)
                       have Hst1 := Lib.hid (state_calls gd s2 w12 (DB.die D12.out))
                       have Hst2 := Lib.hid (state_calls ge s2 w12 (DB.die F12.out))
                       clear h12 x12 EW DD EE OO)
                    | (go_at_call_of 22 (Value.pointer (some ⟨gd, 0, none⟩)); refine Hst1.out.mono ?_; clear Hst1; rintro e w13 ⟨rfl, rfl⟩)
                    | (go_at_call_of 22 (Value.pointer (some ⟨ge, 0, none⟩)); refine Hst2.out.mono ?_; clear Hst2; rintro e w13 ⟨rfl, rfl⟩
                       have Hfl := Lib.hid (floats_calls (.slice ad bits.length c) bits w12 (E12.out.rd HB.out) HBM.out))
                    | (go_at_call 30; refine Hfl.out.mono ?_; clear Hfl; rintro e w14 ⟨g, cw', rfl, hc1, hc2, hlo, ho, hr, he⟩
                       have HG := Lib.hid (Nat.le_trans E12.out.size hlo)
                       have E14 := Lib.hid (E12.out.trans he)
                       have D14 := Lib.hid (D12.out.ext he)
                       have F14 := Lib.hid (F12.out.ext he)
                       have R14 := Lib.hid hr
                       have P1 := Lib.hid (pick_own gd s2 (.slice (some ⟨g, 0, none⟩) bits.length cw') (bitsOf bits) w14 D14.out (hr.rd (bitsOf_len bits).symm) bitsOf_lt (by rw [bitsOf_len]; have := HBM.out; omega))
                       have hcw : (cw' : Int) ≤ 9223372036854775807 := by simp only [maxLen] at hc2; omega
                       have hcw2 : (bits.length : Int) ≤ cw' := by omega
                       clear hc1 hc2 hlo ho hr he E12 D12 F12)
                    | (go_at_call_of 31 (Value.pointer (some ⟨gd, 0, none⟩)); refine P1.out.mono ?_; clear P1; rintro e w15 ⟨rfl, d15, g15⟩
                       have D15 := Lib.hid d15
                       have F15 := Lib.hid (F14.out.grown g15 (fun e => NDE.out (Option.some.inj e).symm))
                       have E15 := Lib.hid (E14.out.grown1 g15 LOD.out)
                       have R15 := Lib.hid (R14.out.grown g15 (fun e => R14.out.neD D14.out (by decide) (Option.some.inj e).symm))
                       have P2 := Lib.hid (pick_own ge s2 (.slice (some ⟨g, 0, none⟩) bits.length cw') (bitsOf bits) w15 F15.out (R15.out.rd (bitsOf_len bits).symm) bitsOf_lt (by rw [bitsOf_len]; have := HBM.out; omega))
                       clear d15 g15 E14 D14 F14 R14)
                    | (go_at_call_of 31 (Value.pointer (some ⟨ge, 0, none⟩)); refine P2.out.mono ?_; clear P2; rintro e w16 ⟨rfl, d16, g16⟩
                       have W16 : Hid (W5 W w16 gd ge g (pick (bitsOf bits) s2).2.2 (pick (bitsOf bits) s2).2.2 (bitsOf bits) 13842939354630062080) := ⟨E15.out.grown1 g16 LOE.out, D15.out.grown g16 (fun e => NDE.out (Option.some.inj e)), d16, R15.out.grown g16 (fun e => R15.out.neD F15.out (by decide) (Option.some.inj e).symm), bitsOf_lt⟩
                       clear d16 g16 E15 D15 F15 R15)
                    | fail)
                  obtain ⟨s3, hs3⟩ : ∃ x, (pick (bitsOf bits) s2).2.2 = x := ⟨_, rfl⟩
                  rw [hs3] at W16
                  clear hs3 HL1 HL2 BB MM
                  go_loopw [23] (fun iv wx => ∃ (k : Nat) (L : List Nat), k ≤ bits.length ∧ iv = .int .i64 k ∧ Hid (W5 W wx gd ge g s3 s3 L 13842939354630062080 ∧ L.length = bits.length)) (fun iv _ => (bits.length - (intOf iv).toNat))
                  case atStart => exact ⟨0, bitsOf bits, by omega, rfl, W16.out, bitsOf_len bits⟩
                  case round =>
                    clear W16
                    obtain ⟨k, L, hk, rfl, hQ⟩ := hrel
                    by_cases hlt : k < bits.length
                    · have hlL : k < (L ++ [13842939354630062080]).length := by rw [List.length_append, hQ.out.2]; omega
                      have hcell := hQ.out.1.r.cell k hlL
                      have hfr := hQ.out.1.r.free k
                      obtain ⟨u, hu⟩ : ∃ x, cf (L ++ [13842939354630062080])[k] = x := ⟨_, rfl⟩
                      rw [hu] at hcell
                      clear hu hlL
                      have hrem : Int.tmod (k : Int) 3 = ((k % 3 : Nat) : Int) := by rw [Int.tmod_eq_emod_of_nonneg (by omega)]; omega
                      have hcv : ∀ w, (convert 3 37 (.int .i64 ((k % 3 : Nat) : Int))).run Try.prog w = .ok (cf (wholeW (k % 3))) w := fun w => by
                        rw [run_convert_int_float (P := Try.prog) w 3 37 .i64 .f64 _ (by kernel_rfl) (by kernel_rfl), whole_ofInt (by omega)]
                      have HF := Lib.hid (hQ.out.1.fill k (wholeW (k % 3)) (by rw [hQ.out.2]; exact hlt) HG.out (third_lt k))
                      have HLn := Lib.hid (show (L.set k (wholeW (k % 3))).length = bits.length by rw [List.length_set]; exact hQ.out.2)
                      generalize k % 3 = m3 at *
                      obtain ⟨y, hy⟩ : ∃ x, wholeW m3 = x := ⟨_, rfl⟩
                      rw [hy] at hcv HF HLn
                      clear hy
                      go_wp2_with fail
                      go_roundw
                      case measure => simp only [intOf]; omega
                      case rel => exact ⟨k + 1, _, by omega, by go_num, HF.out, HLn.out⟩
                    · obtain rfl : bits.length = k := by omega
                      clear hk hlt
                      have HLn := Lib.hid hQ.out.2
                      have P3 := Lib.hid (pick_own gd s3 (.slice (some ⟨g, 0, none⟩) bits.length cw') L wr hQ.out.1.d (hQ.out.1.r.rd hQ.out.2.symm) hQ.out.1.lt (by rw [hQ.out.2]; have := HBM.out; omega))
                      have S3 := Lib.hid (pick_own ge s3)
                      obtain ⟨i37, q1, q2, q3, q4⟩ := info_parts Try.info37
                      have qz : i37.zero = some (cf 0) := q2
                      have BB : Hid ((([] : List Nat).length + L.length) * 8 ≤ 140737488355328) := by show _ ≤ _; rw [HLn.out]; have := HBM.out; simp; omega
                      have MM : Hid ((([] : List Nat).length + L.length) ≤ 9223372036854775807) := by show _ ≤ _; rw [HLn.out]; have := HBM.out; simp; omega
                      have LM : Hid (L.length ≤ 9223372036854775807) := by show _ ≤ _; rw [HLn.out]; have := HBM.out; omega
                      go_wp2_with (first
                        | (go_at_call_of 31 (Value.pointer (some ⟨gd, 0, none⟩)); refine P3.out.mono ?_; clear P3; rintro e w17 ⟨rfl, d17, g17⟩
                           have D17 := Lib.hid d17
                           have F17 := Lib.hid (hQ.out.1.e.grown g17 (fun e => NDE.out (Option.some.inj e).symm))
                           have E17 := Lib.hid (hQ.out.1.ext.grown1 g17 LOD.out)
                           have R17 := Lib.hid (hQ.out.1.r.grown g17 (fun e => hQ.out.1.r.neD hQ.out.1.d (by decide) (Option.some.inj e).symm))
                           have LT := Lib.hid hQ.out.1.lt
                           have x18 := Ext.of_alloc (w := w17) (.cells #[] 37)
                           have X18 := Lib.hid x18
                           have O18 : Hid (Own (w17.alloc (.cells #[] 37)) w17.heap.size 37 cf (.slice (some ⟨w17.heap.size, 0, none⟩) 0 0) []) := Own.made (Nat.le_refl _)
                           have R18 : Hid (Rd (w17.alloc (.cells #[] 37)) cf (.slice (some ⟨g, 0, none⟩) bits.length cw') L) := (x18.rd (R17.out.rd HLn.out.symm))
                           have S18 := Lib.hid (x18.size)
                           clear d17 g17 x18 hQ)
                        | (at_builtin; refine wpList_append_rd cf cf_one rfl (.tmp 223) (.tmp 224) 48 rfl w17.heap.size 37 i37 0 8 Try.u48 q1 qz q3 q4 rfl (.slice (some ⟨w17.heap.size, 0, none⟩) 0 0) [] rfl O18.out _ L rfl R18.out BB.out MM.out S18.out ?_
                           intro tv w19 o19 g19
                           rw [List.nil_append] at o19
                           have x19 := X18.out.grown g19 (fun k hk => by cases hk; exact Nat.le_refl _)
                           have D19 := Lib.hid (D17.out.ext x19)
                           have F19 := Lib.hid (F17.out.ext x19)
                           have E19 := Lib.hid (E17.out.trans x19)
                           have P4 := Lib.hid (S3.out tv L w19 F19.out o19.rd LT.out LM.out)
                           clear o19 g19 x19 D17 F17 E17 R17 X18 O18 R18 S18 S3)
                        | (go_at_call_of 31 (Value.pointer (some ⟨ge, 0, none⟩)); refine P4.out.mono ?_; clear P4; rintro e w20 ⟨rfl, d20, g20⟩
                           have D20 := Lib.hid (D19.out.grown g20 (fun e => NDE.out (Option.some.inj e)))
                           have F20 := Lib.hid d20
                           have E20 := Lib.hid (E19.out.grown1 g20 LOE.out)
                           obtain ⟨s4, hs4⟩ : ∃ x, (pick L s3).2.2 = x := ⟨_, rfl⟩
                           rw [hs4] at D20 F20
                           have Ht1 := Lib.hid (state_calls gd s4 w20 (DB.die D20.out))
                           have Ht2 := Lib.hid (state_calls ge s4 w20 (DB.die F20.out))
                           clear d20 g20 hs4 D19 F19 E19)
                        | (go_at_call_of 22 (Value.pointer (some ⟨gd, 0, none⟩)); refine Ht1.out.mono ?_; clear Ht1; rintro e w21 ⟨rfl, rfl⟩)
                        | (go_at_call_of 22 (Value.pointer (some ⟨ge, 0, none⟩)); refine Ht2.out.mono ?_; clear Ht2; rintro e w21 ⟨rfl, rfl⟩)
                        | fail)
                      go_ret
                      exact ⟨rfl, E20.out⟩
theorem own_walk' (seed : BitVec 64) (n : Int) (bv : Value) (bits : List (BitVec 64)) (W : World) (hn : -9223372036854775808 ≤ n ∧ n ≤ 9223372036854775807) (hb : Rd W cw bv bits) (hbm : bits.length * 8 ≤ 140737488351232) :
    Calls Try.prog 11 #[.int .u64 (Bv seed), .int .i64 n, bv] W fun e w' => e = .returned (.bool true) ∧ Below W.heap.size W w' :=
  (own_walk seed n bv bits W hn hb hbm).mono fun e w' ⟨h1, h2⟩ => ⟨h1, h2.to⟩
end Go.Proofs.Ytaneknfhilfalaa
