/- Two rows that are apart: written over where they lie, and gone on with. Elements of any number of cells. No program in sight. -/
import Derived.Test.YtjgdeijodjihlaaGen
namespace Go.Proofs.Ytjgdeijodjihlaa
open Go.RowKit
set_option linter.unusedVariables false

/-- a row, whoever made it: nil, or from a block's start on -/
abbrev Rw (w : World) (T : TypeId) (s : Nat) (v : Value) (n : Nat) (xs : List Value) : Prop := w.ownsRow 0 T s v n xs
section
variable {w w' : World} {T : TypeId} {s n : Nat} {v : Value} {xs : List Value}
theorem Rw.of {B : Nat} (h : w.ownsRow B T s v n xs) : Rw w T s v n xs := by
  obtain ⟨h1, h | ⟨g, cap, cur, h2, _, h4⟩⟩ := h
  · exact ⟨h1, Or.inl h⟩
  · exact ⟨h1, Or.inr ⟨g, cap, cur, h2, Nat.zero_le _, h4⟩⟩
theorem Rw.ext (h : Rw w T s v n xs) (e : Ext w w') : Rw w' T s v n xs := by
  obtain ⟨h1, h | ⟨g, cap, cur, h2, h3, h4, h5⟩⟩ := h
  · exact ⟨h1, Or.inl h⟩
  · exact ⟨h1, Or.inr ⟨g, cap, cur, h2, h3, e.heap h4, h5⟩⟩
theorem Rw.lt (h : Rw w T s v n xs) : ∀ g, v.ownBlock = some g → g < w.heap.size := fun g hg => (World.ownsRow.lt h g hg).2
theorem Rw.isRow (h : Rw w T s v n xs) (hn : 0 < n) : v.ownBlock ≠ none := by
  obtain ⟨h1, ⟨_, h0⟩ | ⟨g, cap, cur, rfl, _⟩⟩ := h
  · omega
  · intro h; cases h
/-- as the walk wants it -/
theorem Rw.form (h : Rw w T s v n xs) : ∃ qa c, v = .slice qa n c ∧ n ≤ c ∧ c ≤ maxLen ∧ ∀ i, i < n → ∃ g cur, qa = Option.some ⟨g, 0, none⟩ ∧ v.ownBlock = Option.some g ∧ Blk w g cur T ∧ cur.size = c * s ∧ ∀ (j : Nat) (u : Value), xs[j]? = Option.some u → cur[j]? = Option.some u := by
  obtain ⟨h1, ⟨rfl, rfl⟩ | ⟨g, cap, cur, rfl, _, hg, hle, hmx, hsz, htake⟩⟩ := h
  · exact ⟨none, 0, rfl, Nat.le_refl _, by unfold maxLen; omega, fun i hi => absurd hi (by omega)⟩
  · refine ⟨_, cap, rfl, hle, hmx, fun i _ => ⟨g, cur, rfl, rfl, hg, hsz, fun j u hj => ?_⟩⟩
    rw [← htake, List.getElem?_take] at hj
    split at hj
    · simpa using hj
    · cases hj
/-- one element's cells are written -/
theorem Rw.put {g k : Nat} {ys : List Value} {cur' : Array Value} (h : Rw w T s v n xs) (hg : v.ownBlock = Option.some g) (hb : Blk w' g cur' T) (hs : ∀ cur, Blk w g cur T → cur'.size = cur.size ∧ cur'.toList.take (n * s) = ys) (hl : ys.length = n * s) : Rw w' T s v n ys := by
  obtain ⟨h1, ⟨rfl, rfl⟩ | ⟨g', cap, cur, rfl, h0, hg', hle, hmx, hsz, htake⟩⟩ := h
  · cases hg
  · cases hg
    obtain ⟨e1, e2⟩ := hs cur hg'
    exact ⟨hl, Or.inr ⟨_, cap, cur', rfl, h0, hb, hle, hmx, by rw [e1, hsz], e2⟩⟩
end
/-- one element more; whatever other row there is stays, if it is no longer than this one was -/
theorem run_append_row {P : Program} (w : World) (t ty e : TypeId) (i : TypeInfo) (z : Value) (size bytes : Nat) (ht : P.underlying t = some (.slice e)) (hi : P.info? e = some i) (hz : i.zero = some z)
    (hsize : i.size = size) (hby : i.bytes = bytes) (hzs : z.cells.size = size) (hsz : 0 < size) (v : Value) (n : Nat) (xs : List Value) (hv : Rw w e size v n xs) (g c : Nat) (ys : List Value) (hl : ys.length = size)
    (hnews : ∀ j u, ys[j]? = some u → w.cell? ((⟨g, 0, none⟩ : Addr).add j) = some u) (h1 : ∀ u ∈ ys, u.oneCell' = true) (hbytes : (n + 1) * bytes ≤ 140737488355328) (h63 : n + 1 ≤ 9223372036854775807) :
    ∃ v' w', (Builtin.append_ #[t, t] ty #[v, .slice (some ⟨g, 0, none⟩) 1 c]).run P w = .ok v' w' ∧ Rw w' e size v' (n + 1) (xs ++ ys) ∧ (v'.ownBlock = v.ownBlock ∨ v'.ownBlock = some w.heap.size) ∧ w.grownBy w' v.ownBlock ∧
      ∀ u m zs, Rw w e size u m zs → m ≤ n → Rw w' e size u m zs := by
  have hl1 : ys.length = 1 * size := by rw [hl, Nat.one_mul]
  have hmx : n + 1 ≤ maxLen := by unfold maxLen; omega
  obtain ⟨v', w', hr, h2, h3, _, h4⟩ := run_append_own_at (P := P) w 0 t ty e i z size bytes ht hi hz hsize hby hzs hsz v n xs hv ⟨g, 0, none⟩ 1 c ys hl1 hnews h1 hmx hbytes (Nat.zero_le _)
  refine ⟨v', w', hr, h2, h4, h3, fun u m zs hu hm => ?_⟩
  rcases hv.2 with ⟨rfl, rfl⟩ | ⟨b, cap, cur, rfl, _, hg, hnc, hcm, hcs, htake⟩
  · exact World.ownsRow.kept hu h3 (by cases hh : u.ownBlock <;> simp [Value.ownBlock])
  · by_cases hroom : n + 1 ≤ cap
    · have hfit : n * i.size + ys.length ≤ cur.size := by rw [hl, hcs, hsize]; calc n * size + size = (n + 1) * size := by rw [Nat.add_mul, Nat.one_mul]
                                                                                _ ≤ cap * size := Nat.mul_le_mul_right _ hroom
      have hr2 := run_append_room (P := P) w t ty e i ht hi b n cap cur hg ⟨g, 0, none⟩ 1 c ys (by rw [hsize]; exact hl1) hnews h1 hroom hfit
      rw [hr] at hr2
      injection hr2 with _ hw
      subst hw
      by_cases hb : u.ownBlock = some b
      · obtain ⟨g1, ⟨rfl, rfl⟩ | ⟨b', cap', cur', rfl, h0, hg', hle, hmx', hsz', htake'⟩⟩ := hu
        · cases hb
        · cases hb
          rw [hg] at hg'
          injection hg' with hg'
          injection hg' with hg' _
          subst hg'
          refine ⟨g1, Or.inr ⟨_, cap', _, rfl, h0, setRow_heap w _ cur _ e _ hg, hle, hmx', ?_, ?_⟩⟩
          · simp only [List.size_toArray, List.length_append, List.length_take, List.length_drop, Array.length_toList]
            omega
          · have hms : m * size ≤ n * size := Nat.mul_le_mul_right _ hm
            rw [← htake', List.append_assoc, hsize, List.take_append_of_le_length (by rw [List.length_take, Array.length_toList]; have := hfit; rw [hsize] at this; omega), List.take_take, Nat.min_eq_left hms]
      · exact World.ownsRow.kept hu h3 (Or.inr hb)
    · have hr2 := run_append_grow (P := P) w t ty e i z ht hi hz ⟨b, 0, none⟩ n cap xs (by rw [hsize]; exact hv.1) (World.ownsRow.cells hv (g := b) rfl) ⟨g, 0, none⟩ 1 c ys (by rw [hsize]; exact hl1) hnews (by omega) (by omega) (by rw [hby]; exact growslice_fits (by omega) hbytes)
      rw [hr] at hr2
      injection hr2 with _ hw
      subst hw
      exact Rw.ext hu ((Ext.refl w).drew.alloc _)
theorem wpList_append_row {P : Program} {ops : Array Oper} {rest : List Oper} {o : Oper} {a : Act} {w : World} {Q : Exit → Act → World → Prop} (hgd : o.guard = none) (s x : Operand) (t : TypeId)
    (ho : o.op = .call { callee := .builtin .append, args := #[s, x], argTypes := #[t, t] })
    (e : TypeId) (i : TypeInfo) (z : Value) (size bytes : Nat) (ht : P.underlying t = some (.slice e)) (hi : P.info? e = some i) (hz : i.zero = some z)
    (hsize : i.size = size) (hby : i.bytes = bytes) (hzs : z.cells.size = size) (hsz : 0 < size)
    (v : Value) (n : Nat) (xs : List Value) (hs : a.eval s = v) (hv : Rw w e size v n xs) (g c : Nat) (ys : List Value) (hx : a.eval x = .slice (some ⟨g, 0, none⟩) 1 c) (hl : ys.length = size)
    (hnews : ∀ j u, ys[j]? = some u → w.cell? ((⟨g, 0, none⟩ : Addr).add j) = some u) (h1 : ∀ u ∈ ys, u.oneCell' = true)
    (hbytes : (n + 1) * bytes ≤ 140737488355328) (h63 : n + 1 ≤ 9223372036854775807)
    (h : ∀ v' w', Rw w' e size v' (n + 1) (xs ++ ys) → (v'.ownBlock = v.ownBlock ∨ v'.ownBlock = some w.heap.size) → w.grownBy w' v.ownBlock → (∀ u m zs, Rw w e size u m zs → m ≤ n → Rw w' e size u m zs) → wpList P ops Q rest (a.put o.dst v') w') : wpList P ops Q (o :: rest) a w := by
  refine wpList_plain hgd fun K hK => ?_
  obtain ⟨v', w', hr, h2, h3, h4, h5⟩ := run_append_row (P := P) w t o.type e i z size bytes ht hi hz hsize hby hzs hsz v n xs hv g c ys hl hnews h1 hbytes h63
  unfold Oper.wp execOp
  simp only [ho, resolve, invoke, builtin, Sem.run_bind, Sem.run_pure, Result.andThen_ok, List.map_toArray, List.map_cons, List.map_nil, hs, hx, hr]
  exact hK _ _ (h v' w' h2 h3 h4 h5)

/-- rows that are apart, whichever is nil -/
def Aprt (u v : Value) : Prop := u.ownBlock = none ∨ v.ownBlock = none ∨ u.ownBlock ≠ v.ownBlock
theorem Aprt.symm {u v : Value} (h : Aprt u v) : Aprt v u := by
  rcases h with h | h | h
  · exact Or.inr (Or.inl h)
  · exact Or.inl h
  · exact Or.inr (Or.inr (Ne.symm h))
/-- two rows a, b, and what each has been gone on with to (c, d); behind the world W only they were changed -/
structure Two (W w : World) (T : TypeId) (s : Nat) (a b c d : Value) (na nb nc nd : Nat) (xa xb xc xd : List Value) : Prop where
  fa : Rw w T s a na xa
  fb : Rw w T s b nb xb
  fc : Rw w T s c nc xc
  fd : Rw w T s d nd xd
  ac : na ≤ nc
  bd : nb ≤ nd
  ab : Aprt a b
  ad : Aprt a d
  cb : Aprt c b
  cd : Aprt c d
  os : w.os = W.os
  tape : w.tape = W.tape
  output : w.output = W.output
  size : W.heap.size ≤ w.heap.size
  only : ∀ k, k < W.heap.size → a.ownBlock ≠ some k → b.ownBlock ≠ some k → w.heap[k]? = W.heap[k]?
  nc : c.ownBlock = a.ownBlock ∨ ∀ k, c.ownBlock = some k → W.heap.size ≤ k
  nd : d.ownBlock = b.ownBlock ∨ ∀ k, d.ownBlock = some k → W.heap.size ≤ k
section
variable {W w w' : World} {T : TypeId} {s : Nat} {a b c d : Value} {na nb nc nd : Nat} {xa xb xc xd : List Value}
theorem Two.swap (h : Two W w T s a b c d na nb nc nd xa xb xc xd) : Two W w T s b a d c nb na nd nc xb xa xd xc :=
  ⟨h.fb, h.fa, h.fd, h.fc, h.bd, h.ac, h.ab.symm, h.cb.symm, h.ad.symm, h.cd.symm, h.os, h.tape, h.output, h.size, fun k hk h1 h2 => h.only k hk h2 h1, h.nd, h.nc⟩
theorem Two.start (ha : Rw W T s a na xa) (hb : Rw W T s b nb xb) (hab : Aprt a b) : Two W W T s a b a b na nb na nb xa xb xa xb :=
  ⟨ha, hb, ha, hb, Nat.le_refl _, Nat.le_refl _, hab, hab, hab, hab, rfl, rfl, rfl, Nat.le_refl _, fun _ _ _ _ => rfl, Or.inl rfl, Or.inl rfl⟩
theorem Two.ext (h : Two W w T s a b c d na nb nc nd xa xb xc xd) (e : Ext w w') : Two W w' T s a b c d na nb nc nd xa xb xc xd :=
  ⟨h.fa.ext e, h.fb.ext e, h.fc.ext e, h.fd.ext e, h.ac, h.bd, h.ab, h.ad, h.cb, h.cd, e.to.os.trans h.os, e.to.tape.trans h.tape, e.to.output.trans h.output, Nat.le_trans h.size e.size, fun k hk h1 h2 => (e.block (Nat.lt_of_lt_of_le hk h.size)).trans (h.only k hk h1 h2), h.nc, h.nd⟩
/-- the first is written over -/
theorem Two.put {g : Nat} {ys : List Value} (h : Two W w T s a b a b na nb na nb xa xb xa xb) (hg : a.ownBlock = some g) (hgr : w.grownBy w' (some g)) (hp : Rw w' T s a na ys) : Two W w' T s a b a b na nb na nb ys xb ys xb := by
  have hb : Rw w' T s b nb xb := World.ownsRow.kept h.fb hgr (by
    rcases h.ab with e | e | e
    · rw [hg] at e; cases e
    · exact Or.inl e
    · exact Or.inr (by rw [← hg]; exact Ne.symm e))
  exact ⟨hp, hb, hp, hb, Nat.le_refl _, Nat.le_refl _, h.ab, h.ab, h.ab, h.ab, hgr.os.trans h.os, hgr.tape.trans h.tape, hgr.output.trans h.output, Nat.le_trans h.size hgr.size,
    fun k hk h1 h2 => (hgr.block k (Nat.lt_of_lt_of_le hk h.size) (by rw [← hg]; exact fun e => h1 e.symm)).trans (h.only k hk h1 h2), Or.inl rfl, Or.inl rfl⟩
/-- the first is gone on with -/
theorem Two.app {v' : Value} {ys : List Value} (h : Two W w T s a b c d na nb nc nd xa xb xc xd) (h1 : Rw w' T s v' (nc + 1) (xc ++ ys)) (h2 : v'.ownBlock = c.ownBlock ∨ v'.ownBlock = some w.heap.size) (h3 : w.grownBy w' c.ownBlock)
    (h4 : ∀ u m zs, Rw w T s u m zs → m ≤ nc → Rw w' T s u m zs) : Two W w' T s a b v' d na nb (nc + 1) nd xa xb (xc ++ ys) xd := by
  have kept : ∀ {u m zs}, Rw w T s u m zs → Aprt c u → Rw w' T s u m zs := fun {u m zs} hu ha => by
    rcases ha with e | e | e
    · rw [e] at h3
      exact World.ownsRow.kept hu h3 (by cases hh : u.ownBlock <;> simp)
    · exact World.ownsRow.kept hu h3 (Or.inl e)
    · exact World.ownsRow.kept hu h3 (Or.inr (Ne.symm e))
  have ap : ∀ {u m zs}, Rw w T s u m zs → Aprt c u → Aprt v' u := fun {u m zs} hu ha => by
    rcases h2 with e | e
    · unfold Aprt; rw [e]; exact ha
    · refine Or.inr ?_
      cases hh : u.ownBlock with
      | none => exact Or.inl rfl
      | some x =>
        refine Or.inr (fun h => ?_)
        rw [e] at h
        have := hu.lt x hh
        have := Option.some.inj h
        omega
  refine ⟨h4 _ _ _ h.fa h.ac, kept h.fb h.cb, h1, kept h.fd h.cd, Nat.le_succ_of_le h.ac, h.bd, h.ab, h.ad, ap h.fb h.cb, ap h.fd h.cd, h3.os.trans h.os, h3.tape.trans h.tape, h3.output.trans h.output, Nat.le_trans h.size h3.size, fun k hk k1 k2 => ?_, ?_, h.nd⟩
  · refine (h3.block k (Nat.lt_of_lt_of_le hk h.size) fun e => ?_).trans (h.only k hk k1 k2)
    rcases h.nc with e2 | e2
    · exact k1 (by rw [← e2]; exact e.symm)
    · have := e2 k e.symm; omega
  · rcases h2 with e | e
    · rw [e]; exact h.nc
    · refine Or.inr (fun k hk => ?_)
      rw [e] at hk
      have := Option.some.inj hk
      have := h.size
      omega
/-- what was there before and is neither row stays: seen from a world behind which both were made -/
theorem Two.below {B : Nat} (h : Two W w T s a b c d na nb nc nd xa xb xc xd) (hB : B ≤ W.heap.size) (ha : ∀ k, a.ownBlock = some k → B ≤ k) (hb : ∀ k, b.ownBlock = some k → B ≤ k) : Below B W w :=
  ⟨h.os, h.tape, h.output, h.size, fun k hk => h.only k (by omega) (fun e => by have := ha k e; omega) (fun e => by have := hb k e; omega)⟩
end
section
variable {w w' : World} {T : TypeId} {n c : Nat} {qa : Option Addr} {xs : List Value}
/-- rows of one cell an element: a cell, and its being written -/
theorem Rw.at1 (h : Rw w T 1 (.slice qa n c) n xs) (i : Nat) (hi : i < n) {u : Value} (hu : xs[i]? = some u) : ∃ g, qa = some ⟨g, 0, none⟩ ∧ w.cell? ⟨g, i, none⟩ = some u ∧ w.frozen? ⟨g, i, none⟩ = false := by
  obtain ⟨qa', c', e, _, _, hf⟩ := h.form
  obtain ⟨g, cur, e2, _, hb, _, hc⟩ := hf i hi
  injection e with e1 e3 e4
  subst e1
  exact ⟨g, e2, by rw [hb.cell]; exact hc i u hu, hb.free i⟩
theorem Rw.has1 (h : Rw w T 1 (.slice qa n c) n xs) (i : Nat) (hi : i < n) : ∃ g u, qa = some ⟨g, 0, none⟩ ∧ w.cell? ⟨g, i, none⟩ = some u ∧ w.frozen? ⟨g, i, none⟩ = false := by
  have hl : i < xs.length := by rw [h.1, Nat.mul_one]; exact hi
  obtain ⟨g, h1⟩ := h.at1 i hi (List.getElem?_eq_getElem hl)
  exact ⟨g, _, h1⟩
theorem Rw.set1 {g : Nat} (h : Rw w T 1 (.slice (some ⟨g, 0, none⟩) n c) n xs) (i : Nat) (hi : i < n) (u : Value) : Rw (w.setCell ⟨g, i, none⟩ u) T 1 (.slice (some ⟨g, 0, none⟩) n c) n (xs.set i u) := by
  obtain ⟨h1, ⟨h2, _⟩ | ⟨g', cap, cur, h2, h0, hg', hle, hmx, hsz, htake⟩⟩ := h
  · cases h2
  · injection h2 with h2 _ h3
    injection h2 with h2
    injection h2 with h2
    subst h2 h3
    refine ⟨by rw [List.length_set]; exact h1, Or.inr ⟨_, _, cur.setIfInBounds i u, rfl, h0, Blk.set hg' i u, hle, hmx, by rw [Array.size_setIfInBounds]; exact hsz, ?_⟩⟩
    rw [Array.toList_setIfInBounds, List.take_set, htake]
theorem fill1 {F : Nat → Value} {k : Nat} (h : ∀ q, q < k → xs[q]? = some (F q)) (hk : k < xs.length) : ∀ q, q < k + 1 → (xs.set k (F k))[q]? = some (F q) := fun q hq => by
  rw [List.getElem?_set]
  split
  · next e => subst e; first | rfl | (rw [if_pos hk])
  · exact h q (by omega)
theorem more1 {F : Nat → Value} {ys : List Value} {k : Nat} (hl : ys.length = k) (h : ∀ q, q < k → ys[q]? = some (F q)) : ∀ q, q < k + 1 → (ys ++ [F k])[q]? = some (F q) := fun q hq => by
  by_cases e : q = k
  · subst e
    rw [List.getElem?_append_right (by omega), hl, Nat.sub_self]; rfl
  · rw [List.getElem?_append_left (by omega)]; exact h q (by omega)
theorem right1 {F : Nat → Value} {ys : List Value} {m k : Nat} (hx : xs.length = m) (h : ∀ q, q < k → ys[q]? = some (F q)) : ∀ q, q < k → (xs ++ ys)[m + q]? = some (F q) := fun q hq => by
  rw [List.getElem?_append_right (by omega), hx, Nat.add_sub_cancel_left]; exact h q hq
end
/-- only these two rows' blocks were changed -/
structure Bar (W w : World) (a b : Value) : Prop where
  os : w.os = W.os
  tape : w.tape = W.tape
  output : w.output = W.output
  size : W.heap.size ≤ w.heap.size
  only : ∀ k, k < W.heap.size → a.ownBlock ≠ some k → b.ownBlock ≠ some k → w.heap[k]? = W.heap[k]?
section
variable {W w w' : World} {a b : Value}
theorem Bar.refl (W : World) (a b : Value) : Bar W W a b := ⟨rfl, rfl, rfl, Nat.le_refl _, fun _ _ _ _ => rfl⟩
theorem Two.bar {T : TypeId} {s : Nat} {c d : Value} {na nb nc nd : Nat} {xa xb xc xd : List Value} (h : Two W w T s a b c d na nb nc nd xa xb xc xd) : Bar W w a b := ⟨h.os, h.tape, h.output, h.size, h.only⟩
theorem Bar.drewN (h : Bar W w a b) (n : Nat) : Bar W (w.drewN n) a b := ⟨h.os, h.tape, h.output, h.size, h.only⟩
theorem Bar.ext (h : Bar W w a b) (e : Ext w w') : Bar W w' a b := ⟨e.to.os.trans h.os, e.to.tape.trans h.tape, e.to.output.trans h.output, Nat.le_trans h.size e.size, fun k hk h1 h2 => (e.block (Nat.lt_of_lt_of_le hk h.size)).trans (h.only k hk h1 h2)⟩
theorem Bar.grown {row : Option Nat} (h : Bar W w a b) (e : w.grownBy w' row) (hr : ∀ k, row = some k → a.ownBlock = some k ∨ b.ownBlock = some k) : Bar W w' a b :=
  ⟨e.os.trans h.os, e.tape.trans h.tape, e.output.trans h.output, Nat.le_trans h.size e.size, fun k hk h1 h2 => (e.block k (Nat.lt_of_lt_of_le hk h.size) (fun e => by rcases hr k e.symm with e | e; exact h1 e; exact h2 e)).trans (h.only k hk h1 h2)⟩
theorem Bar.below {B : Nat} (h : Bar W w a b) (hB : B ≤ W.heap.size) (ha : ∀ k, a.ownBlock = some k → B ≤ k) (hb : ∀ k, b.ownBlock = some k → B ≤ k) : Below B W w :=
  ⟨h.os, h.tape, h.output, h.size, fun k hk => h.only k (by omega) (fun e => by have := ha k e; omega) (fun e => by have := hb k e; omega)⟩
theorem Bar.row {T : TypeId} {s n B : Nat} {v : Value} {xs : List Value} (h : Bar W w a b) (k : W.ownsRow B T s v n xs) (h1 : v.ownBlock = none ∨ (v.ownBlock ≠ a.ownBlock ∧ v.ownBlock ≠ b.ownBlock)) : w.ownsRow B T s v n xs := by
  obtain ⟨k1, k | ⟨g, cap, cur, rfl, k3, k4, k5⟩⟩ := k
  · exact ⟨k1, Or.inl k⟩
  · rcases h1 with h1 | ⟨h1, h2⟩
    · cases h1
    · refine ⟨k1, Or.inr ⟨g, cap, cur, rfl, k3, ?_, k5⟩⟩
      rw [h.only g (Array.getElem?_eq_some_iff.1 k4).1 (fun e => h1 e.symm) (fun e => h2 e.symm)]
      exact k4
end
/-- an element's cells, all of them, are written over -/
theorem wpList_store_elem {P : Program} {ops : Array Oper} {rest : List Oper} {o : Oper} {a : Act} {w : World} {Q : Exit → Act → World → Prop} (hgd : o.guard = none) (T s : Nat) (hT : (P.info? T).map (·.size) = some s) (x y : Operand) (ho : o.op = .store T x y)
    (b off i n c : Nat) (xs vs : List Value) (hx : a.eval x = .pointer (some ⟨b, off, none⟩)) (hoff : off = i * s) (hy : a.eval y = .agg vs.toArray) (hl : vs.length = s) (h1 : ∀ v ∈ vs, v.oneCell' = true) (hv : Rw w T s (.slice (some ⟨b, 0, none⟩) n c) n xs) (hi : i < n)
    (h : ∀ w', Rw w' T s (.slice (some ⟨b, 0, none⟩) n c) n (xs.take (i * s) ++ vs ++ xs.drop (i * s + s)) → w.grownBy w' (some b) → wpList P ops Q rest (a.put o.dst undef) w') : wpList P ops Q (o :: rest) a w := by
  subst hoff
  refine wpList_plain hgd fun K hK => ?_
  obtain ⟨hlen, ⟨h2, _⟩ | ⟨g', cap, cur, h2, h0, hg', hle, hmx, hsz, htake⟩⟩ := hv
  · cases h2
  · injection h2 with h2 _ h3
    injection h2 with h2
    injection h2 with h2
    subst h2 h3
    have hin : i * s + s ≤ n * s := by
      calc i * s + s = (i + 1) * s := by rw [Nat.add_mul, Nat.one_mul]
        _ ≤ n * s := Nat.mul_le_mul_right _ hi
    have hcs : n * s ≤ cur.size := by rw [hsz]; exact Nat.mul_le_mul_right _ hle
    have hst := run_storeCells_at P b (i * s) T vs 0 cur w hg' (by omega) h1
    simp only [Nat.add_zero] at hst
    have hsv : (storeVar T ⟨b, i * s, none⟩ (.agg vs.toArray)).run P w = .ok () (w.setRow b (cur.toList.take (i * s) ++ vs ++ cur.toList.drop (i * s + vs.length)).toArray) := by
      cases hq : P.info? T with
      | none => rw [hq] at hT; cases hT
      | some q =>
        rw [hq] at hT
        have hs : q.size = s := by simpa using hT
        have hc : (Value.agg vs.toArray).cells = vs.toArray := rfl
        unfold storeVar
        rw [hc]
        simp [sizeOf, typeInfo, hq, hs, hl, hst]
    unfold Oper.wp execOp
    simp only [ho, hx, hy, Instr.storeAt, Instr.sureAddr, Sem.run_bind, Sem.run_pure, Result.andThen_ok, hsv]
    refine hK _ _ (h _ ⟨?_, Or.inr ⟨b, c, _, rfl, h0, setRow_heap w b _ _ T (0, 0) hg', hle, hmx, ?_, ?_⟩⟩ ⟨rfl, rfl, rfl, by simp [World.setRow], fun k _ hk => setRow_other w b k _ (fun e => hk (by rw [e]))⟩)
    · simp only [List.length_append, List.length_take, List.length_drop]
      omega
    · simp only [List.size_toArray, List.length_append, List.length_take, List.length_drop, Array.length_toList]
      omega
    · rw [← htake, hl]
      apply List.ext_getElem?
      intro j
      simp only [List.getElem?_take, List.getElem?_append, List.length_append, List.length_take, List.getElem?_drop, Array.length_toList]
      by_cases hj : j < n * s
      · simp only [hj, if_true]
        have e1 : min (i * s) (n * s) = i * s := by omega
        have e2 : min (i * s) cur.size = i * s := by omega
        have e3 : min (i * s) (min (n * s) cur.size) = i * s := by omega
        rw [e3, e2]
        by_cases c1 : j < i * s + vs.length
        · simp only [c1, if_true]
        · simp only [c1, if_false]
          have e4 : i * s + s + (j - (i * s + vs.length)) = j := by omega
          rw [e4, if_pos hj]
      · have e2 : min (i * s) (min (n * s) cur.size) = i * s := by omega
        rw [e2]
        simp only [hj, if_false]
        rw [if_neg (by omega), if_neg (by omega)]
section
variable {w w' : World} {T s : Nat} {n c : Nat} {qa : Option Addr} {xs : List Value}
/-- rows of s cells an element -/
theorem Rw.atS (h : Rw w T s (.slice qa n c) n xs) (i : Nat) (hi : i < n) {u : Value} (j : Nat) (hu : xs[j]? = some u) : ∃ g, qa = some ⟨g, 0, none⟩ ∧ w.cell? ⟨g, j, none⟩ = some u := by
  obtain ⟨qa', c', e, _, _, hf⟩ := h.form
  obtain ⟨g, cur, e2, _, hb, _, hc⟩ := hf i hi
  injection e with e1 e3 e4
  subst e1
  exact ⟨g, e2, by rw [hb.cell]; exact hc j u hu⟩
theorem Rw.blkS (h : Rw w T s (.slice qa n c) n xs) (i : Nat) (hi : i < n) : ∃ g, qa = some ⟨g, 0, none⟩ := by
  obtain ⟨qa', c', e, _, _, hf⟩ := h.form
  obtain ⟨g, cur, e2, _, hb, _, hc⟩ := hf i hi
  injection e with e1 e3 e4
  subst e1
  exact ⟨g, e2⟩
theorem fillS {F : Nat → Value} {k : Nat} {vs : List Value} (hs : 0 < s) (h : ∀ q, q < k → xs[q * s]? = some (F q)) (hl : vs.length = s) (hv : vs[0]? = some (F k)) (hk : k * s ≤ xs.length) : ∀ q, q < k + 1 → (xs.take (k * s) ++ vs ++ xs.drop (k * s + s))[q * s]? = some (F q) := fun q hq => by
  have hlt : (xs.take (k * s)).length = k * s := by rw [List.length_take]; omega
  by_cases e : q = k
  · subst e
    rw [List.getElem?_append_left (by rw [List.length_append, hlt]; omega), List.getElem?_append_right (by omega), hlt, Nat.sub_self]
    exact hv
  · have hq2 : q * s < k * s := Nat.mul_lt_mul_of_pos_right (by omega) hs
    rw [List.getElem?_append_left (by rw [List.length_append, hlt]; omega), List.getElem?_append_left (by omega), List.getElem?_take, if_pos hq2]
    exact h q (by omega)
theorem moreS {F : Nat → Value} {ys vs : List Value} {k : Nat} (hs : 0 < s) (hl : ys.length = k * s) (hls : vs.length = s) (hv : vs[0]? = some (F k)) (h : ∀ q, q < k → ys[q * s]? = some (F q)) : ∀ q, q < k + 1 → (ys ++ vs)[q * s]? = some (F q) := fun q hq => by
  by_cases e : q = k
  · subst e
    rw [List.getElem?_append_right (by omega), hl, Nat.sub_self]; exact hv
  · have hq2 : q * s < k * s := Nat.mul_lt_mul_of_pos_right (by omega) hs
    rw [List.getElem?_append_left (by omega)]; exact h q (by omega)
theorem rightS {F : Nat → Value} {ys : List Value} {m k : Nat} (hx : xs.length = m * s) (h : ∀ q, q < k → ys[q * s]? = some (F q)) : ∀ q, q < k → (xs ++ ys)[(m + q) * s]? = some (F q) := fun q hq => by
  rw [List.getElem?_append_right (by rw [hx]; exact Nat.mul_le_mul_right _ (by omega)), hx, Nat.add_mul, Nat.add_sub_cancel_left]; exact h q hq
theorem lenS {vs : List Value} {k m : Nat} (hx : xs.length = m * s) (hl : vs.length = s) (hk : k < m) : (xs.take (k * s) ++ vs ++ xs.drop (k * s + s)).length = m * s := by
  have hin : k * s + s ≤ m * s := by
    calc k * s + s = (k + 1) * s := by rw [Nat.add_mul, Nat.one_mul]
      _ ≤ m * s := Nat.mul_le_mul_right _ hk
  rw [List.length_append, List.length_append, List.length_take, List.length_drop]
  omega
end
/-- rows of different types are apart -/
theorem World.ownsRow.diff {w : World} {T U : TypeId} {B C s t n m : Nat} {u v : Value} {xs ys : List Value} (h : w.ownsRow B T s u n xs) (k : w.ownsRow C U t v m ys) (hT : T ≠ U) : u.ownBlock = none ∨ u.ownBlock ≠ v.ownBlock := by
  obtain ⟨_, ⟨rfl, _⟩ | ⟨g, cap, cur, rfl, _, hg, _⟩⟩ := h
  · exact Or.inl rfl
  · refine Or.inr (fun e => ?_)
    obtain ⟨_, ⟨rfl, _⟩ | ⟨g', cap', cur', rfl, _, hg', _⟩⟩ := k
    · cases e
    · cases e
      rw [hg] at hg'
      injection hg' with hg'
      injection hg' with _ hg'
      exact hT hg'
end Go.Proofs.Ytjgdeijodjihlaa
