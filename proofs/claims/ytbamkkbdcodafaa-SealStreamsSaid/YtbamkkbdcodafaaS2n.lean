/- Rows of lent parts, growing side by side. -/
import Derived.Test.YtbamkkbdcodafaaS2h
import Derived.Maps.AppendAt
namespace Go.Proofs.Ytbamkkbdcodafaa
open Go.RowKit
set_option linter.unusedVariables false

abbrev idv : Value → Value := fun v => v
theorem wpList_append_one {P : Program} {α : Type} (f : α → Value) {ops : Array Oper} {rest : List Oper} {o : Oper} {a : Act} {w : World} {Q : Exit → Act → World → Prop} (hgd : o.guard = none) (s x : Operand) (t : TypeId)
    (ho : o.op = .call { callee := .builtin .append, args := #[s, x], argTypes := #[t, t] })
    (B : Nat) (e : TypeId) (i : TypeInfo) (z : Value) (bytes : Nat) (ht : P.underlying t = some (.slice e)) (hi : P.info? e = some i) (hz : i.zero = some z)
    (hsize : i.size = 1) (hby : i.bytes = bytes) (hzs : z.cells.size = 1)
    (v : Value) (l : List α) (hs : a.eval s = v) (hown : Own w B e f v l) (g c : Nat) (y : α) (hx : a.eval x = .slice (some ⟨g, 0, none⟩) 1 c) (hg : w.cell? ⟨g, 0, none⟩ = some (f y)) (hf : (f y).oneCell' = true)
    (hbytes : (l.length + 1) * bytes ≤ 140737488355328) (h63 : l.length + 1 ≤ 9223372036854775807) (hB : B ≤ w.heap.size)
    (h : ∀ v' w', Own w' B e f v' (l ++ [y]) → w.grownBy w' v.ownBlock → (v'.ownBlock = v.ownBlock ∨ v'.ownBlock = some w.heap.size) → wpList P ops Q rest (a.put o.dst v') w') : wpList P ops Q (o :: rest) a w :=
  wpList_append_own_at w hgd s x t ho B e i z 1 bytes ht hi hz hsize hby hzs (by decide) v l.length (l.map f) hs hown ⟨g, 0, none⟩ 1 c [f y] hx rfl
    (fun j u hj => by
      match j, hj with
      | 0, hj =>
        simp at hj
        subst hj
        simpa [Addr.add] using hg)
    (fun u hu => by simp at hu; subst hu; exact hf) (by unfold maxLen; omega) hbytes hB
    (fun v' w' h1 h2 _ h4 => h v' w' (by unfold Own; rw [List.length_append, List.map_append]; exact h1) h2 h4)

def vsOf (B : Nat → Nat) (Q : Nat → List (BitVec 8)) (n : Nat) : List Value := (List.range n).map fun j => lentV (B j) (Q j).length
theorem vsOf_len (B : Nat → Nat) (Q : Nat → List (BitVec 8)) (n : Nat) : (vsOf B Q n).length = n := by simp [vsOf]
theorem vsOf_get (B : Nat → Nat) (Q : Nat → List (BitVec 8)) (n i : Nat) (hi : i < n) (h : i < (vsOf B Q n).length) : (vsOf B Q n)[i] = lentV (B i) (Q i).length := by simp [vsOf]
theorem vsOf_zero (B : Nat → Nat) (Q : Nat → List (BitVec 8)) : vsOf B Q 0 = [] := rfl
def upd {α : Type} (B : Nat → α) (n : Nat) (g : α) : Nat → α := fun j => if j = n then g else B j
theorem upd_at {α : Type} (B : Nat → α) (n : Nat) (g : α) : upd B n g n = g := by simp [upd]
theorem upd_ne {α : Type} (B : Nat → α) (n : Nat) (g : α) {j : Nat} (h : j ≠ n) : upd B n g j = B j := by simp [upd, h]
theorem vsOf_snoc (B : Nat → Nat) (Q : Nat → List (BitVec 8)) (n g : Nat) : vsOf (upd B n g) Q (n + 1) = vsOf B Q n ++ [lentV g (Q n).length] := by
  unfold vsOf
  rw [List.range_succ, List.map_append]
  congr 1
  · apply List.map_congr_left
    intro j hj
    rw [upd_ne _ _ _ (by have := List.mem_range.1 hj; omega)]
  · simp [upd_at]
theorem vsOf_lens (B : Nat → Nat) (Q R : Nat → List (BitVec 8)) (n : Nat) (h : ∀ j, j < n → (R j).length = (Q j).length) : vsOf B R n = vsOf B Q n := by
  unfold vsOf
  apply List.map_congr_left
  intro j hj
  rw [h j (List.mem_range.1 hj)]
structure Lents (w : World) (b0 n : Nat) (B : Nat → Nat) (Q : Nat → List (BitVec 8)) : Prop where
  at_ : ∀ j, j < n → LentAt w (B j) (Q j)
  lo : ∀ j, j < n → b0 ≤ B j
  inj : ∀ i j, i < n → j < n → B i = B j → i = j
theorem LentAt.ext {w w' : World} {g : Nat} {p : List (BitVec 8)} (h : LentAt w g p) (e : Ext w w') : LentAt w' g p := Blk.ext h e
theorem LentAt.lt {w : World} {g : Nat} {p : List (BitVec 8)} (h : LentAt w g p) : g < w.heap.size := Blk.lt h
theorem Lents.zero (w : World) (b0 : Nat) (B : Nat → Nat) (Q : Nat → List (BitVec 8)) : Lents w b0 0 B Q := ⟨fun j h => absurd h (by omega), fun j h => absurd h (by omega), fun i j h => absurd h (by omega)⟩
theorem Lents.ext {w w' : World} {b0 n : Nat} {B : Nat → Nat} {Q : Nat → List (BitVec 8)} (h : Lents w b0 n B Q) (e : Ext w w') : Lents w' b0 n B Q := ⟨fun j hj => (h.at_ j hj).ext e, h.lo, h.inj⟩
theorem Own.block_ne {w : World} {B : Nat} {f : Value → Value} {v : Value} {l : List Value} {g : Nat} {p : List (BitVec 8)} (h : Own w B 23 f v l) (k : LentAt w g p) : some g ≠ v.ownBlock := by
  obtain ⟨_, ⟨rfl, _⟩ | ⟨g', cap, cur, rfl, _, hg, _⟩⟩ := h
  · intro e; cases e
  · intro e
    have : g = g' := Option.some.inj e
    subst this
    unfold LentAt Blk at k
    rw [k] at hg
    injection hg with hg
    injection hg with _ h2
    cases h2
theorem Lents.grown {w w' : World} {b0 n : Nat} {B : Nat → Nat} {Q : Nat → List (BitVec 8)} {v : Value} {l : List Value} {b1 : Nat} (h : Lents w b0 n B Q) (o : Own w b1 23 idv v l) (hg : w.grownBy w' v.ownBlock) : Lents w' b0 n B Q :=
  ⟨fun j hj => (hg.block _ (h.at_ j hj).lt (o.block_ne (h.at_ j hj))).trans (h.at_ j hj), h.lo, h.inj⟩
theorem Lents.lt {w : World} {b0 n : Nat} {B : Nat → Nat} {Q : Nat → List (BitVec 8)} (h : Lents w b0 n B Q) (j : Nat) (hj : j < n) : B j < w.heap.size := (h.at_ j hj).lt
theorem Lents.snoc {w : World} {b0 n g : Nat} {B : Nat → Nat} {Q : Nat → List (BitVec 8)} (h : Lents w b0 n B Q) (hl : LentAt w g (Q n)) (hb : b0 ≤ g) (hne : ∀ j, j < n → B j ≠ g) : Lents w b0 (n + 1) (upd B n g) Q := by
  refine ⟨fun j hj => ?_, fun j hj => ?_, fun i j hi hj e => ?_⟩
  · by_cases h1 : j = n
    · subst h1; rw [upd_at]; exact hl
    · rw [upd_ne _ _ _ h1]; exact h.at_ j (by omega)
  · by_cases h1 : j = n
    · subst h1; rw [upd_at]; exact hb
    · rw [upd_ne _ _ _ h1]; exact h.lo j (by omega)
  · by_cases h1 : i = n
    · by_cases h2 : j = n
      · omega
      · subst h1
        rw [upd_at, upd_ne _ _ _ h2] at e
        exact absurd e.symm (hne j (by omega))
    · by_cases h2 : j = n
      · subst h2
        rw [upd_at, upd_ne _ _ _ h1] at e
        exact absurd e (hne i (by omega))
      · rw [upd_ne _ _ _ h1, upd_ne _ _ _ h2] at e
        exact h.inj i j (by omega) (by omega) e
theorem Lents.rds {w : World} {b0 n : Nat} {B : Nat → Nat} {Q : Nat → List (BitVec 8)} {sv : Value} (h : Lents w b0 n B Q) (hr : Rd w idv sv (vsOf B Q n)) (hm : ∀ j, j < n → (Q j).length ≤ 9223372036854775807) : Rds w sv ((List.range n).map Q) := by
  refine ⟨vsOf B Q n, hr, by simp [vsOf_len], fun i hi hj => ?_⟩
  have hin : i < n := by simpa using hi
  rw [vsOf_get B Q n i hin, List.getElem_map, List.getElem_range]
  exact ⟨(h.at_ i hin).rd, hm i hin⟩
theorem Rds.ext {w w' : World} {sv : Value} {ps : List (List (BitVec 8))} (h : Rds w sv ps) (e : Ext w w') : Rds w' sv ps := by
  obtain ⟨vs, h1, h2, h3⟩ := h
  exact ⟨vs, e.rd h1, h2, fun i hi hj => ⟨e.rd (h3 i hi hj).1, (h3 i hi hj).2⟩⟩
theorem range_get (ps : List (List (BitVec 8))) : (List.range ps.length).map (fun j => ps.getD j []) = ps := by
  apply List.ext_getElem (by simp)
  intro i h1 h2
  simp [h2]
/-- the two rows of the call's own, and the parts that they lead to -/
structure Two (W w : World) (k : Nat) (B : Nat → Nat) (Q : Nat → List (BitVec 8)) (lv ov : Value) : Prop where
  ext : Ext W w
  l : Own w W.heap.size 23 idv lv (vsOf B Q k)
  o : Own w W.heap.size 23 idv ov (vsOf B Q k)
  ne : lv.ownBlock = none ∨ lv.ownBlock ≠ ov.ownBlock
  parts : Lents w W.heap.size k B Q
theorem Two.start (W : World) (B : Nat → Nat) (Q : Nat → List (BitVec 8)) : Two W W 0 B Q (.slice none 0 0) (.slice none 0 0) :=
  ⟨Ext.refl _, Own.nil, Own.nil, Or.inl rfl, Lents.zero _ _ _ _⟩
end Go.Proofs.Ytbamkkbdcodafaa
