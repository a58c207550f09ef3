/- Layer 8 (disk): a disk in memory. -/
import Derived.Test.YtjcbmlpfpcpakaaProg
import Derived.Test.YtjcbmlpfpcpakaaBv
import Derived.Test.YtjcbmlpfpcpakaaArr
import Derived.Test.YtjcbmlpfpcpakaaExt
import Derived.Test.YtjcbmlpfpcpakaaGen
import Derived.Test.YtjcbmlpfpcpakaaFam
import Derived.Deep.MidRow
namespace Go.Proofs.Ytjcbmlpfpcpakaa
open Go.RowKit
set_option linter.unusedVariables false

/-- a write that waits: its cells -/
def pc (p : Nat × List (BitVec 8)) : List Value := ci p.1 :: p.2.map cb
def pcs (R : List (Nat × List (BitVec 8))) : List Value := R.flatMap pc
structure Dk where
  n : Nat
  S : List (BitVec 8)
  R : List (Nat × List (BitVec 8))
  fused : Bool
  left : Int
  c0 : Int
  c1 : Int
structure Dk.ok (d : Dk) : Prop where
  n1 : 1 ≤ d.n
  n2 : d.n ≤ 65536
  s : d.S.length = 64 * d.n
  r : ∀ p ∈ d.R, p.1 < d.n ∧ p.2.length = 64
def dc (d : Dk) (sb : Nat) (rv : Value) : Array Value := #[.slice (some ⟨sb, 0, none⟩) d.n d.n, rv, .bool d.fused, ci d.left, ci d.c0, ci d.c1]
structure DB (w : World) (B g sb : Nat) (rv : Value) (d : Dk) : Prop where
  b : Blk w g (dc d sb rv) 130
  s : Blk w sb (V cb d.S) 132
  r : w.ownsRow B 134 65 rv d.R.length (pcs d.R)
  ok : d.ok
/-- only these blocks may have changed, and new ones may have come -/
structure Only (w w' : World) (p : Nat → Prop) : Prop where
  os : w'.os = w.os
  tape : w'.tape = w.tape
  output : w'.output = w.output
  size : w.heap.size ≤ w'.heap.size
  block : ∀ k, k < w.heap.size → ¬ p k → w'.heap[k]? = w.heap[k]?
theorem Only.refl (w : World) (p : Nat → Prop) : Only w w p := ⟨rfl, rfl, rfl, Nat.le_refl _, fun _ _ _ => rfl⟩
theorem Only.trans {a b c : World} {p : Nat → Prop} (h : Only a b p) (k : Only b c p) : Only a c p :=
  ⟨k.os.trans h.os, k.tape.trans h.tape, k.output.trans h.output, Nat.le_trans h.size k.size, fun i hi hp => (k.block i (Nat.lt_of_lt_of_le hi h.size) hp).trans (h.block i hi hp)⟩
theorem Only.trans' {a b c : World} {p q : Nat → Prop} (h : Only a b p) (k : Only b c q) (hq : ∀ i, i < a.heap.size → q i → p i) : Only a c p :=
  ⟨k.os.trans h.os, k.tape.trans h.tape, k.output.trans h.output, Nat.le_trans h.size k.size, fun i hi hp => (k.block i (Nat.lt_of_lt_of_le hi h.size) (fun hh => hp (hq i hi hh))).trans (h.block i hi hp)⟩
theorem Only.mono {a b : World} {p q : Nat → Prop} (h : Only a b p) (hpq : ∀ k, p k → q k) : Only a b q :=
  ⟨h.os, h.tape, h.output, h.size, fun i hi hp => h.block i hi (fun hh => hp (hpq i hh))⟩
theorem Ext.only {a b : World} {p : Nat → Prop} (h : Ext a b) : Only a b p := ⟨h.to.os, h.to.tape, h.to.output, h.size, fun i hi _ => h.block hi⟩
theorem Only.ext {a b c : World} {p : Nat → Prop} (h : Only a b p) (k : Ext b c) : Only a c p := h.trans k.only
theorem Ext.of_only {a b c : World} {p : Nat → Prop} (h : Ext a b) (k : Only b c p) (hp : ∀ i, p i → a.heap.size ≤ i) : Ext a c :=
  Ext.of ⟨k.os.trans h.to.os, k.tape.trans h.to.tape, k.output.trans h.to.output, Nat.le_trans h.size k.size, fun i hi => (k.block i (Nat.lt_of_lt_of_le hi h.size) (fun hh => by have := hp i hh; omega)).trans (h.block hi)⟩
theorem Only.grown {a b c : World} {p : Nat → Prop} {row : Option Nat} (h : Only a b p) (k : b.grownBy c row) (hr : ∀ i, row = some i → p i) : Only a c p :=
  h.trans ⟨k.os, k.tape, k.output, k.size, fun i hi hp => k.block i hi (fun e => hp (hr i e.symm))⟩
theorem Only.blk {a b : World} {p : Nat → Prop} {g : Nat} {c : Array Value} {t : TypeId} (h : Only a b p) (k : Blk a g c t) (hg : ¬ p g) : Blk b g c t := (h.block g k.lt hg).trans k
theorem Only.rd {α : Type} {a b : World} {p : Nat → Prop} {f : α → Value} {v : Value} {l : List α} (h : Only a b p) (k : Rd a f v l) (hp : ∀ i, v.ownBlock = some i → ¬ p i) : Rd b f v l := by
  rcases k with k | ⟨g, o, c, n, rfl, h2, h3, k⟩
  · exact Or.inl k
  · refine Or.inr ⟨g, o, c, n, rfl, h2, h3, fun i hi => ?_⟩
    have hc := k i hi
    have hlt := World.block_lt_of_cell? a _ hc
    unfold World.cell? at hc ⊢
    rw [h.block g hlt (hp g rfl)]
    exact hc
/-- a disk's own blocks -/
def mine (g sb : Nat) (rv : Value) (k : Nat) : Prop := k = g ∨ k = sb ∨ rv.ownBlock = some k
theorem DB.ext {w w' : World} {B g sb : Nat} {rv : Value} {d : Dk} (h : DB w B g sb rv d) (e : Ext w w') : DB w' B g sb rv d :=
  ⟨h.b.ext e, h.s.ext e, by
    obtain ⟨h1, h2 | ⟨x, cap, cur, h2, h3, h4, h5⟩⟩ := h.r
    · exact ⟨h1, Or.inl h2⟩
    · exact ⟨h1, Or.inr ⟨x, cap, cur, h2, h3, e.heap h4, h5⟩⟩, h.ok⟩
theorem DB.only {w w' : World} {B g sb : Nat} {rv : Value} {d : Dk} {p : Nat → Prop} (h : DB w B g sb rv d) (e : Only w w' p) (hp : ∀ k, mine g sb rv k → ¬ p k) : DB w' B g sb rv d :=
  ⟨e.blk h.b (hp g (Or.inl rfl)), e.blk h.s (hp sb (Or.inr (Or.inl rfl))), by
    obtain ⟨h1, h2 | ⟨x, cap, cur, h2, h3, h4, h5⟩⟩ := h.r
    · exact ⟨h1, Or.inl h2⟩
    · refine ⟨h1, Or.inr ⟨x, cap, cur, h2, h3, ?_, h5⟩⟩
      rw [e.block x (Array.getElem?_eq_some_iff.1 h4).1 (hp x (Or.inr (Or.inr (by rw [h2]; rfl))))]
      exact h4, h.ok⟩
section
variable {w : World} {B g sb : Nat} {rv : Value} {d : Dk}
theorem DB.cell0 (h : DB w B g sb rv d) : w.cell? ⟨g, 0, none⟩ = some (.slice (some ⟨sb, 0, none⟩) d.n d.n) := h.b.cell 0
theorem DB.cell1 (h : DB w B g sb rv d) : w.cell? ⟨g, 1, none⟩ = some rv := h.b.cell 1
theorem DB.cell2 (h : DB w B g sb rv d) : w.cell? ⟨g, 2, none⟩ = some (.bool d.fused) := h.b.cell 2
theorem DB.cell3 (h : DB w B g sb rv d) : w.cell? ⟨g, 3, none⟩ = some (ci d.left) := h.b.cell 3
theorem DB.cell4 (h : DB w B g sb rv d) : w.cell? ⟨g, 4, none⟩ = some (ci d.c0) := h.b.cell 4
theorem DB.cell5 (h : DB w B g sb rv d) : w.cell? ⟨g, 5, none⟩ = some (ci d.c1) := h.b.cell 5
theorem DB.ne (h : DB w B g sb rv d) : g ≠ sb := by
  rintro rfl
  exact absurd (Blk.type h.b h.s) (by decide)
theorem DB.row (h : DB w B g sb rv d) : ∃ a c, rv = .slice a d.R.length c ∧ d.R.length ≤ c ∧ c ≤ maxLen ∧ (∀ j, j < d.R.length → ∃ x, a = some ⟨x, 0, none⟩ ∧ w.rangeAt x (j * 65) (pc (d.R.getD j (0, [])))) ∧ (a = none → d.R = [] ∧ c = 0) := by
  obtain ⟨h1, ⟨rfl, h2⟩ | ⟨x, cap, cur, rfl, h3, h4, h5, h6, h7, h8⟩⟩ := h.r
  · refine ⟨none, 0, by rw [h2], by omega, by unfold maxLen; omega, fun j hj => by omega, fun _ => ⟨List.eq_nil_of_length_eq_zero h2, rfl⟩⟩
  · refine ⟨_, cap, rfl, h5, h6, fun j hj => ⟨x, rfl, fun i v hv => ?_⟩, fun e => by cases e⟩
    rw [cell_of_row w x _ cur 134 (0, 0) h4]
    have hp : ∀ p ∈ d.R, (pc p).length = 65 := fun p hp => by unfold pc; simp [(h.ok.r p hp).2]
    have key : ∀ (R : List (Nat × List (BitVec 8))), (∀ p ∈ R, (pc p).length = 65) → ∀ j, j < R.length → ∀ i v, (pc (R.getD j (0, [])))[i]? = some v → (pcs R)[j * 65 + i]? = some v := by
      intro R
      induction R with
      | nil => intro _ j hj; simp at hj
      | cons p r ih =>
        intro hp j hj i v hv
        have hl := hp p (by simp)
        unfold pcs
        rw [List.flatMap_cons]
        cases j with
        | zero =>
          have hi : i < (pc p).length := (List.getElem?_eq_some_iff.1 hv).1
          rw [List.getElem?_append_left (by omega), Nat.zero_mul, Nat.zero_add]
          exact hv
        | succ j =>
          rw [List.getElem?_append_right (by omega), show (j + 1) * 65 + i - (pc p).length = j * 65 + i by omega]
          exact ih (fun q hq => hp q (by simp [hq])) j (by simpa using hj) i v hv
    have := key d.R hp j hj i v hv
    rw [← h8, List.getElem?_take] at this
    split at this
    · simpa using this
    · cases this
end
/-- a sector of a disk's bytes -/
def sec (S : List (BitVec 8)) (i : Nat) : List (BitVec 8) := (S.drop (64 * i)).take 64
theorem sec_len {S : List (BitVec 8)} {n i : Nat} (h : S.length = 64 * n) (hi : i < n) : (sec S i).length = 64 := by
  unfold sec
  rw [List.length_take, List.length_drop]
  omega
theorem sec_get {S : List (BitVec 8)} {n i j : Nat} (h : S.length = 64 * n) (hi : i < n) (hj : j < 64) : (sec S i)[j]? = S[64 * i + j]? := by
  unfold sec
  rw [List.getElem?_take, if_pos hj, List.getElem?_drop]
theorem DB.sec {w : World} {B g sb : Nat} {rv : Value} {d : Dk} (h : DB w B g sb rv d) (i : Nat) (hi : i < d.n) : w.rangeAt sb (i * 64) ((Go.Proofs.Ytjcbmlpfpcpakaa.sec d.S i).map cb) := fun j v hv => by
  obtain ⟨hj, rfl⟩ := List.getElem?_eq_some_iff.1 hv
  rw [List.length_map, sec_len h.ok.s hi] at hj
  rw [h.s.cell, V_get, Nat.mul_comm, ← sec_get h.ok.s hi hj, List.getElem_map, List.getElem?_eq_getElem]
  rfl
theorem V_eq {α : Type} (f : α → Value) (l : List α) : V f l = (l.map f).toArray := by unfold V; rfl
theorem Try.u132 : Try.prog.underlying 132 = some (.array 64 5) := by kernel_rfl
theorem Try.size132 : (Try.prog.info? 132).map (·.size) = some 64 := by kernel_rfl
theorem load_sec {w : World} {b o : Nat} {l : List (BitVec 8)} (h : w.rangeAt b o (l.map cb)) (hl : l.length = 64) : (Instr.loadAt 132 (.pointer (some ⟨b, o, none⟩))).run Try.prog w = .ok (.agg (V cb l)) w := by
  rw [V_eq]
  exact run_loadAt_mid w b o 132 (l.map cb) _ h Try.u132 rfl (by rw [List.length_map, hl]; exact Try.size132)
end Go.Proofs.Ytjcbmlpfpcpakaa
