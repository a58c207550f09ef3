/- Layer 9 (load): a place: a meter and its reference, or two that are nil; a step of the law leaves them so. -/
import Derived.Test.YtjgdeijodjihlaaR9k
namespace Go.Proofs.Ytjgdeijodjihlaa
open Go.RowKit
set_option linter.unusedVariables false

abbrev Pl := Option (Nat × Nat × Nat × Mt × Value × List Ht)
def Slot (w : World) (pv rv : Value) (o : Pl) (K : Nat) : Prop :=
  match o with
  | none => pv = .pointer none ∧ rv = .pointer none
  | some (g, lb, r, m, av, A) => pv = .pointer (some ⟨g, 0, none⟩) ∧ rv = .pointer (some ⟨r, 0, none⟩) ∧ St9 w g lb r m av A K
def bks (o : Pl) (k : Nat) : Prop :=
  match o with
  | none => False
  | some (g, lb, r, m, av, A) => k = g ∨ k = lb ∨ k = r ∨ av.ownBlock = some k
structure Onl (W w : World) (p : Nat → Prop) : Prop where
  os : w.os = W.os
  tape : w.tape = W.tape
  output : w.output = W.output
  size : W.heap.size ≤ w.heap.size
  only : ∀ k, k < W.heap.size → ¬ p k → w.heap[k]? = W.heap[k]?
theorem Ext.onl {W w : World} (e : Ext W w) (p : Nat → Prop) : Onl W w p := ⟨e.to.os, e.to.tape, e.to.output, e.size, fun k hk _ => e.block hk⟩
theorem Blk.onl {W w : World} {p : Nat → Prop} {b : Nat} {c : Array Value} {t : TypeId} (h : Blk W b c t) (k : Onl W w p) (hb : ¬ p b) : Blk w b c t := (k.only b h.lt hb).trans h
theorem Onl.below {W w w' : World} {p : Nat → Prop} (e : Ext W w) (k : Onl w w' p) (hp : ∀ q, p q → W.heap.size ≤ q) : Ext W w' :=
  e.below ⟨k.os, k.tape, k.output, k.size, fun q hq => k.only q (Nat.lt_of_lt_of_le hq e.size) (fun c => by have := hp q c; omega)⟩ (Nat.le_refl _)
theorem St9.mono {w : World} {g lb r : Nat} {m : Mt} {av : Value} {A : List Ht} {K J : Nat} (h : St9 w g lb r m av A K) (hj : K ≤ J) (hJ : J < 5000000000000) : St9 w g lb r m av A J :=
  ⟨h.mb, h.rb, h.rl, h.bn.mono hj, Nat.le_trans h.kA hj, hJ, h.sh⟩
theorem St9.lt {w : World} {g lb r : Nat} {m : Mt} {av : Value} {A : List Ht} {K : Nat} (h : St9 w g lb r m av A K) : ∀ q, bks (some (g, lb, r, m, av, A)) q → q < w.heap.size := fun q hq => by
  rcases hq with rfl | rfl | rfl | hq
  · exact h.mb.b.lt
  · exact h.mb.l.lt
  · exact h.rb.b.lt
  · exact h.rb.a.lt q hq
theorem Slot.lt {w : World} {pv rv : Value} {o : Pl} {K : Nat} (h : Slot w pv rv o K) : ∀ q, bks o q → q < w.heap.size := by
  match o, h with
  | none, _ => intro q hq; cases hq
  | some (g, lb, r, m, av, A), h => exact h.2.2.lt
/-- a place that a step elsewhere has not touched -/
theorem Slot.onl {w w' : World} {pv rv : Value} {o : Pl} {K : Nat} {p : Nat → Prop} (h : Slot w pv rv o K) (k : Onl w w' p) (hp : ∀ q, bks o q → ¬ p q) : Slot w' pv rv o K := by
  match o, h with
  | none, h => exact h
  | some (g, lb, r, m, av, A), ⟨h1, h2, h3⟩ =>
    refine ⟨h1, h2, ⟨⟨h3.mb.b.onl k (hp _ (Or.inl rfl)), h3.mb.l.onl k (hp _ (Or.inr (Or.inl rfl))), h3.mb.ok⟩, ⟨h3.rb.b.onl k (hp _ (Or.inr (Or.inr (Or.inl rfl)))), ?_⟩, h3.rl, h3.bn, h3.kA, h3.kk, h3.sh⟩⟩
    obtain ⟨a1, a2 | ⟨g', cap, cur, e, a3, a4, a5⟩⟩ := h3.rb.a
    · exact ⟨a1, Or.inl a2⟩
    · refine ⟨a1, Or.inr ⟨g', cap, cur, e, a3, ?_, a5⟩⟩
      rw [k.only g' (Array.getElem?_eq_some_iff.1 a4).1 (hp g' (Or.inr (Or.inr (Or.inr (by rw [e]; rfl)))))]
      exact a4
theorem Slot.mono {w : World} {pv rv : Value} {o : Pl} {K J : Nat} (h : Slot w pv rv o K) (hj : K ≤ J) (hJ : J < 5000000000000) : Slot w pv rv o J := by
  match o, h with
  | none, h => exact h
  | some (g, lb, r, m, av, A), ⟨h1, h2, h3⟩ => exact ⟨h1, h2, h3.mono hj hJ⟩
theorem Slot.ext {w w' : World} {pv rv : Value} {o : Pl} {K : Nat} (h : Slot w pv rv o K) (e : Ext w w') : Slot w' pv rv o K := h.onl (e.onl (fun _ => False)) (fun _ _ c => c)
theorem step_slot (pv rv : Value) (o : Pl) (K : Nat) (k who s t : Int) (x : BitVec 64) (w : World) (h : Slot w pv rv o K) (hK : K + 1 < 5000000000000) :
    Calls Try.prog 25 #[pv, rv, .agg #[ci k, ci who, ci s, ci t, .int .u64 (Bv x)]] w fun e w' => e = .returned (.bool true) ∧
      ∃ o', Slot w' pv rv o' (K + 1) ∧ Onl w w' (bks o) ∧ ∀ q, bks o' q → bks o q ∨ w.heap.size ≤ q := by
  have keep : ∀ {w' : World}, Ext w w' → ∃ o', Slot w' pv rv o' (K + 1) ∧ Onl w w' (bks o) ∧ ∀ q, bks o' q → bks o q ∨ w.heap.size ≤ q := fun e => ⟨o, (h.ext e).mono (Nat.le_succ _) hK, e.onl _, fun q hq => Or.inl hq⟩
  by_cases hk : k < 1 ∨ 5 < k
  · exact (step_other pv rv k who s t x w hk).mono fun e w' h => ⟨h.1, keep h.2⟩
  have hk5 : k = 1 ∨ k = 2 ∨ k = 3 ∨ k = 4 ∨ k = 5 := by omega
  match o, h, @keep with
  | none, ⟨h1, h2⟩, keep =>
    subst h1 h2
    rcases hk5 with rfl | rfl | rfl | rfl | rfl
    · exact (step_nil1 who s t x w).mono fun e w' h => ⟨h.1, keep h.2⟩
    · exact (step_nil2 who s t x w).mono fun e w' h => ⟨h.1, keep h.2⟩
    · exact (step_nil3 who s t x w).mono fun e w' h => ⟨h.1, keep h.2⟩
    · exact (step_nil4 who s t x w).mono fun e w' h => ⟨h.1, keep h.2⟩
    · exact (step_nil5 who s t x w).mono fun e w' h => ⟨h.1, keep h.2⟩
  | some (g, lb, r, m, av, A), ⟨h1, h2, h3⟩, keep =>
    subst h1 h2
    have fin : ∀ {w' : World} {m' : Mt}, (∃ av' A', St9 w' g lb r m' av' A' (K + 1) ∧ Fx w w' g lb r av ∧ (av'.ownBlock = av.ownBlock ∨ ∃ k, av'.ownBlock = some k ∧ w.heap.size ≤ k)) →
        ∃ o', Slot w' (.pointer (some ⟨g, 0, none⟩)) (.pointer (some ⟨r, 0, none⟩)) o' (K + 1) ∧ Onl w w' (bks (some (g, lb, r, m, av, A))) ∧ ∀ q, bks o' q → bks (some (g, lb, r, m, av, A)) q ∨ w.heap.size ≤ q := by
      rintro w' m' ⟨av', A', q1, q2, q3⟩
      refine ⟨some (g, lb, r, m', av', A'), ⟨rfl, rfl, q1⟩, ⟨q2.os, q2.tape, q2.output, q2.size, fun k hk hn => q2.only k hk (fun e => hn (Or.inl e)) (fun e => hn (Or.inr (Or.inl e))) (fun e => hn (Or.inr (Or.inr (Or.inl e)))) (fun e => hn (Or.inr (Or.inr (Or.inr e))))⟩, ?_⟩
      rintro q (rfl | rfl | rfl | hq)
      · exact Or.inl (Or.inl rfl)
      · exact Or.inl (Or.inr (Or.inl rfl))
      · exact Or.inl (Or.inr (Or.inr (Or.inl rfl)))
      · rcases q3 with e | ⟨k, e, hk⟩
        · exact Or.inl (Or.inr (Or.inr (Or.inr (by rw [← e]; exact hq))))
        · rw [e] at hq
          have := Option.some.inj hq
          exact Or.inr (by omega)
    rcases hk5 with rfl | rfl | rfl | rfl | rfl
    · exact (step_hit g lb r K m av A who s t x w h3 hK).mono fun e w' h => ⟨h.1, fin h.2⟩
    · exact (step_go g lb r K m av A who s t x w h3 hK).mono fun e w' h => ⟨h.1, fin h.2⟩
    · exact (step_sums g lb r K m av A who s t x w h3).mono fun e w' h => ⟨h.1, keep h.2⟩
    · exact (step_rows g lb r K m av A who s t x w h3).mono fun e w' h => ⟨h.1, keep h.2⟩
    · exact (step_wave g lb r K m av A who s t x w h3).mono fun e w' h => ⟨h.1, keep h.2⟩
end Go.Proofs.Ytjgdeijodjihlaa
