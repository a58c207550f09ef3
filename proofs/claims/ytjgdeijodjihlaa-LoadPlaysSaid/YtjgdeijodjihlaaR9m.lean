/- LoadPlays: the walk of the law. -/
import Derived.Test.YtjgdeijodjihlaaR9l
import Derived.Test.YtjgdeijodjihlaaD9u
import Derived.Test.YtjgdeijodjihlaaD9f
namespace Go.Proofs.Ytjgdeijodjihlaa
open Go.RowKit
set_option linter.unusedVariables false

/-- a new meter, and its reference: what is made -/
def Mk (w0 w : World) (n h : Int) (qa : Option Addr) (c : Int) : Prop :=
  (fitB n h = false ∧ qa = none ∧ c = 2) ∨ (fitB n h = true ∧ c = 0 ∧ ∃ g lb, qa = some ⟨g, 0, none⟩ ∧ w0.heap.size ≤ g ∧ w0.heap.size ≤ lb ∧ g < w.heap.size ∧ lb < w.heap.size ∧ MB w g lb (newM n.toNat h.toNat))
def Rk (w0 w : World) (n h : Int) (qa : Option Addr) (c : Int) : Prop :=
  (fitB n h = false ∧ qa = none ∧ c = 2) ∨ (fitB n h = true ∧ c = 0 ∧ qa = some ⟨w0.heap.size, 0, none⟩ ∧ w0.heap.size < w.heap.size ∧ RB w w0.heap.size n.toNat h.toNat 0 (.slice none 0 0) [])
theorem new_any (n h : Int) (w : World) : Calls Try.prog 16 #[ci n, ci h] w fun e w' => ∃ qa c, e = .returned (.tuple #[.pointer qa, ci c]) ∧ Mk w w' n h qa c ∧ Ext w w' := by
  refine (new_calls n h w).mono ?_
  rintro e w' (⟨hf, rfl, rfl⟩ | ⟨hf, g, lb, rfl, h1, h2, h3, h4⟩)
  · exact ⟨none, 2, rfl, Or.inl ⟨hf, rfl, rfl⟩, Ext.refl _⟩
  · exact ⟨_, 0, rfl, Or.inr ⟨hf, rfl, g, lb, rfl, h1, h2, h3.b.lt, h3.l.lt, h3⟩, h4⟩
theorem rnew_any (n h : Int) (w : World) : Calls Try.prog 23 #[ci n, ci h] w fun e w' => ∃ qa c, e = .returned (.tuple #[.pointer qa, ci c]) ∧ Rk w w' n h qa c ∧ Ext w w' := by
  refine (rnew_calls n h w).mono ?_
  rintro e w' (⟨hf, rfl, rfl⟩ | ⟨hf, rfl, rfl⟩)
  · exact ⟨none, 2, rfl, Or.inl ⟨hf, rfl, rfl⟩, Ext.refl _⟩
  · obtain ⟨h1, h2, h3, h4⟩ := (fitB_iff n h).1 hf
    have hb := Blk.new w #[ci n, ci h, ci 0, .slice none 0 0] 71
    refine ⟨_, 0, rfl, Or.inr ⟨hf, rfl, rfl, by rw [World.size_alloc]; omega, ?_, World.ownsRow_nil _ _ _ _⟩, Ext.of_alloc _⟩
    rw [Int.toNat_of_nonneg (by omega), Int.toNat_of_nonneg (by omega)]
    exact hb
/-- both together -/
theorem mk_slot {w0 w1 w2 w3 w4 : World} {n h : Int} {qa qx : Option Addr} {c d : Int} (h1 : Mk w0 w1 n h qa c) (h2 : Rk w2 w3 n h qx d) (e1 : Ext w1 w4) (e3 : Ext w3 w4) :
    c = d ∧ ((qa = none ∧ qx = none) ∨ ∃ p q, qa = some p ∧ qx = some q) ∧ ∃ o, Slot w4 (.pointer qa) (.pointer qx) o 1 ∧ ∀ q, bks o q → (w0.heap.size ≤ q ∧ q < w1.heap.size) ∨ (w2.heap.size ≤ q ∧ q < w3.heap.size) := by
  rcases h1 with ⟨hf, rfl, rfl⟩ | ⟨hf, rfl, g, lb, rfl, a1, a2, a3, a4, mb⟩
  · rcases h2 with ⟨_, rfl, rfl⟩ | ⟨hf2, _⟩
    · exact ⟨rfl, Or.inl ⟨rfl, rfl⟩, none, ⟨rfl, rfl⟩, fun q hq => by cases hq⟩
    · rw [hf] at hf2; cases hf2
  · rcases h2 with ⟨hf2, _⟩ | ⟨_, rfl, rfl, b1, rb⟩
    · rw [hf] at hf2; cases hf2
    · obtain ⟨f1, f2, f3, f4⟩ := (fitB_iff n h).1 hf
      refine ⟨rfl, Or.inr ⟨_, _, rfl, rfl⟩, some (g, lb, w2.heap.size, newM n.toNat h.toNat, .slice none 0 0, []), ⟨rfl, rfl, mb.ext e1, ?_, Rl.new _ _, Bnd.new _ _, Nat.le_refl _, by omega, fun y hy => by cases hy⟩, ?_⟩
      · have := rb.ext e3
        unfold newM
        simpa using this
      · rintro q (rfl | rfl | rfl | hq)
        · exact Or.inl ⟨a1, a3⟩
        · exact Or.inl ⟨a2, a4⟩
        · exact Or.inr ⟨Nat.le_refl _, b1⟩
        · cases hq
end Go.Proofs.Ytjgdeijodjihlaa
