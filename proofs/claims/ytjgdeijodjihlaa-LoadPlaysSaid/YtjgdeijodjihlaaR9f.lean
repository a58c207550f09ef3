/- Layer 9 (load): a meter and its reference side by side: what a hit and the clock do to both. -/
import Derived.Test.YtjgdeijodjihlaaR9e
import Derived.Test.YtjgdeijodjihlaaD9e
namespace Go.Proofs.Ytjgdeijodjihlaa
open Go.RowKit
set_option linter.unusedVariables false

/-- the reference behind a call, as it stands beside m -/
structure Rn (W w : World) (r : Nat) (m : Mt) (av av' : Value) (A A' : List Ht) : Prop where
  b : RB w r m.L.length m.half m.now av' A'
  rl : Rl m A'
  len : A'.length ≤ A.length + 1
  sh : ∀ h ∈ A', 0 ≤ h.1 ∧ h.1 < m.L.length
  bar : Bar W w (.slice (some ⟨r, 0, none⟩) 0 0) av
  own : av'.ownBlock = av.ownBlock ∨ ∃ k, av'.ownBlock = some k ∧ W.heap.size ≤ k
theorem Rn.ext {W w w' : World} {r : Nat} {m : Mt} {av av' : Value} {A A' : List Ht} (h : Rn W w r m av av' A A') (e : Ext w w') : Rn W w' r m av av' A A' := ⟨h.b.ext e, h.rl, h.len, h.sh, h.bar.ext e, h.own⟩
theorem hitP_bad {m : Mt} {s t : Int} {x : Nat} (h : (hitP m s t x).1 ≠ 0) : (hitP m s t x).2 = m := by
  unfold hitP at h ⊢
  split
  · rfl
  · next h1 =>
    rw [if_neg h1] at h
    split
    · next h2 => rw [if_pos h2] at h; exact absurd rfl h
    · rfl
theorem hitP_ok {m : Mt} {s t : Int} {x : Nat} (h : (hitP m s t x).1 = 0) : 0 ≤ s ∧ s < m.L.length ∧ wtB x = true ∧ (onP m t).1 = 0 ∧ (hitP m s t x).2 = addM (onP m t).2 s.toNat x := by
  unfold hitP at h ⊢
  split
  · next h1 => rw [if_pos h1] at h; cases h
  · next h1 =>
    rw [if_neg h1] at h
    have hw : wtB x = true := by
      cases hw : wtB x with
      | true => rfl
      | false => exact absurd (Or.inr (Or.inr hw)) h1
    split
    · next h2 => exact ⟨by omega, by omega, hw, h2, rfl⟩
    · next h2 => rw [if_neg h2] at h; exact absurd h h2
theorem Rl.len {m : Mt} {A : List Ht} (h : Rl m A) : True := trivial
theorem onM_len (m : Mt) (t : Nat) : (onM m t).L.length = m.L.length := by unfold onM; simp
theorem addM_len (m : Mt) (i x : Nat) : (addM m i x).L.length = m.L.length := by unfold addM; simp
theorem rhit_calls (r K : Nat) (m : Mt) (av : Value) (A : List Ht) (s t : Int) (x : Nat) (W : World) (h : Rm W r m av A) (hx : x < 18446744073709551616) (hb : Bnd K m) (hK : K ≤ 8796093022208) :
    Calls Try.prog 34 #[.pointer (some ⟨r, 0, none⟩), ci s, ci t, cf x] W fun e w' => e = .returned (ci (hitP m s t x).1) ∧ ∃ av' A', Rn W w' r (hitP m s t x).2 av av' A A' := by
  by_cases hc : (hitP m s t x).1 = 0
  · obtain ⟨h1, h2, h3, h4, h5⟩ := hitP_ok hc
    obtain ⟨o1, o2, o3, o4⟩ := onP_ok h4
    rw [hc, h5, o4]
    refine (rhit_ok r m av A s t x W h hx h3 h1 h2 o1 o2 o3).mono ?_
    rintro e w' ⟨rfl, av', k1, k2, k3⟩
    have hrl := (h.rl.on h.ok hb hK (t := t.toNat) (by omega)).add (onM_ok h.ok (by omega)) (s := s.toNat) (x := x) (by rw [onM_len]; omega) h3 hx
    rw [Int.toNat_of_nonneg h1] at hrl
    refine ⟨rfl, av', _, ⟨?_, hrl, by rw [List.length_append]; exact Nat.le_refl _, ?_, k2, k3⟩⟩
    · rw [addM_len, onM_len]; exact k1
    · intro y hy
      rw [addM_len, onM_len]
      rcases List.mem_append.1 hy with hy | hy
      · exact h.sh y hy
      · obtain rfl := List.mem_singleton.1 hy; exact ⟨h1, h2⟩
  · rw [hitP_bad hc]
    refine (rhit_bad r m av A s t x W h hx hc).mono ?_
    rintro e w' ⟨rfl, rfl⟩
    exact ⟨rfl, av, A, ⟨h.b, h.rl, by omega, h.sh, Bar.refl _ _ _, Or.inl rfl⟩⟩
theorem rgoP_calls (r K : Nat) (m : Mt) (av : Value) (A : List Ht) (t : Int) (W : World) (h : Rm W r m av A) (hb : Bnd K m) (hK : K ≤ 8796093022208) :
    Calls Try.prog 35 #[.pointer (some ⟨r, 0, none⟩), ci t] W fun e w' => e = .returned (ci (onP m t).1) ∧ ∃ av' A', Rn W w' r (onP m t).2 av av' A A' := by
  refine (rgo_calls r m av A t W h).mono ?_
  rintro e w' ⟨rfl, ⟨hc, rfl⟩ | ⟨hc, rfl⟩⟩
  · rw [onP_bad hc]
    exact ⟨rfl, av, A, ⟨h.b, h.rl, by omega, h.sh, Bar.refl _ _ _, Or.inl rfl⟩⟩
  · obtain ⟨o1, o2, o3, o4⟩ := onP_ok hc
    rw [o4]
    refine ⟨rfl, av, A, ⟨?_, h.rl.on h.ok hb hK (by omega), by omega, ?_, (Bar.refl W _ _).grown (grown_set _ _ _ _) (fun k hk => Or.inl hk), Or.inl rfl⟩⟩
    · rw [onM_len]
      have e : ((t.toNat : Nat) : Int) = t := Int.toNat_of_nonneg o1
      refine ⟨?_, ?_⟩
      · have := h.b.b.set 2 (ci t)
        show Blk _ _ #[ci m.L.length, ci m.half, ci (t.toNat : Nat), av] 71
        rw [e]; exact this
      · exact World.ownsRow.kept h.b.a (grown_set _ _ _ _) (by
          rcases Go.Proofs.Ytjgdeijodjihlaa.World.ownsRow.diff (T := 78) (U := 71) h.b.a (v := .slice (some ⟨r, 0, none⟩) 0 4) (s := 3) (t := 1) (C := 0) (m := 0) (ys := []) ⟨rfl, Or.inr ⟨r, 4, _, rfl, Nat.zero_le _, h.b.b, by omega, by unfold maxLen; omega, rfl, rfl⟩⟩ (by decide) with e | e
          · exact Or.inl e
          · exact Or.inr e)
    · intro y hy
      rw [onM_len]
      exact h.sh y hy
/-- a meter and its reference -/
structure St9 (w : World) (g lb r : Nat) (m : Mt) (av : Value) (A : List Ht) (K : Nat) : Prop where
  mb : MB w g lb m
  rb : RB w r m.L.length m.half m.now av A
  rl : Rl m A
  bn : Bnd K m
  kA : A.length + 1 ≤ K
  kk : K < 5000000000000
  sh : ∀ h ∈ A, 0 ≤ h.1 ∧ h.1 < m.L.length
theorem St9.rm {w : World} {g lb r : Nat} {m : Mt} {av : Value} {A : List Ht} {K : Nat} (h : St9 w g lb r m av A K) : Rm w r m av A :=
  ⟨h.rb, h.rl, h.mb.ok, by have := h.kA; have := h.kk; omega, h.sh, h.bn.row (by have := h.kk; omega)⟩
theorem St9.ext {w w' : World} {g lb r : Nat} {m : Mt} {av : Value} {A : List Ht} {K : Nat} (h : St9 w g lb r m av A K) (e : Ext w w') : St9 w' g lb r m av A K := ⟨h.mb.ext e, h.rb.ext e, h.rl, h.bn, h.kA, h.kk, h.sh⟩
end Go.Proofs.Ytjgdeijodjihlaa
