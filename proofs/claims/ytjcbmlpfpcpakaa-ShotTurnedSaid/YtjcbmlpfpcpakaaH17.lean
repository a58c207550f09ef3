/- Layer 12 (shot): ShotTurned, the walk. -/
import Derived.Test.YtjcbmlpfpcpakaaH16
import Derived.Test.YtjcbmlpfpcpakaaP12d
import Derived.Test.YtjcbmlpfpcpakaaD8i
namespace Go.Proofs.Ytjcbmlpfpcpakaa
open Go Go.RowKit
set_option linter.unusedVariables false
set_option linter.unusedSimpArgs false
/-- bytes that nothing of the disk's or the object's holds -/
structure Ro5 (W : World) (N : Nat) (v : Value) (l : By) : Prop where
  rd : Rd W cb v l
  bk : ∀ b, v.ownBlock = some b → b < N ∧ ∃ c, Blk W b c 5
  cap : ∀ a n c, v = .slice a n c → n ≤ c
theorem Ro5.of_own {W : World} {B : Nat} {v : Value} {l : By} (h : Own W B 5 cb v l) : Ro5 W W.heap.size v l := ⟨h.rd, fun b hb => by obtain ⟨c, k⟩ := h.blk0 b hb; exact ⟨k.lt, c, k⟩, h.caps⟩
theorem Ro5.ext {W W' : World} {N : Nat} {v : Value} {l : By} (h : Ro5 W N v l) (e : Ext W W') : Ro5 W' N v l := ⟨e.rd h.rd, fun b hb => by obtain ⟨q, c, k⟩ := h.bk b hb; exact ⟨q, c, k.ext e⟩, h.cap⟩
theorem Ro5.mono {W : World} {N N' : Nat} {v : Value} {l : By} (h : Ro5 W N v l) (e : N ≤ N') : Ro5 W N' v l := ⟨h.rd, fun b hb => by obtain ⟨q, c, k⟩ := h.bk b hb; exact ⟨by omega, c, k⟩, h.cap⟩
theorem Ro5.kz {W W' : World} {N g sb o : Nat} {v : Value} {l : By} {c1 c2 c3 : Array Value} (h : Ro5 W N v l) (k : Kz g sb o W W') (k1 : Blk W g c1 130) (k2 : Blk W sb c2 132) (k3 : Blk W o c3 143) : Ro5 W' N v l := by
  have hk : ∀ b, v.ownBlock = some b → b < N ∧ ∃ c, Blk W b c 5 ∧ Blk W' b c 5 := fun b hb => by
    obtain ⟨q, c, kb⟩ := h.bk b hb
    exact ⟨q, c, kb, k.2 b c 5 kb (kb.ne k1 (by decide)) (kb.ne k2 (by decide)) (kb.ne k3 (by decide)) (by decide)⟩
  exact ⟨h.rd.kp fun b hb => by obtain ⟨q, c, k1, k2⟩ := hk b hb; exact ⟨c, 5, k1, k2⟩, fun b hb => by obtain ⟨q, c, _, k2⟩ := hk b hb; exact ⟨q, c, k2⟩, h.cap⟩
theorem Ro5.set {W : World} {N : Nat} {v : Value} {l : By} (h : Ro5 W N v l) (p : Addr) (hp : N ≤ p.block) (x : Value) : Ro5 (W.setCell p x) N v l := by
  have hk : ∀ b, v.ownBlock = some b → b < N ∧ ∃ c, Blk W b c 5 ∧ Blk (W.setCell p x) b c 5 := fun b hb => by
    obtain ⟨q, c, kb⟩ := h.bk b hb
    exact ⟨q, c, kb, kb.far p (by omega) x⟩
  exact ⟨h.rd.kp fun b hb => by obtain ⟨q, c, k1, k2⟩ := hk b hb; exact ⟨c, 5, k1, k2⟩, fun b hb => by obtain ⟨q, c, _, k2⟩ := hk b hb; exact ⟨q, c, k2⟩, h.cap⟩
/-- a byte of an image's own row set anew -/
theorem image_set {W : World} {gi c n at' : Nat} {S : By} {B : Nat} (h : Own W B 5 cb (.slice (some ⟨gi, 0, none⟩) n c) S) (hn : n = S.length) (ha : at' < n) (y : BitVec 8) :
    n ≤ c ∧ (∃ cur, Blk W gi cur 5) ∧ W.cell? ⟨gi, at', none⟩ = some (cb (S.getD at' 0#8)) ∧ W.frozen? ⟨gi, at', none⟩ = false ∧ (W.setCell ⟨gi, at', none⟩ (cb y)).rangeAt gi 0 ((S.set at' y).map cb) := by
  rcases h.2 with ⟨hv, _⟩ | ⟨g, cap, cur, hv, hB, hg, hle, hmx, hcs, hx⟩
  · cases hv
  · injection hv with e1 e2 e3
    injection e1 with e1
    injection e1 with e1
    subst e1 e3
    have hb : Blk W gi cur 5 := hg
    have hget : ∀ j, j < n → cur[j]? = some (cb (S.getD j 0#8)) := fun j hj => by
      have : (cur.toList.take (S.length * 1))[j]? = (S.map cb)[j]? := by rw [hx]
      rw [List.getElem?_take, if_pos (by omega), List.getElem?_map, List.getElem?_eq_getElem (l := S) (by omega)] at this
      rw [← Array.getElem?_toList, this, List.getD_eq_getElem?_getD, List.getElem?_eq_getElem (by omega)]
      rfl
    refine ⟨by omega, ⟨cur, hb⟩, by rw [hb.cell]; exact hget _ ha, hb.free _, fun j v hj => ?_⟩
    have hjl : j < S.length := by
      have := (List.getElem?_eq_some_iff.1 hj).1
      simpa using this
    rw [Nat.zero_add, (hb.set at' (cb y)).cell]
    rw [List.getElem?_map] at hj
    by_cases hja : at' = j
    · subst hja
      rw [List.getElem?_set_self (by omega)] at hj
      rw [← hj, Array.getElem?_setIfInBounds_self_of_lt (by have := hget at' ha; exact (Array.getElem?_eq_some_iff.1 this).1)]
      rfl
    · rw [List.getElem?_set_ne hja, List.getElem?_eq_getElem hjl] at hj
      rw [← hj]
      have := hget j (by omega)
      rw [List.getD_eq_getElem?_getD, List.getElem?_eq_getElem hjl] at this
      rw [Array.getElem?_setIfInBounds_ne hja, this]
      rfl
theorem DX.load12 {w : World} {b o c n : Nat} {img : By} (h1 : 1 ≤ n) (h2 : n ≤ 65536) (hl : img.length = 64 * n) (hr : w.rangeAt b o (img.map cb)) (hc : 64 * n ≤ c) :
    Calls Try.prog 36 #[.slice (some ⟨b, o, none⟩) (64 * n) c] w fun e w' => e = .returned (.tuple #[.pointer (some ⟨w.heap.size + 1, 0, none⟩), ci 0]) ∧ DX w w' (w.heap.size + 1) w.heap.size (loadD img) ∧ Ext w w' :=
  (load_ok b o c img n h1 h2 hl hr hc).mono fun _ w' ⟨a, b, c⟩ => ⟨a, ⟨b, by omega, Nat.le_refl _, _, by
    have e : loadD img = ⟨n, img, [], false, 0, 0, 0⟩ := by unfold loadD; rw [hl, Nat.mul_div_cancel_left _ (by omega)]
    rw [e]
    exact c⟩, b⟩
end Go.Proofs.Ytjcbmlpfpcpakaa
