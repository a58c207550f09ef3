/- Layer 9 (load): the law's step: hits and the clock, of a meter and its reference. -/
import Derived.Test.YtjgdeijodjihlaaR9f
import Derived.Deep.RegionHeld3
namespace Go.Proofs.Ytjgdeijodjihlaa
open Go.RowKit
set_option linter.unusedVariables false

/-- only the meter's and the reference's own blocks were changed -/
structure Fx (W w : World) (g lb r : Nat) (av : Value) : Prop where
  os : w.os = W.os
  tape : w.tape = W.tape
  output : w.output = W.output
  size : W.heap.size ≤ w.heap.size
  only : ∀ k, k < W.heap.size → k ≠ g → k ≠ lb → k ≠ r → av.ownBlock ≠ some k → w.heap[k]? = W.heap[k]?
section
variable {W w w' : World} {g lb r : Nat} {av : Value}
theorem Fx.refl (W : World) (g lb r : Nat) (av : Value) : Fx W W g lb r av := ⟨rfl, rfl, rfl, Nat.le_refl _, fun _ _ _ _ _ _ => rfl⟩
theorem Fx.ext (h : Fx W w g lb r av) (e : Ext w w') : Fx W w' g lb r av :=
  ⟨e.to.os.trans h.os, e.to.tape.trans h.tape, e.to.output.trans h.output, Nat.le_trans h.size e.size, fun k hk a b c d => (e.block (Nat.lt_of_lt_of_le hk h.size)).trans (h.only k hk a b c d)⟩
theorem Fx.grw2 (h : Fx W w g lb r av) (e : Grw2 w w' g lb) : Fx W w' g lb r av :=
  ⟨e.os.trans h.os, e.tape.trans h.tape, e.output.trans h.output, Nat.le_trans h.size e.size, fun k hk a b c d => (e.block k (Nat.lt_of_lt_of_le hk h.size) a b).trans (h.only k hk a b c d)⟩
theorem Fx.bar (h : Fx W w g lb r av) (e : Bar w w' (.slice (some ⟨r, 0, none⟩) 0 0) av) : Fx W w' g lb r av :=
  ⟨e.os.trans h.os, e.tape.trans h.tape, e.output.trans h.output, Nat.le_trans h.size e.size, fun k hk a b c d => (e.only k (Nat.lt_of_lt_of_le hk h.size) (fun x => c (Option.some.inj x).symm) d).trans (h.only k hk a b c d)⟩
end
theorem Blk.bar {w w' : World} {b r : Nat} {c : Array Value} {t : TypeId} {av : Value} (h : Blk w b c t) (k : Bar w w' (.slice (some ⟨r, 0, none⟩) 0 0) av) (h1 : b ≠ r) (h2 : av.ownBlock ≠ some b) : Blk w' b c t :=
  (k.only b h.lt (fun e => h1 (Option.some.inj e).symm) h2).trans h
/-- a row of another type lies in another block -/
theorem row_ne {w : World} {B T U s n b : Nat} {v : Value} {xs : List Value} {c : Array Value} (h : w.ownsRow B T s v n xs) (k : Blk w b c U) (hT : T ≠ U) : v.ownBlock ≠ some b := fun e => by
  obtain ⟨_, ⟨rfl, _⟩ | ⟨g, cap, cur, rfl, _, hg, _⟩⟩ := h
  · cases e
  · cases e
    exact hT (Blk.type (show Blk w _ cur T from hg) k)
theorem RB.grw2 {w w' : World} {r n half now g lb : Nat} {av : Value} {A : List Ht} {m : Mt} (h : RB w r n half now av A) (k : Grw2 w w' g lb) (mb : MB w g lb m) : RB w' r n half now av A := by
  refine ⟨h.b.grw2 k (fun e => ?_) (fun e => ?_), ?_⟩
  · subst e; exact absurd (Blk.type h.b mb.b) (by decide)
  · subst e; exact absurd (Blk.type h.b mb.l) (by decide)
  · have n1 := row_ne h.a mb.b (by decide)
    have n2 := row_ne h.a mb.l (by decide)
    obtain ⟨h1, h2 | ⟨g', cap, cur, rfl, h3, h4, h5⟩⟩ := h.a
    · exact ⟨h1, Or.inl h2⟩
    · exact ⟨h1, Or.inr ⟨g', cap, cur, rfl, h3, (k.block g' (Array.getElem?_eq_some_iff.1 h4).1 (fun e => n1 (by rw [← e]; rfl)) (fun e => n2 (by rw [← e]; rfl))).trans h4, h5⟩⟩
theorem MB.bar {w w' : World} {r n half now g lb : Nat} {av : Value} {A : List Ht} {m : Mt} (h : MB w g lb m) (k : Bar w w' (.slice (some ⟨r, 0, none⟩) 0 0) av) (rb : RB w r n half now av A) : MB w' g lb m :=
  ⟨h.b.bar k (fun e => by subst e; exact absurd (Blk.type h.b rb.b) (by decide)) (row_ne rb.a h.b (by decide)), h.l.bar k (fun e => by subst e; exact absurd (Blk.type h.l rb.b) (by decide)) (row_ne rb.a h.l (by decide)), h.ok⟩
set_option maxHeartbeats 4000000 in
theorem step_hit (g lb r K : Nat) (m : Mt) (av : Value) (A : List Ht) (who s t : Int) (x : BitVec 64) (w : World) (h : St9 w g lb r m av A K) (hk : K + 1 < 5000000000000) :
    Calls Try.prog 25 #[.pointer (some ⟨g, 0, none⟩), .pointer (some ⟨r, 0, none⟩), .agg #[ci 1, ci who, ci s, ci t, .int .u64 (Bv x)]] w fun e w' => e = .returned (.bool true) ∧
      ∃ av' A', St9 w' g lb r (hitP m s t x.toNat).2 av' A' (K + 1) ∧ Fx w w' g lb r av ∧ (av'.ownBlock = av.ownBlock ∨ ∃ k, av'.ownBlock = some k ∧ w.heap.size ≤ k) := by
  have e1 := Ext.of_alloc (w := w) (.cells #[ci 1, ci who, ci s, ci t, .int .u64 (Bv x)] 41)
  have hb := Blk.new w #[ci 1, ci who, ci s, ci t, .int .u64 (Bv x)] 41
  have hm := h.ext e1
  have G1 := Lib.hid ((Fx.refl w g lb r av).ext e1)
  have SZ := Lib.hid e1.size
  have hBn : Bnd (K + 1) (hitP m s t x.toNat).2 := by
    have := h.bn.set (by have := h.kA; omega) (by omega) ⟨1, who, s, t, x⟩
    unfold setP at this
    simpa using this
  obtain ⟨w0, hw0⟩ : ∃ z, w.alloc (.cells #[ci 1, ci who, ci s, ci t, .int .u64 (Bv x)] 41) = z := ⟨_, rfl⟩
  have HW0 := Lib.hid hw0
  rw [hw0] at hb hm G1 SZ
  obtain ⟨bx, hbx⟩ : ∃ b, w.heap.size = b := ⟨_, rfl⟩
  have HBX := Lib.hid hbx
  rw [hbx] at hb
  have HB := Lib.hid hb
  have HM := Lib.hid hm
  have HBN := Lib.hid hBn
  have hfb : ∀ (w : World), (callFunc 17 #[.int .u64 (Bv x)]).run Try.prog w = .ok (.value (cf x.toNat)) w := fun w => frombits (Bv x) w
  have HN := Lib.hid num_calls
  have HK := Lib.hid hk
  have H14 := Lib.hid (fun (w : World) (h : MB w g lb m) => hit_calls g lb m s t x.toNat w h x.isLt)
  have H34 := Lib.hid (fun (w : World) (k : Rm w r m av A) => rhit_calls r K m av A s t x.toNat w k x.isLt h.bn (by have := h.kk; omega))
  obtain ⟨R, hR⟩ : ∃ R, hitP m s t x.toNat = R := ⟨_, rfl⟩
  rw [hR] at H14 H34 HBN ⊢
  obtain ⟨c, m'⟩ := R
  simp only at H14 H34 HBN ⊢
  clear hR h e1 hm hb hw0 hbx hBn hk
  have K0 : Boxd w0 bx s t x := ⟨HB.out.cell 2, HB.out.cell 3, HB.out.cell 4⟩
  have z0 : w0.cell? ⟨bx, 0, none⟩ = some (ci 1) := HB.out.cell 0
  go_enter Try.func25, Try.ntmps25
  go_upto_region 1 with fail
  rw [HW0.out, HBX.out]
  go_upto_region 4 with fail
  go_region_held3 (fun w' => Boxd w' bx s t x) (first | exact K2 | exact K1 | exact K0)
    (first
      | (go_at_call 34; refine (H34.out w1 R1.out).mono ?_; rintro e w2 ⟨rfl, av', A', k1⟩
         have RN := Lib.hid k1
         have M2 := Lib.hid (M1.out.bar k1.bar R1.out.b)
         have G3 := Lib.hid (G2.out.bar k1.bar)
         have hb2 := HB1.out.bar k1.bar (fun e => by subst e; exact absurd (Blk.type HB1.out R1.out.b.b) (by decide)) (row_ne R1.out.b.a HB1.out (by decide))
         have K2 : Boxd w2 bx s t x := ⟨hb2.cell 2, hb2.cell 3, hb2.cell 4⟩
         clear k1 hb2)
      | (go_at_call 14; refine (H14.out _ (HM.out.mb.ext (Ext.refl _).drew)).mono ?_; rintro e w1 ⟨rfl, k1, k2⟩
         have M1 := Lib.hid k1
         have G2 := Lib.hid ((G1.out.ext (Ext.refl _).drew).grw2 k2)
         have R1 : Hid (Rm w1 r m av A) := by
           have q := HM.out.rm.ext ((Ext.refl w0).drew)
           exact ⟨q.b.grw2 k2 (HM.out.mb.ext (Ext.refl _).drew), q.rl, q.ok, q.len, q.sh, q.bl⟩
         have HB1 : Hid (Blk w1 bx #[ci 1, ci who, ci s, ci t, .int .u64 (Bv x)] 41) := (HB.out.ext (Ext.refl _).drew).grw2 k2 (fun e => by subst e; exact absurd (Blk.type HB.out HM.out.mb.b) (by decide)) (fun e => by subst e; exact absurd (Blk.type HB.out HM.out.mb.l) (by decide))
         have S1 := Lib.hid (Nat.le_trans SZ.out (Nat.le_trans ((Ext.refl w0).drew.size) k2.size))
         have K1 : Boxd w1 bx s t x := ⟨HB1.out.cell 2, HB1.out.cell 3, HB1.out.cell 4⟩
         clear k1 k2)
      | (go_at_call 13; refine (HN.out _ _).mono ?_; rintro e w3 ⟨rfl, rfl⟩))
  go_wp2_with fail
  go_ret
  refine ⟨by simp, av', A', ⟨M2.out, RN.out.b, RN.out.rl, HBN.out, ?_, HK.out, RN.out.sh⟩, G3.out, ?_⟩
  · have := RN.out.len; have := HM.out.kA; omega
  · rcases RN.out.own with e | ⟨k, e, hk⟩
    · exact Or.inl e
    · exact Or.inr ⟨k, e, Nat.le_trans S1.out hk⟩
set_option maxHeartbeats 4000000 in
theorem step_go (g lb r K : Nat) (m : Mt) (av : Value) (A : List Ht) (who s t : Int) (x : BitVec 64) (w : World) (h : St9 w g lb r m av A K) (hk : K + 1 < 5000000000000) :
    Calls Try.prog 25 #[.pointer (some ⟨g, 0, none⟩), .pointer (some ⟨r, 0, none⟩), .agg #[ci 2, ci who, ci s, ci t, .int .u64 (Bv x)]] w fun e w' => e = .returned (.bool true) ∧
      ∃ av' A', St9 w' g lb r (onP m t).2 av' A' (K + 1) ∧ Fx w w' g lb r av ∧ (av'.ownBlock = av.ownBlock ∨ ∃ k, av'.ownBlock = some k ∧ w.heap.size ≤ k) := by
  have e1 := Ext.of_alloc (w := w) (.cells #[ci 2, ci who, ci s, ci t, .int .u64 (Bv x)] 41)
  have hb := Blk.new w #[ci 2, ci who, ci s, ci t, .int .u64 (Bv x)] 41
  have hm := h.ext e1
  have G1 := Lib.hid ((Fx.refl w g lb r av).ext e1)
  have SZ := Lib.hid e1.size
  have hBn : Bnd (K + 1) (onP m t).2 := by
    have := h.bn.set (by have := h.kA; omega) (by omega) ⟨2, who, s, t, x⟩
    unfold setP at this
    simpa using this
  obtain ⟨w0, hw0⟩ : ∃ z, w.alloc (.cells #[ci 2, ci who, ci s, ci t, .int .u64 (Bv x)] 41) = z := ⟨_, rfl⟩
  have HW0 := Lib.hid hw0
  rw [hw0] at hb hm G1 SZ
  obtain ⟨bx, hbx⟩ : ∃ b, w.heap.size = b := ⟨_, rfl⟩
  have HBX := Lib.hid hbx
  rw [hbx] at hb
  have HB := Lib.hid hb
  have HM := Lib.hid hm
  have HBN := Lib.hid hBn
  have hfb : ∀ (w : World), (callFunc 17 #[.int .u64 (Bv x)]).run Try.prog w = .ok (.value (cf x.toNat)) w := fun w => frombits (Bv x) w
  have HN := Lib.hid num_calls
  have HK := Lib.hid hk
  have H14 := Lib.hid (fun (w : World) (h : MB w g lb m) => go_calls g lb m t w h)
  have H34 := Lib.hid (fun (w : World) (k : Rm w r m av A) => rgoP_calls r K m av A t w k h.bn (by have := h.kk; omega))
  obtain ⟨R, hR⟩ : ∃ R, onP m t = R := ⟨_, rfl⟩
  rw [hR] at H14 H34 HBN ⊢
  obtain ⟨c, m'⟩ := R
  simp only at H14 H34 HBN ⊢
  clear hR h e1 hm hb hw0 hbx hBn hk
  have K0 : Boxd w0 bx s t x := ⟨HB.out.cell 2, HB.out.cell 3, HB.out.cell 4⟩
  have z0 : w0.cell? ⟨bx, 0, none⟩ = some (ci 2) := HB.out.cell 0
  go_enter Try.func25, Try.ntmps25
  go_upto_region 1 with fail
  rw [HW0.out, HBX.out]
  go_upto_region 6 with fail
  go_region_held3 (fun w' => Boxd w' bx s t x) (first | exact K2 | exact K1 | exact K0)
    (first
      | (go_at_call 35; refine (H34.out w1 R1.out).mono ?_; rintro e w2 ⟨rfl, av', A', k1⟩
         have RN := Lib.hid k1
         have M2 := Lib.hid (M1.out.bar k1.bar R1.out.b)
         have G3 := Lib.hid (G2.out.bar k1.bar)
         have hb2 := HB1.out.bar k1.bar (fun e => by subst e; exact absurd (Blk.type HB1.out R1.out.b.b) (by decide)) (row_ne R1.out.b.a HB1.out (by decide))
         have K2 : Boxd w2 bx s t x := ⟨hb2.cell 2, hb2.cell 3, hb2.cell 4⟩
         clear k1 hb2)
      | (go_at_call 22; refine (H14.out _ (HM.out.mb.ext (Ext.refl _).drew)).mono ?_; rintro e w1 ⟨rfl, k1, k2⟩
         have M1 := Lib.hid k1
         have G2 := Lib.hid ((G1.out.ext (Ext.refl _).drew).grw2 k2)
         have R1 : Hid (Rm w1 r m av A) := by
           have q := HM.out.rm.ext ((Ext.refl w0).drew)
           exact ⟨q.b.grw2 k2 (HM.out.mb.ext (Ext.refl _).drew), q.rl, q.ok, q.len, q.sh, q.bl⟩
         have HB1 : Hid (Blk w1 bx #[ci 2, ci who, ci s, ci t, .int .u64 (Bv x)] 41) := (HB.out.ext (Ext.refl _).drew).grw2 k2 (fun e => by subst e; exact absurd (Blk.type HB.out HM.out.mb.b) (by decide)) (fun e => by subst e; exact absurd (Blk.type HB.out HM.out.mb.l) (by decide))
         have S1 := Lib.hid (Nat.le_trans SZ.out (Nat.le_trans ((Ext.refl w0).drew.size) k2.size))
         have K1 : Boxd w1 bx s t x := ⟨HB1.out.cell 2, HB1.out.cell 3, HB1.out.cell 4⟩
         clear k1 k2)
      | (go_at_call 13; refine (HN.out _ _).mono ?_; rintro e w3 ⟨rfl, rfl⟩))
  go_wp2_with fail
  go_ret
  refine ⟨by simp, av', A', ⟨M2.out, RN.out.b, RN.out.rl, HBN.out, ?_, HK.out, RN.out.sh⟩, G3.out, ?_⟩
  · have := RN.out.len; have := HM.out.kA; omega
  · rcases RN.out.own with e | ⟨k, e, hk⟩
    · exact Or.inl e
    · exact Or.inr ⟨k, e, Nat.le_trans S1.out hk⟩
end Go.Proofs.Ytjgdeijodjihlaa
