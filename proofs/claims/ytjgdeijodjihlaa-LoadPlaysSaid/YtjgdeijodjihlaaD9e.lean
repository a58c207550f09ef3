/- Layer 9 (load): scripts of one meter. -/
import Derived.Test.YtjgdeijodjihlaaD9d
namespace Go.Proofs.Ytjgdeijodjihlaa
open Go.RowKit
set_option linter.unusedVariables false

structure Sc where
  kind : Int
  who : Int
  shard : Int
  now : Int
  wt : BitVec 64
abbrev scv (o : Sc) : Value := .agg #[ci o.kind, ci o.who, ci o.shard, ci o.now, .int .u64 (Bv o.wt)]
/-- a slice that reads as a script -/
def RdS (w : World) (v : Value) (l : List Sc) : Prop :=
  (∃ a c, v = .slice a 0 c ∧ l = [] ∧ (a = none → c = 0)) ∨
  ∃ b o c n, v = .slice (some ⟨b, o, none⟩) n c ∧ n = l.length ∧ 0 < n ∧ ∀ i, (hi : i < l.length) →
    w.cell? ⟨b, o + i * 5, none⟩ = some (ci l[i].kind) ∧ w.cell? ⟨b, o + i * 5 + 1, none⟩ = some (ci l[i].who) ∧ w.cell? ⟨b, o + i * 5 + 2, none⟩ = some (ci l[i].shard) ∧ w.cell? ⟨b, o + i * 5 + 3, none⟩ = some (ci l[i].now) ∧ w.cell? ⟨b, o + i * 5 + 4, none⟩ = some (.int .u64 (Bv l[i].wt))
theorem RdS.ext {w w' : World} {v : Value} {l : List Sc} (h : RdS w v l) (e : Ext w w') : RdS w' v l := by
  rcases h with h | ⟨b, o, c, n, h1, h2, h3, h⟩
  · exact Or.inl h
  · exact Or.inr ⟨b, o, c, n, h1, h2, h3, fun i hi => ⟨e.cell (h i hi).1, e.cell (h i hi).2.1, e.cell (h i hi).2.2.1, e.cell (h i hi).2.2.2.1, e.cell (h i hi).2.2.2.2⟩⟩
theorem RdS.at {w : World} {v : Value} {l : List Sc} (h : RdS w v l) : ∃ ad c, v = .slice ad l.length c ∧ ∀ i, (hi : i < l.length) → ∃ b o, ad = some ⟨b, o, none⟩ ∧
    w.cell? ⟨b, o + i * 5, none⟩ = some (ci l[i].kind) ∧ w.cell? ⟨b, o + i * 5 + 1, none⟩ = some (ci l[i].who) ∧ w.cell? ⟨b, o + i * 5 + 2, none⟩ = some (ci l[i].shard) ∧ w.cell? ⟨b, o + i * 5 + 3, none⟩ = some (ci l[i].now) ∧ w.cell? ⟨b, o + i * 5 + 4, none⟩ = some (.int .u64 (Bv l[i].wt)) := by
  rcases h with ⟨a, c, rfl, rfl, _⟩ | ⟨b, o, c, n, rfl, rfl, h0, h⟩
  · exact ⟨a, c, rfl, fun i hi => by simp at hi⟩
  · exact ⟨_, c, rfl, fun i hi => ⟨b, o, rfl, h i hi⟩⟩
def setP (m : Mt) (o : Sc) : Bool × Mt :=
  if o.kind = 1 then ((hitP m o.shard o.now o.wt.toNat).1 == 0, (hitP m o.shard o.now o.wt.toNat).2)
  else if o.kind = 2 then ((onP m o.now).1 == 0, (onP m o.now).2) else (false, m)
def scc (o : Sc) : Array Value := #[ci o.kind, ci o.who, ci o.shard, ci o.now, .int .u64 (Bv o.wt)]
abbrev Boxd (w : World) (bx : Nat) (s t : Int) (x : BitVec 64) : Prop := w.cell? ⟨bx, 2, none⟩ = some (ci s) ∧ w.cell? ⟨bx, 3, none⟩ = some (ci t) ∧ w.cell? ⟨bx, 4, none⟩ = some (.int .u64 (Bv x))
set_option maxHeartbeats 4000000 in
theorem set_calls (g lb : Nat) (m : Mt) (o : Sc) (w : World) (h : MB w g lb m) :
    Calls Try.prog 18 #[.pointer (some ⟨g, 0, none⟩), scv o] w fun e w' => e = .returned (.bool (setP m o).1) ∧ MB w' g lb (setP m o).2 ∧ Grw2 w w' g lb := by
  obtain ⟨k, who, s, t, x⟩ := o
  unfold setP scv
  simp only
  have e1 := Ext.of_alloc (w := w) (.cells #[ci k, ci who, ci s, ci t, .int .u64 (Bv x)] 41)
  have hb := Blk.new w #[ci k, ci who, ci s, ci t, .int .u64 (Bv x)] 41
  have hm := h.ext e1
  have G1 := Lib.hid ((Grw2.refl w g lb).ext e1)
  have hg : w.heap.size ≠ g := by have := h.b.lt; omega
  have hl : w.heap.size ≠ lb := by have := h.l.lt; omega
  obtain ⟨w0, hw0⟩ : ∃ z, w.alloc (.cells #[ci k, ci who, ci s, ci t, .int .u64 (Bv x)] 41) = z := ⟨_, rfl⟩
  have HW0 := Lib.hid hw0
  rw [hw0] at hb hm G1
  obtain ⟨bx, hbx⟩ : ∃ b, w.heap.size = b := ⟨_, rfl⟩
  have HBX := Lib.hid hbx
  rw [hbx] at hb hg hl
  have HB := Lib.hid hb
  have HM := Lib.hid hm
  have NG := Lib.hid hg
  have NL := Lib.hid hl
  have hfb : ∀ (w : World), (callFunc 17 #[.int .u64 (Bv x)]).run Try.prog w = .ok (.value (cf x.toNat)) w := fun w => frombits (Bv x) w
  have HN := Lib.hid num_calls
  clear h e1 hm hb hw0 hbx hg hl
  by_cases hk1 : k = 1
  · subst hk1
    rw [if_pos rfl]
    have H14 := Lib.hid (fun (w : World) (h : MB w g lb m) => hit_calls g lb m s t x.toNat w h x.isLt)
    obtain ⟨R, hR⟩ : ∃ R, hitP m s t x.toNat = R := ⟨_, rfl⟩
    rw [hR] at H14 ⊢
    obtain ⟨e, m'⟩ := R
    simp only at H14 ⊢
    clear hR
    go_enter Try.func18, Try.ntmps18
    go_wp2_with fail
    rw [HW0.out, HBX.out]
    have K0 : Boxd w0 bx s t x := ⟨HB.out.cell 2, HB.out.cell 3, HB.out.cell 4⟩
    go_region_held (fun w' => Boxd w' bx s t x) (first | exact K1 | exact K0)
      (first
        | (go_at_call 14; refine (H14.out _ (HM.out.ext (Ext.refl _).drew)).mono ?_; clear H14; rintro e w1 ⟨rfl, k1, k2⟩
           have M1 := Lib.hid k1
           have K2 := Lib.hid ((G1.out.ext (Ext.refl _).drew).trans k2)
           have hb1 := (HB.out.ext (Ext.refl _).drew).grw2 k2 NG.out NL.out
           have K1 : Boxd w1 bx s t x := ⟨hb1.cell 2, hb1.cell 3, hb1.cell 4⟩
           clear k1 k2 hb1)
        | (go_at_call 13; refine (HN.out _ _).mono ?_; rintro e w2 ⟨rfl, rfl⟩))
    go_wp2_with fail
    go_ret
    exact ⟨rfl, M1.out, K2.out⟩
  · rw [if_neg hk1]
    have hkd : decide (k = 1) = false := decide_eq_false hk1
    have hkb : (k == 1) = false := by simpa using hk1
    by_cases hk2 : k = 2
    · subst hk2
      rw [if_pos rfl]
      have H22 := Lib.hid (fun (w : World) (h : MB w g lb m) => go_calls g lb m t w h)
      obtain ⟨R, hR⟩ : ∃ R, onP m t = R := ⟨_, rfl⟩
      rw [hR] at H22 ⊢
      obtain ⟨e, m'⟩ := R
      simp only at H22 ⊢
      have z0 := HB.out.cell 0
      have z3 := HB.out.cell 3
      clear hR
      go_enter Try.func18, Try.ntmps18
      go_wp2_with fail
      rw [HW0.out, HBX.out]
      have y0 : w0.cell? ⟨bx, 0, none⟩ = some (ci 2) := z0
      have y3 : w0.cell? ⟨bx, 3, none⟩ = some (ci t) := z3
      clear z0 z3
      go_wp2_with (first
        | (go_at_call 22; refine (H22.out _ HM.out).mono ?_; clear H22; rintro e w1 ⟨rfl, k1, k2⟩
           have M1 := Lib.hid k1
           have K2 := Lib.hid (G1.out.trans k2)
           clear k1 k2)
        | (go_at_call 13; refine (HN.out _ _).mono ?_; rintro e w2 ⟨rfl, rfl⟩)
        | fail)
      go_ret
      exact ⟨rfl, M1.out, K2.out⟩
    · rw [if_neg hk2]
      have hkd2 : decide (k = 2) = false := decide_eq_false hk2
      have hkb2 : (k == 2) = false := by simpa using hk2
      go_enter Try.func18, Try.ntmps18
      go_wp2_with fail
      rw [HW0.out, HBX.out]
      have y0 : w0.cell? ⟨bx, 0, none⟩ = some (ci k) := HB.out.cell 0
      go_wp2_with fail
      go_ret
      exact ⟨rfl, HM.out, G1.out⟩
end Go.Proofs.Ytjgdeijodjihlaa
