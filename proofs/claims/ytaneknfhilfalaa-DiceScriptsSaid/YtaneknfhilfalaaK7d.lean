/- Layer 7 (dice): steps of a script, by both. -/
import Derived.Test.YtaneknfhilfalaaK7c
import Derived.Deep.DeepCutAuto
namespace Go.Proofs.Ytaneknfhilfalaa
open Go.RowKit
set_option linter.unusedVariables false

/-- but for two blocks what was is as it was -/
structure Kp (w w' : World) (g m : Nat) : Prop where
  os : w'.os = w.os
  tape : w'.tape = w.tape
  output : w'.output = w.output
  size : w.heap.size ≤ w'.heap.size
  block : ∀ k, k < w.heap.size → k ≠ g → k ≠ m → w'.heap[k]? = w.heap[k]?
theorem Kp.of_grown1 {w w' : World} {g m : Nat} (h : w.grownBy w' (some g)) : Kp w w' g m := ⟨h.os, h.tape, h.output, h.size, fun k hk h1 _ => h.block k hk (fun e => h1 (Option.some.inj e))⟩
theorem Kp.of_grown2 {w w' : World} {g m : Nat} (h : w.grownBy w' (some m)) : Kp w w' g m := ⟨h.os, h.tape, h.output, h.size, fun k hk _ h1 => h.block k hk (fun e => h1 (Option.some.inj e))⟩
theorem Kp.of_ext {w w' : World} {g m : Nat} (h : Ext w w') : Kp w w' g m := Kp.of_grown1 (h.grownBy _)
theorem Kp.trans {a b c : World} {g m : Nat} (h : Kp a b g m) (k : Kp b c g m) : Kp a c g m :=
  ⟨k.os.trans h.os, k.tape.trans h.tape, k.output.trans h.output, Nat.le_trans h.size k.size, fun j hj h1 h2 => (k.block j (Nat.lt_of_lt_of_le hj h.size) h1 h2).trans (h.block j hj h1 h2)⟩
theorem Ext.kp {a b c : World} {g m : Nat} (h : Ext a b) (k : Kp b c g m) (h1 : a.heap.size ≤ g) (h2 : a.heap.size ≤ m) : Ext a c := by
  have z := h.size
  exact Ext.of ⟨k.os.trans h.to.os, k.tape.trans h.to.tape, k.output.trans h.to.output, Nat.le_trans z k.size, fun j hj => (k.block j (by omega) (by omega) (by omega)).trans (h.block hj)⟩
theorem Kp.blk {a b : World} {g m : Nat} (k : Kp a b g m) {j : Nat} {c : Array Value} {t : TypeId} (h : Blk a j c t) (h1 : j ≠ g) (h2 : j ≠ m) : Blk b j c t := (k.block j h.lt h1 h2).trans h
theorem dm_ne {w : World} {g m : Nat} {s t : BitVec 64} (h : DB w g s) (k : MB w m t) : g ≠ m := fun e => by
  subst e; exact absurd (Blk.type h k) (by decide)
/-- behind a step: the dice stand alike -/
def Aft (w w' : World) (g m : Nat) : Prop := ∃ s', DB w' g s' ∧ MB w' m s' ∧ Kp w w' g m
theorem step_other {w : World} {g m : Nat} {s : BitVec 64} (hd : DB w g s) (hm : MB w m s) (wh n : Int) (far : BitVec 64) (a : Option Addr) (ln c : Nat) (kd : Int) (hk : kd ≠ 1 ∧ kd ≠ 2 ∧ kd ≠ 3 ∧ kd ≠ 4 ∧ kd ≠ 5 ∧ kd ≠ 6 ∧ kd ≠ 7) :
    Calls Try.prog 35 #[.pointer (some ⟨g, 0, none⟩), .pointer (some ⟨m, 0, none⟩), .agg #[ci kd, ci wh, ci n, cw far, .slice a ln c]] w fun e w' => e = .returned (.bool true) ∧ Aft w w' g m := by
  have hx := Ext.of_alloc (w := w) (.cells #[ci kd, ci wh, ci n, cw far, .slice a ln c] 62)
  have HX := Lib.hid hx
  have D1 := Lib.hid (hd.ext hx)
  have M1 := Lib.hid (hm.ext hx)
  have NE := Lib.hid (dm_ne hd hm)
  obtain ⟨k1, k2, k3, k4, k5, k6, k7⟩ := hk
  have b1 : (kd == 1) = false := by simpa using k1
  have b2 : (kd == 2) = false := by simpa using k2
  have b3 : (kd == 3) = false := by simpa using k3
  have b4 : (kd == 4) = false := by simpa using k4
  have b5 : (kd == 5) = false := by simpa using k5
  have b6 : (kd == 6) = false := by simpa using k6
  have b7 : (kd == 7) = false := by simpa using k7
  clear hx hd hm
  go_enter Try.func35, Try.ntmps35
  go_wp2_with fail
  go_ret
  exact ⟨rfl, s, D1.out, M1.out, Kp.of_ext HX.out⟩
theorem step_state {w : World} {g m : Nat} {s : BitVec 64} (hd : DB w g s) (hm : MB w m s) (wh n : Int) (far : BitVec 64) (a : Option Addr) (ln c : Nat) :
    Calls Try.prog 35 #[.pointer (some ⟨g, 0, none⟩), .pointer (some ⟨m, 0, none⟩), .agg #[ci 1, ci wh, ci n, cw far, .slice a ln c]] w fun e w' => e = .returned (.bool true) ∧ Aft w w' g m := by
  have hx := Ext.of_alloc (w := w) (.cells #[ci 1, ci wh, ci n, cw far, .slice a ln c] 62)
  have HX := Lib.hid hx
  have D1 := Lib.hid (hd.ext hx)
  have M1 := Lib.hid (hm.ext hx)
  have NE := Lib.hid (dm_ne hd hm)
  clear hx hd hm
  go_enter Try.func35, Try.ntmps35
  go_wp2_with (first
    | (go_at_call 40; refine (ref_state_calls m s _ (MB.die M1.out)).mono ?_; rintro e w1 ⟨rfl, rfl⟩)
    | (go_at_call 22; refine (state_calls g s _ (DB.die D1.out)).mono ?_; rintro e w1 ⟨rfl, rfl⟩)
    | fail)
  go_ret
  exact ⟨rfl, s, D1.out, M1.out, Kp.of_ext HX.out⟩
theorem step_next {w : World} {g m : Nat} {s : BitVec 64} (hd : DB w g s) (hm : MB w m s) (wh n : Int) (far : BitVec 64) (a : Option Addr) (ln c : Nat) :
    Calls Try.prog 35 #[.pointer (some ⟨g, 0, none⟩), .pointer (some ⟨m, 0, none⟩), .agg #[ci 2, ci wh, ci n, cw far, .slice a ln c]] w fun e w' => e = .returned (.bool true) ∧ Aft w w' g m := by
  have hx := Ext.of_alloc (w := w) (.cells #[ci 2, ci wh, ci n, cw far, .slice a ln c] 62)
  have HX := Lib.hid hx
  have D1 := Lib.hid (hd.ext hx)
  have M1 := Lib.hid (hm.ext hx)
  have NE := Lib.hid (dm_ne hd hm)
  clear hx hd hm
  go_enter Try.func35, Try.ntmps35
  go_wp2_with (first
    | (go_at_call 41; refine (ref_next_calls m s _ (MB.die M1.out)).mono ?_; rintro e w2 ⟨rfl, hw2⟩
       have M2 : Hid (MB w2 m (s + stride) ∧ DB w2 g s ∧ Kp w w2 g m) := by
           rw [← hw2]
           exact ⟨MB.next M1.out, Blk.far D1.out ⟨m, 0, none⟩ NE.out _, (Kp.of_ext HX.out).trans (Kp.of_grown2 (grown_set _ _ _ _))⟩
       clear hw2)
    | (go_at_call 20; refine (next_calls g s _ (DB.die M2.out.2.1)).mono ?_; rintro e w3 ⟨rfl, hw3⟩
       have M3 : Hid (MB w3 m (s + stride) ∧ DB w3 g (s + stride) ∧ Kp w w3 g m) := by
           rw [← hw3]
           exact ⟨Blk.far M2.out.1 ⟨g, 0, none⟩ (Ne.symm NE.out) _, DB.next M2.out.2.1, M2.out.2.2.trans (Kp.of_grown1 (grown_set _ _ _ _))⟩
       clear hw3)
    | fail)
  go_ret
  exact ⟨rfl, _, M3.out.2.1, M3.out.1, M3.out.2.2⟩
theorem step_jump {w : World} {g m : Nat} {s : BitVec 64} (hd : DB w g s) (hm : MB w m s) (wh n : Int) (far : BitVec 64) (a : Option Addr) (ln c : Nat) :
    Calls Try.prog 35 #[.pointer (some ⟨g, 0, none⟩), .pointer (some ⟨m, 0, none⟩), .agg #[ci 3, ci wh, ci n, cw far, .slice a ln c]] w fun e w' => e = .returned (.bool true) ∧ Aft w w' g m := by
  have hx := Ext.of_alloc (w := w) (.cells #[ci 3, ci wh, ci n, cw far, .slice a ln c] 62)
  have HX := Lib.hid hx
  have D1 := Lib.hid (hd.ext hx)
  have M1 := Lib.hid (hm.ext hx)
  have NE := Lib.hid (dm_ne hd hm)
  have hbx := Blk.new w #[ci 3, ci wh, ci n, cw far, .slice a ln c] 62
  have hbl : g ≠ w.heap.size ∧ m ≠ w.heap.size := by have := hd.lt; have := hm.lt; omega
  have HBL := Lib.hid hbl
  have HBX := Lib.hid hbx
  clear hx hd hm
  clear hbx hbl
  go_enter Try.func35, Try.ntmps35
  go_wp2_with (first
    | (go_at_call 42; refine (ref_jump_calls m s far _ (MB.die M1.out)).mono ?_; rintro e w2 ⟨rfl, hw2⟩
       have M2 : Hid (MB w2 m (s + far * stride) ∧ DB w2 g s ∧ Kp w w2 g m) := by
           rw [← hw2]
           exact ⟨MB.next M1.out, Blk.far D1.out ⟨m, 0, none⟩ NE.out _, (Kp.of_ext HX.out).trans (Kp.of_grown2 (grown_set _ _ _ _))⟩
       have c3 : w2.cell? ⟨w.heap.size, 3, none⟩ = some (cw far) := by rw [← hw2]; exact (Blk.far HBX.out ⟨m, 0, none⟩ (Ne.symm HBL.out.2) _).cell 3
       clear hw2)
    | (go_at_call 28; refine (jump_calls g s far _ (DB.die M2.out.2.1)).mono ?_; rintro e w3 ⟨rfl, hw3⟩
       have M3 : Hid (MB w3 m (s + far * stride) ∧ DB w3 g (s + far * stride) ∧ Kp w w3 g m) := by
           rw [← hw3]
           exact ⟨Blk.far M2.out.1 ⟨g, 0, none⟩ (Ne.symm NE.out) _, DB.next M2.out.2.1, M2.out.2.2.trans (Kp.of_grown1 (grown_set _ _ _ _))⟩
       clear hw3)
    | fail)
  go_ret
  exact ⟨rfl, _, M3.out.2.1, M3.out.1, M3.out.2.2⟩
theorem step_roll {w : World} {g m : Nat} {s : BitVec 64} (hd : DB w g s) (hm : MB w m s) (wh n : Int) (far : BitVec 64) (a : Option Addr) (ln c : Nat) (hn : -9223372036854775808 ≤ n ∧ n ≤ 9223372036854775807) :
    Calls Try.prog 35 #[.pointer (some ⟨g, 0, none⟩), .pointer (some ⟨m, 0, none⟩), .agg #[ci 4, ci wh, ci n, cw far, .slice a ln c]] w fun e w' => e = .returned (.bool true) ∧ Aft w w' g m := by
  have hx := Ext.of_alloc (w := w) (.cells #[ci 4, ci wh, ci n, cw far, .slice a ln c] 62)
  have HX := Lib.hid hx
  have D1 := Lib.hid (hd.ext hx)
  have M1 := Lib.hid (hm.ext hx)
  have NE := Lib.hid (dm_ne hd hm)
  have hbx := Blk.new w #[ci 4, ci wh, ci n, cw far, .slice a ln c] 62
  have hbl : g ≠ w.heap.size ∧ m ≠ w.heap.size := by have := hd.lt; have := hm.lt; omega
  have HBL := Lib.hid hbl
  have HBX := Lib.hid hbx
  clear hx hd hm
  clear hbx hbl
  by_cases h1 : n < 1
  · go_enter Try.func35, Try.ntmps35
    go_wp2_with (first
      | (go_at_call 43; refine (rroll_low m n h1 _).mono ?_; rintro e w2 ⟨rfl, rfl⟩)
      | (go_at_call 23; refine (roll_low g n h1 _).mono ?_; rintro e w2 ⟨rfl, rfl⟩)
      | fail)
    go_ret
    exact ⟨rfl, s, D1.out, M1.out, Kp.of_ext HX.out⟩
  · have R1 := Lib.hid (fun w h => rroll_calls m s n (by omega) hn.2 w h)
    have R2 := Lib.hid (fun w h => roll_calls g s n (by omega) hn.2 w h)
    obtain ⟨k, hk⟩ : ∃ x, Bv (roll s (BitVec.ofInt 64 n)).1 = x := ⟨_, rfl⟩
    obtain ⟨s2, hs2⟩ : ∃ x, (roll s (BitVec.ofInt 64 n)).2 = x := ⟨_, rfl⟩
    rw [hk, hs2] at R1 R2
    clear hk hs2 h1 hn
    go_enter Try.func35, Try.ntmps35
    go_wp2_with (first
      | (go_at_call 43; refine (R1.out _ (MB.die M1.out)).mono ?_; rintro e w2 ⟨rfl, hw2⟩
         have M2 : Hid (MB w2 m s2 ∧ DB w2 g s ∧ Kp w w2 g m) := by
             rw [← hw2]
             exact ⟨MB.next M1.out, Blk.far D1.out ⟨m, 0, none⟩ NE.out _, (Kp.of_ext HX.out).trans (Kp.of_grown2 (grown_set _ _ _ _))⟩
         have c2 : w2.cell? ⟨w.heap.size, 2, none⟩ = some (ci n) := by rw [← hw2]; exact (Blk.far HBX.out ⟨m, 0, none⟩ (Ne.symm HBL.out.2) _).cell 2
         clear hw2)
      | (go_at_call 23; refine (R2.out _ (DB.die M2.out.2.1)).mono ?_; rintro e w3 ⟨rfl, hw3⟩
         have M3 : Hid (MB w3 m s2 ∧ DB w3 g s2 ∧ Kp w w3 g m) := by
             rw [← hw3]
             exact ⟨Blk.far M2.out.1 ⟨g, 0, none⟩ (Ne.symm NE.out) _, DB.next M2.out.2.1, M2.out.2.2.trans (Kp.of_grown1 (grown_set _ _ _ _))⟩
         clear hw3)
      | fail)
    go_ret
    exact ⟨rfl, _, M3.out.2.1, M3.out.1, M3.out.2.2⟩
theorem step_real {w : World} {g m : Nat} {s : BitVec 64} (hd : DB w g s) (hm : MB w m s) (wh n : Int) (far : BitVec 64) (a : Option Addr) (ln c : Nat) :
    Calls Try.prog 35 #[.pointer (some ⟨g, 0, none⟩), .pointer (some ⟨m, 0, none⟩), .agg #[ci 5, ci wh, ci n, cw far, .slice a ln c]] w fun e w' => e = .returned (.bool true) ∧ Aft w w' g m := by
  have hx := Ext.of_alloc (w := w) (.cells #[ci 5, ci wh, ci n, cw far, .slice a ln c] 62)
  have HX := Lib.hid hx
  have D1 := Lib.hid (hd.ext hx)
  have M1 := Lib.hid (hm.ext hx)
  have NE := Lib.hid (dm_ne hd hm)
  clear hx hd hm
  have R1 := Lib.hid (fun w h => rreal_calls m s w h)
  have R2 := Lib.hid (fun w h => real_calls g s w h)
  generalize realW (mix (s + stride) >>> 11).toNat = r at R1 R2
  have htb := tobits r
  go_enter Try.func35, Try.ntmps35
  go_wp2_with (first
    | (go_at_call 44; refine (R1.out _ (MB.die M1.out)).mono ?_; rintro e w2 ⟨rfl, hw2⟩
       have M2 : Hid (MB w2 m (s + stride) ∧ DB w2 g s ∧ Kp w w2 g m) := by
           rw [← hw2]
           exact ⟨MB.next M1.out, Blk.far D1.out ⟨m, 0, none⟩ NE.out _, (Kp.of_ext HX.out).trans (Kp.of_grown2 (grown_set _ _ _ _))⟩
       clear hw2)
    | (go_at_call 27; refine (R2.out _ (DB.die M2.out.2.1)).mono ?_; rintro e w3 ⟨rfl, hw3⟩
       have M3 : Hid (MB w3 m (s + stride) ∧ DB w3 g (s + stride) ∧ Kp w w3 g m) := by
           rw [← hw3]
           exact ⟨Blk.far M2.out.1 ⟨g, 0, none⟩ (Ne.symm NE.out) _, DB.next M2.out.2.1, M2.out.2.2.trans (Kp.of_grown1 (grown_set _ _ _ _))⟩
       clear hw3)
    | fail)
  go_ret
  exact ⟨rfl, _, M3.out.2.1, M3.out.1, M3.out.2.2⟩
end Go.Proofs.Ytaneknfhilfalaa
