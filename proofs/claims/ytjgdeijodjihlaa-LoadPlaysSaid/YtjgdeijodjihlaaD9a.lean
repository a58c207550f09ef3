/- Layer 9 (load): meters in memory; what only reads. -/
import Derived.Test.YtjgdeijodjihlaaProg
import Derived.Test.YtjgdeijodjihlaaBv
import Derived.Test.YtjgdeijodjihlaaArr
import Derived.Test.YtjgdeijodjihlaaExt
import Derived.Test.YtjgdeijodjihlaaGen
import Derived.Test.YtjgdeijodjihlaaFlp
namespace Go.Proofs.Ytjgdeijodjihlaa
open Go.RowKit
open Ieee
set_option linter.unusedVariables false

abbrev cf (n : Nat) : Value := .float .f64 n
theorem cf_one (a : Nat) : (cf a).oneCell' = true := rfl
theorem Rd.at {α : Type} {w : World} {f : α → Value} {v : Value} {l : List α} (h : Rd w f v l) : ∃ ad c, v = .slice ad l.length c ∧ ∀ i, (hi : i < l.length) → ∃ b o, ad = some ⟨b, o, none⟩ ∧ w.cell? ⟨b, o + i, none⟩ = some (f l[i]) := by
  rcases h with ⟨a, c, rfl, rfl, _⟩ | ⟨b, o, c, n, rfl, rfl, h0, h⟩
  · exact ⟨a, c, rfl, fun i hi => by simp at hi⟩
  · exact ⟨_, c, rfl, fun i hi => ⟨b, o, rfl, h i hi⟩⟩
def fadd (x y : Nat) : Nat := (floatBits .add .f64 x y).getD 0
theorem fadd_eq {x y : Nat} (hx : good x) (hy : nn y) : floatBits .add .f64 x y = some (fadd x y) ∧ good (fadd x y) := by
  obtain ⟨z, hz, h⟩ := add_good hx hy
  unfold fadd
  rw [h]; exact ⟨rfl, hz⟩
def fhalf (x : Nat) : Nat := (floatBits .mul .f64 x 4602678819172646912).getD 0
theorem read_half : D64.read 4602678819172646912 = .number false (2 ^ 52) (-53) := by kernel_rfl
theorem fhalf_eq {x : Nat} (hx : good x) : floatBits .mul .f64 x 4602678819172646912 = some (fhalf x) ∧ good (fhalf x) := by
  have key : ∃ z, good z ∧ floatBits .mul .f64 x 4602678819172646912 = some z := by
    by_cases h : num x
    · exact mul_good hx h (by unfold good inf64; omega) ⟨_, _, _, read_half⟩
    · have hx' := hx
      unfold good inf64 at hx'
      rcases read_cases x (by omega) with ⟨s, m, p, hr, _⟩ | ⟨s, hr, h0, _⟩ | ⟨s, f, hr, h1⟩
      · exact absurd ⟨s, m, p, hr⟩ h
      · obtain rfl := h0 (by omega)
        show ∃ z, good z ∧ D64.mul x 4602678819172646912 = some z
        unfold Format.mul
        rw [hr, read_half]
        exact ⟨_, word_inf, rfl⟩
      · omega
  obtain ⟨z, hz, h⟩ := key
  unfold fhalf
  rw [h]; exact ⟨rfl, hz⟩
def gtB (x y : Nat) : Bool := FloatKind.f64.format.order x y == some .gt
def leB (x y : Nat) : Bool := FloatKind.f64.format.order x y == some .lt || FloatKind.f64.format.order x y == some .eq
theorem gtB_eq (x y : Nat) : gtB x y = (FloatKind.f64.format.order x y == some .gt) := rfl
theorem leB_eq (x y : Nat) : leB x y = (FloatKind.f64.format.order x y == some .lt || FloatKind.f64.format.order x y == some .eq) := rfl
theorem good0 : good 0 := by unfold good inf64; omega
theorem good_lt {x : Nat} (h : good x) : x < 18446744073709551616 := by unfold good inf64 at h; omega
/-- a meter -/
structure Mt where
  half : Nat
  now : Nat
  L : List Nat
  win : List Nat
def mc (m : Mt) (lb : Nat) : Array Value := #[ci m.half, ci m.now, .slice (some ⟨lb, 0, none⟩) m.L.length m.L.length] ++ V cf m.win
structure Mt.ok (m : Mt) : Prop where
  h1 : 1 ≤ m.half
  h2 : m.half ≤ 1048576
  n1 : m.now ≤ 1099511627776
  l1 : 1 ≤ m.L.length
  l2 : m.L.length ≤ 64
  w8 : m.win.length = 8
  gl : ∀ x ∈ m.L, good x
  gw : ∀ x ∈ m.win, good x
structure MB (w : World) (g lb : Nat) (m : Mt) : Prop where
  b : Blk w g (mc m lb) 66
  l : Blk w lb (V cf m.L) 33
  ok : m.ok
theorem MB.ext {w w' : World} {g lb : Nat} {m : Mt} (h : MB w g lb m) (e : Ext w w') : MB w' g lb m := ⟨h.b.ext e, h.l.ext e, h.ok⟩
theorem MB.ne {w : World} {g lb : Nat} {m : Mt} (h : MB w g lb m) : g ≠ lb := by
  rintro rfl
  exact absurd (Blk.type h.b h.l) (by decide)
theorem mc_get (m : Mt) (lb i : Nat) : (mc m lb)[3 + i]? = (m.win[i]?).map cf := by
  unfold mc
  rw [Array.getElem?_append_right (by simp), V_get]
  simp
theorem MB.half {w : World} {g lb : Nat} {m : Mt} (h : MB w g lb m) : w.cell? ⟨g, 0, none⟩ = some (ci m.half) := by rw [h.b.cell]; unfold mc; rw [Array.getElem?_append_left (by simp)]; rfl
theorem MB.now {w : World} {g lb : Nat} {m : Mt} (h : MB w g lb m) : w.cell? ⟨g, 1, none⟩ = some (ci m.now) := by rw [h.b.cell]; unfold mc; rw [Array.getElem?_append_left (by simp)]; rfl
theorem MB.loads {w : World} {g lb : Nat} {m : Mt} (h : MB w g lb m) : w.cell? ⟨g, 2, none⟩ = some (.slice (some ⟨lb, 0, none⟩) m.L.length m.L.length) := by rw [h.b.cell]; unfold mc; rw [Array.getElem?_append_left (by simp)]; rfl
theorem MB.win {w : World} {g lb : Nat} {m : Mt} (h : MB w g lb m) (i : Nat) (hi : i < m.win.length) : w.cell? ⟨g, 3 + i, none⟩ = some (cf m.win[i]) := by rw [h.b.cell, mc_get, List.getElem?_eq_getElem hi]; rfl
theorem MB.at {w : World} {g lb : Nat} {m : Mt} (h : MB w g lb m) (i : Nat) (hi : i < m.L.length) : w.cell? ⟨lb, i, none⟩ = some (cf m.L[i]) := by rw [h.l.cell, V_get, List.getElem?_eq_getElem hi]; rfl
theorem MB.rd {w : World} {g lb : Nat} {m : Mt} (h : MB w g lb m) : Rd w cf (.slice (some ⟨lb, 0, none⟩) m.L.length m.L.length) m.L := by
  refine Or.inr ⟨_, _, _, _, rfl, rfl, h.ok.l1, fun i hi => ?_⟩
  rw [Nat.zero_add]; exact h.at i hi
/-- two blocks may have changed, and new ones may have come -/
structure Grw2 (w w' : World) (g l : Nat) : Prop where
  os : w'.os = w.os
  tape : w'.tape = w.tape
  output : w'.output = w.output
  size : w.heap.size ≤ w'.heap.size
  block : ∀ k, k < w.heap.size → k ≠ g → k ≠ l → w'.heap[k]? = w.heap[k]?
theorem Grw2.refl (w : World) (g l : Nat) : Grw2 w w g l := ⟨rfl, rfl, rfl, Nat.le_refl _, fun _ _ _ _ => rfl⟩
theorem Grw2.trans {a b c : World} {g l : Nat} (h : Grw2 a b g l) (k : Grw2 b c g l) : Grw2 a c g l :=
  ⟨k.os.trans h.os, k.tape.trans h.tape, k.output.trans h.output, Nat.le_trans h.size k.size, fun i hi h1 h2 => (k.block i (Nat.lt_of_lt_of_le hi h.size) h1 h2).trans (h.block i hi h1 h2)⟩
theorem Grw2.set {a b : World} {g l : Nat} (h : Grw2 a b g l) (p : Addr) (hp : p.block = g ∨ p.block = l) (v : Value) : Grw2 a (b.setCell p v) g l := by
  refine h.trans ?_
  obtain ⟨pb, po, ps⟩ := p
  have hb : ∀ k, k ≠ pb → (b.setCell ⟨pb, po, ps⟩ v).heap[k]? = b.heap[k]? := fun k hk => by
    simp only [World.setCell]
    rw [Array.getElem?_modify]
    rw [if_neg (fun e => hk e.symm)]
  exact ⟨rfl, rfl, rfl, by simp [World.setCell], fun k _ h1 h2 => hb k (by rcases hp with rfl | rfl <;> assumption)⟩
theorem Grw2.row {a b : World} {g l : Nat} (h : Grw2 a b g l) (c : Array Value) : Grw2 a (b.setRow g c) g l := by
  refine h.trans ⟨rfl, rfl, rfl, by simp [World.setRow], fun k _ h1 _ => ?_⟩
  simp only [World.setRow]
  rw [Array.getElem?_modify, if_neg (fun e => h1 e.symm)]
theorem Grw2.ext {a b c : World} {g l : Nat} (h : Grw2 a b g l) (k : Ext b c) : Grw2 a c g l :=
  h.trans ⟨k.to.os, k.to.tape, k.to.output, k.size, fun i hi _ _ => k.block hi⟩
theorem Ext.grw2 {a b c : World} {g l : Nat} (h : Ext a b) (k : Grw2 b c g l) (hg : a.heap.size ≤ g) (hl : a.heap.size ≤ l) : Ext a c :=
  Ext.of ⟨k.os.trans h.to.os, k.tape.trans h.to.tape, k.output.trans h.to.output, Nat.le_trans h.size k.size, fun i hi => (k.block i (Nat.lt_of_lt_of_le hi h.size) (by omega) (by omega)).trans (h.block hi)⟩
theorem Blk.grw2 {w w' : World} {b g l : Nat} {c : Array Value} {t : TypeId} (h : Blk w b c t) (k : Grw2 w w' g l) (h1 : b ≠ g) (h2 : b ≠ l) : Blk w' b c t := (k.block b h.lt h1 h2).trans h
theorem MB.grw2 {w w' : World} {g lb g' l' : Nat} {m : Mt} (h : MB w g lb m) (k : Grw2 w w' g' l') (h1 : g ≠ g') (h2 : g ≠ l') (h3 : lb ≠ g') (h4 : lb ≠ l') : MB w' g lb m := ⟨h.b.grw2 k h1 h2, h.l.grw2 k h3 h4, h.ok⟩
theorem Own.grw2 {α : Type} {w w' : World} {B g l : Nat} {T : TypeId} {f : α → Value} {v : Value} {ls : List α} (h : Own w B T f v ls) (k : Grw2 w w' g l) (h1 : v.ownBlock ≠ some g) (h2 : v.ownBlock ≠ some l) : Own w' B T f v ls := by
  obtain ⟨a, h | ⟨x, cap, cur, h3, h4, h5, h6⟩⟩ := h
  · exact ⟨a, Or.inl h⟩
  · subst h3
    exact ⟨a, Or.inr ⟨x, cap, cur, rfl, h4, by rw [k.block x (Array.getElem?_eq_some_iff.1 h5).1 (fun e => h1 (by rw [e]; rfl)) (fun e => h2 (by rw [e]; rfl))]; exact h5, h6⟩⟩
/- contracts -/
attribute [irreducible] fadd fhalf gtB leB
theorem num_calls (n : Int) (w : World) : Calls Try.prog 13 #[ci n] w fun e w' => e = .returned (ci n) ∧ w = w' := by
  go_enter Try.func13, Try.ntmps13
  go_wp2_with fail
  go_ret
  exact ⟨rfl, rfl⟩
def fitB (n h : Int) : Bool := decide (1 ≤ n ∧ n ≤ 64 ∧ 1 ≤ h ∧ h ≤ 1048576)
theorem fit_calls (n h : Int) (w : World) : Calls Try.prog 11 #[ci n, ci h] w fun e w' => e = .returned (.bool (fitB n h)) ∧ w = w' := by
  unfold fitB
  go_enter Try.func11, Try.ntmps11
  by_cases h1 : 1 ≤ n
  · by_cases h2 : n ≤ 64
    · by_cases h3 : 1 ≤ h
      · by_cases h4 : h ≤ 1048576
        · rw [decide_eq_true ⟨h1, h2, h3, h4⟩]
          go_wp2_with fail
          go_ret
          exact ⟨rfl, rfl⟩
        · rw [decide_eq_false (fun c => h4 c.2.2.2)]
          go_wp2_with fail
          go_ret
          exact ⟨rfl, rfl⟩
      · rw [decide_eq_false (fun c => h3 c.2.2.1)]
        go_wp2_with fail
        go_ret
        exact ⟨rfl, rfl⟩
    · rw [decide_eq_false (fun c => h2 c.2.1)]
      go_wp2_with fail
      go_ret
      exact ⟨rfl, rfl⟩
  · rw [decide_eq_false (fun c => h1 c.1)]
    go_wp2_with fail
    go_ret
    exact ⟨rfl, rfl⟩
theorem tobits (n : Nat) (w : World) : (callFunc 32 #[cf n]).run Try.prog w = .ok (.value (.int .u64 n)) w := by kernel_rfl
theorem frombits (n : Int) (w : World) : (callFunc 17 #[.int .u64 n]).run Try.prog w = .ok (.value (cf n.toNat)) w := by kernel_rfl
theorem like_calls (x : Nat) (w : World) : Calls Try.prog 19 #[cf x, cf x] w fun e w' => e = .returned (.bool true) ∧ w = w' := by
  go_enter Try.func19, Try.ntmps19
  have hb := tobits x
  cases h : (FloatKind.f64.format.order x x != some .eq) with
  | true =>
    go_wp2_with fail
    go_ret
    exact ⟨rfl, rfl⟩
  | false =>
    go_wp2_with fail
    go_ret
    exact ⟨rfl, rfl⟩
end Go.Proofs.Ytjgdeijodjihlaa
