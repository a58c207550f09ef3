/- Layer 12 (shot): slices.Chunk over bytes, 64 at a time: its rounds, a panic in a round among their ways. -/
import Derived.Test.YtjcbmlpfpcpakaaH9
import Derived.RangeFuncCalls
import Derived.OwnWalkIn
import Derived.TacticsInMore
import Derived.Test.YtjcbmlpfpcpakaaG3
namespace Go.Proofs.Ytjcbmlpfpcpakaa
open Go.RowKit
set_option linter.unusedVariables false
attribute [local go_sem] Oper.semAt_some
theorem chunk_calls (a : Option Addr) (n c : Nat) (w : World) : Calls Try.prog 102 #[.slice a n c, ci 64] w fun e w' => e = .returned (.func (.func 144) #[] #[.pointer (some ⟨w.heap.size, 0, none⟩), .pointer (some ⟨w.heap.size + 1, 0, none⟩)]) ∧ w' = (w.alloc (.cells #[.slice a n c] 36)).alloc (.cells #[ci 64] 3) := by
  have hmf : ∀ (fn : Fn) (first cap : Array Value) (w : World), (Instr.makeFunc fn first cap).run Try.prog w = .ok (.func fn first cap) w := fun _ _ _ _ => rfl
  go_enter Try.func102, Try.ntmps102
  go_wp2_with fail
  go_ret
  exact ⟨rfl, rfl⟩
/-- a piece of a slice -/
def pieceV (b o n k : Nat) : Value := .slice (some ⟨b, o + 64 * k, none⟩) (min 64 (n - 64 * k)) (min 64 (n - 64 * k))
set_option maxRecDepth 100000 in
set_option maxHeartbeats 4000000 in
theorem chunk_rounds (m l bs bn b o n c : Nat) (hn : n ≤ 4294967296) (J : Nat → World → Prop) (Jp : List PanicEntry → World → Prop)
    (hJ : ∀ k W, J k W → W.cell? ⟨bs, 0, none⟩ = some (.slice (some ⟨b, o, none⟩) n c) ∧ W.cell? ⟨bn, 0, none⟩ = some (ci 64)) (hd : ∀ k W, J k W → J k W.drew) (hc : n ≤ c)
    (hY : ∀ k W, J k W → 64 * k < n → YieldAt Fence.wide m Try.prog l #[pieceV b o n k] W fun e W' => (e = .returned (.bool true) ∧ J (k + 1) W') ∨ (∃ ch, e = .panicked ch ∧ Jp ch W'))
    (W : World) (h0 : J 0 W) :
    Calls Try.prog 144 #[.func (.yield l) #[] #[], .pointer (some ⟨bs, 0, none⟩), .pointer (some ⟨bn, 0, none⟩)] W fun e W' => (∃ v, e = .returned v ∧ J (secsN n) W') ∨ (∃ ch, e = .panicked ch ∧ Jp ch W') := by
  have hn' : (n : Int) ≤ 4294967296 := by omega
  go_enter Try.func144, Try.ntmps144
  go_wp2_with fail
  go_loopw [4] (fun iv wr => ∃ k : Nat, k ≤ secsN n ∧ iv = .int .i64 ((64 * k : Nat) : Int) ∧ J k wr) (fun iv _ => (64 * secsN n - (intOf iv).toNat))
  case atStart => exact ⟨0, Nat.zero_le _, rfl, h0⟩
  case round =>
    obtain ⟨k, hk, rfl, hj⟩ := hrel
    obtain ⟨c1, c2⟩ := hJ k wr hj
    by_cases hlt : 64 * k < n
    · have hlt' : ((64 * k : Nat) : Int) < n := by omega
      have b1 : (0 : Int) ≤ ((64 * k : Nat) : Int) := by omega
      have b2 : ((64 * k : Nat) : Int) ≤ n := by omega
      have b3 : ((64 * k : Nat) : Int) ≤ c := by omega
      go_upto_region 3 with (fail)
      go_region
      have hmin : (if ((n - 64 * k : Nat) : Int) < 64 then ((n - 64 * k : Nat) : Int) else 64) = ((min 64 (n - 64 * k) : Nat) : Int) := by split <;> omega
      simp only [hmin]
      obtain ⟨q, hq⟩ : ∃ q, min 64 (n - 64 * k) = q := ⟨_, rfl⟩
      have q1 : 0 < q := by omega
      have q2 : 64 * k + q ≤ n := by omega
      have q3 : q ≤ 64 := by omega
      obtain ⟨fn, tmps, assign, body, hy, hR⟩ := hY k wr.drew (hd k wr hj) hlt
      unfold pieceV at hy
      rw [hq] at hy ⊢
      have c1' : wr.drew.cell? ⟨bs, 0, none⟩ = some (.slice (some ⟨b, o, none⟩) n c) := c1
      have s1 : ((64 * k : Nat) : Int) ≤ ((64 * k + q : Nat) : Int) := by omega
      have s2 : ((64 * k + q : Nat) : Int) ≤ (c : Int) := by omega
      have s3 : ¬ (64 * k + q = 64 * k) := by omega
      have s4 : 64 * k + q - 64 * k = q := by omega
      have s5 : ((64 * k : Nat) : Int) + q = ((64 * k + q : Nat) : Int) := by omega
      go_upto_region 4 with (fail)
      refine (wpIn_wide (n := m + 1)).1 ?_
      gi_wp2
      refine hR.mono ?_
      rintro e W3 (⟨rfl, hJ3⟩ | ⟨ch, rfl, hp3⟩)
      · obtain ⟨c3, c4⟩ := hJ _ W3 hJ3
        gi_wp2
        go_wp2_with fail
        refine ⟨⟨k + 1, by unfold secsN; omega, by push_cast; simp [Int.mul_add], hJ3⟩, ?_⟩
        simp only [intOf]
        have : 64 * k < 64 * secsN n := by unfold secsN; omega
        omega
      · gi_wp2
        refine ⟨rfl, Or.inr ⟨ch, rfl, hp3⟩⟩
    · obtain hk2 : k = secsN n := by unfold secsN at hk ⊢; omega
      go_wp2_with fail
      go_end0
      exact Or.inl ⟨_, rfl, hk2 ▸ hj⟩
end Go.Proofs.Ytjcbmlpfpcpakaa
namespace Go.Proofs.Ytjcbmlpfpcpakaa
open Go.RowKit
set_option linter.unusedVariables false
section
variable {w0 w : World} {g sb o fr size gen : Nat} {dead : Bool} {d : Dk}
theorem DX.writeN (h : DX w0 w g sb d) (at' : Nat) (dv : Value) (l : List (BitVec 8)) (hp : powP d = 0) (ha : at' < d.n) (hl : l.length = 64) (hd : Rd w cb dv l) (hm : (d.R.length + 1) * 72 ≤ 140737488355328) :
    Calls Try.prog 27 #[.pointer (some ⟨g, 0, none⟩), ci at', dv] w fun e w' => e = .returned (ci 0) ∧ DX w0 w' g sb (writeD d at' l) ∧ Kp g sb w w' ∧ Nc w w' := by
  obtain ⟨rv, k⟩ := h.d
  refine (write_ok k at' dv l hp ha hl hd h.e.size hm).mono ?_
  rintro e w' ⟨rfl, rv', k', hO, _⟩
  exact ⟨rfl, ⟨h.e.of_only hO (row_mine k rfl h.g0 h.s0), h.g0, h.s0, rv', k'⟩, Kp.only k hO, Nc.only hO k.blocks⟩
theorem DX.syncN (h : DX w0 w g sb d) (hp : powP d = 0) : Calls Try.prog 29 #[.pointer (some ⟨g, 0, none⟩)] w fun e w' => e = .returned (ci 0) ∧ DX w0 w' g sb (syncD d) ∧ Kp g sb w w' ∧ Nc w w' := by
  obtain ⟨rv, k⟩ := h.d
  exact (sync_ok k hp h.e.size).mono fun e w' ⟨a, b, c⟩ => ⟨a, ⟨h.e.of_only c (row_mine k rfl h.g0 h.s0), h.g0, h.s0, _, b⟩, Kp.only k c, Nc.only c k.blocks⟩
set_option maxRecDepth 100000 in
theorem swriteN (h : DX w0 w g sb d) (k : Blk w o (sc g fr size gen dead) 143) (at' : Nat) (l : By) (hp : powP d = 0) (ha : at' < d.n) (hl : l.length = 64) (hm : (d.R.length + 1) * 72 ≤ 140737488355328) :
    Calls Try.prog 100 #[.pointer (some ⟨o, 0, none⟩), ci at', .agg (V cb l)] w fun e w' => e = .returned (.tuple #[]) ∧ DX w0 w' g sb (writeD d at' l) ∧ Kp g sb w w' ∧ Nc w w' := by
  have H := Lib.hid (fun w1 dv (e : Ext w w1) hd => (h.ext e).writeN at' dv l hp ha hl hd hm)
  have K := Lib.hid k
  have HL := Lib.hid hl
  clear h k hp ha hm hl
  go_enter Try.func100, Try.ntmps100
  go_wp2_with (fail)
  have E1 : Ext w (w.alloc (.cells (V cb l) 146)) := Ext.of_alloc _
  have B1 := Blk.new w (V cb l) 146
  have hsz : (w.alloc (.cells (V cb l) 146)).heap.size = w.heap.size + 1 := by show (w.heap.push _).size = _; exact Array.size_push _
  obtain ⟨w1, hw1⟩ : ∃ w1, w.alloc (.cells (V cb l) 146) = w1 := ⟨_, rfl⟩
  rw [hw1] at E1 B1 hsz ⊢
  have EE1 := Lib.hid E1
  have BB1 := Lib.hid B1
  have c0 := (Sc.cells (K.out.ext E1)).1
  clear hw1 E1 B1
  refine wp_region_still_tail 6 follows_mixed (by kernel_rfl) ?_
  simp only [List.take_succ_cons, List.take_zero, List.drop_succ_cons, List.drop_zero]
  repeat still_step
  refine wpStill_nil ?_
  change wpList _ _ _ _ _ (World.drew w1)
  have BR : Rd w1.drew cb (.slice (some ⟨w.heap.size, 0, none⟩) 64 64) l := Blk.rdv (t := 146) BB1.out HL.out.symm
  have HR := Lib.hid BR
  clear BR
  go_wp2_with (first
    | (go_at_call 27; refine (H.out _ _ (EE1.out.drew) HR.out).mono ?_
       rintro e w2 ⟨rfl, h2, h3, h4⟩)
    | fail)
  go_end0
  exact ⟨rfl, h2, (Kp.ext EE1.out.drew).trans h3, (Nc.ext EE1.out.drew).trans h4⟩
theorem ssyncN (h : DX w0 w g sb d) (k : Blk w o (sc g fr size gen dead) 143) (hp : powP d = 0) :
    Calls Try.prog 101 #[.pointer (some ⟨o, 0, none⟩)] w fun e w' => e = .returned (.tuple #[]) ∧ DX w0 w' g sb (syncD d) ∧ Kp g sb w w' ∧ Nc w w' := by
  have H := Lib.hid (h.syncN hp)
  have c0 := (Sc.cells k).1
  clear h k hp
  go_enter Try.func101, Try.ntmps101
  go_wp2_with (first
    | (go_at_call 29; refine H.out.mono ?_
       rintro e w2 ⟨rfl, h2, h3, h4⟩)
    | fail)
  go_end0
  exact ⟨rfl, h2, h3, h4⟩
end
end Go.Proofs.Ytjcbmlpfpcpakaa
