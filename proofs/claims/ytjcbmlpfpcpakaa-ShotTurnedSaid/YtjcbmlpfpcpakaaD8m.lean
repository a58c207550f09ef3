/- Layer 8 (disk): the calls of a disk, as the statements see them: where all the disk has lies behind a first world. -/
import Derived.Test.YtjcbmlpfpcpakaaD8k
namespace Go.Proofs.Ytjcbmlpfpcpakaa
open Go.RowKit
set_option linter.unusedVariables false
/-- a disk that came behind the world w0 -/
structure DX (w0 w : World) (g sb : Nat) (d : Dk) : Prop where
  e : Ext w0 w
  g0 : w0.heap.size ≤ g
  s0 : w0.heap.size ≤ sb
  d : ∃ rv, DB w w0.heap.size g sb rv d
/-- what is not the disk's stays as it was -/
def Kp (g sb : Nat) (w w' : World) : Prop := w.heap.size ≤ w'.heap.size ∧ ∀ k c t, Blk w k c t → k ≠ g → k ≠ sb → t ≠ 134 → Blk w' k c t
theorem Kp.refl (g sb : Nat) (w : World) : Kp g sb w w := ⟨Nat.le_refl _, fun _ _ _ h _ _ _ => h⟩
theorem Kp.trans {g sb : Nat} {a b c : World} (h : Kp g sb a b) (k : Kp g sb b c) : Kp g sb a c := ⟨Nat.le_trans h.1 k.1, fun i x t hb h1 h2 h3 => k.2 i x t (h.2 i x t hb h1 h2 h3) h1 h2 h3⟩
theorem Kp.ext {g sb : Nat} {a b : World} (h : Ext a b) : Kp g sb a b := ⟨h.size, fun _ _ _ k _ _ _ => k.ext h⟩
theorem row_mine {w : World} {B g sb : Nat} {rv : Value} {d : Dk} (h : DB w B g sb rv d) {w0 : World} (hB : B = w0.heap.size) (g0 : w0.heap.size ≤ g) (s0 : w0.heap.size ≤ sb) : ∀ k, mine g sb rv k → w0.heap.size ≤ k := fun k hk => by
  rcases hk with rfl | rfl | hk
  · exact g0
  · exact s0
  · have := (World.ownsRow.lt h.r k hk).1
    omega
theorem Kp.only {w w' : World} {B g sb : Nat} {rv : Value} {d : Dk} (h : DB w B g sb rv d) (e : Only w w' (mine g sb rv)) : Kp g sb w w' := ⟨e.size, fun k c t hb h1 h2 h3 => e.blk hb (fun hm => by
  rcases hm with hm | hm | hm
  · exact h1 hm
  · exact h2 hm
  · exact row_type h.r hb (fun e => h3 e.symm) hm.symm)⟩
theorem DX.ext {w0 w w' : World} {g sb : Nat} {d : Dk} (h : DX w0 w g sb d) (e : Ext w w') : DX w0 w' g sb d := ⟨h.e.trans e, h.g0, h.s0, by obtain ⟨rv, k⟩ := h.d; exact ⟨rv, k.ext e⟩⟩
theorem DX.drewN {w0 w : World} {g sb : Nat} {d : Dk} (h : DX w0 w g sb d) (n : Nat) : DX w0 (w.drewN n) g sb d := h.ext ((Ext.refl w).drewN n)
theorem DX.ok {w0 w : World} {g sb : Nat} {d : Dk} (h : DX w0 w g sb d) : d.ok := by obtain ⟨rv, k⟩ := h.d; exact k.ok
theorem DX.other {w0 w w' : World} {g sb b : Nat} {d : Dk} (h : DX w0 w g sb d) {c : Array Value} {t : TypeId} (hb : Blk w b c t) (h1 : b ≠ g) (h2 : b ≠ sb) (h3 : t ≠ 134) (h0 : w0.heap.size ≤ b) (e : Only w w' (· = b)) : DX w0 w' g sb d := by
  obtain ⟨rv, k⟩ := h.d
  refine ⟨h.e.of_only e (fun i hi => by rw [hi]; exact h0), h.g0, h.s0, rv, k.only e ?_⟩
  rintro i (rfl | rfl | hi) hb'
  · exact h1 hb'.symm
  · exact h2 hb'.symm
  · rw [hb'] at hi
    exact row_type k.r hb (fun e => h3 e.symm) hi.symm
section
variable {w0 w : World} {g sb : Nat} {d : Dk}
theorem DX.make {w : World} {n : Nat} (h1 : 1 ≤ n) (h2 : n ≤ 65536) (w0 : World) (e : Ext w0 w) : Calls Try.prog 24 #[ci n] w fun e w' => e = .returned (.tuple #[.pointer (some ⟨w.heap.size + 1, 0, none⟩), ci 0]) ∧ DX w0 w' (w.heap.size + 1) w.heap.size (newD n) ∧ Ext w w' :=
  (new_ok n w h1 h2).mono fun _ w' ⟨a, b, c⟩ => ⟨a, ⟨e.trans b, by have := e.size; omega, e.size, _, by
    obtain ⟨q1, q2, ⟨q3, _⟩, q5⟩ := c
    exact ⟨q1, q2, ⟨q3, Or.inl ⟨rfl, rfl⟩⟩, q5⟩⟩, b⟩
theorem DX.write (h : DX w0 w g sb d) (at' : Nat) (dv : Value) (l : List (BitVec 8)) (hp : powP d = 0) (ha : at' < d.n) (hl : l.length = 64) (hd : Rd w cb dv l) (hm : (d.R.length + 1) * 72 ≤ 140737488355328) :
    Calls Try.prog 27 #[.pointer (some ⟨g, 0, none⟩), ci at', dv] w fun e w' => e = .returned (ci 0) ∧ DX w0 w' g sb (writeD d at' l) ∧ Kp g sb w w' := by
  obtain ⟨rv, k⟩ := h.d
  refine (write_ok k at' dv l hp ha hl hd h.e.size hm).mono ?_
  rintro e w' ⟨rfl, rv', k', hO, _⟩
  exact ⟨rfl, ⟨h.e.of_only hO (row_mine k rfl h.g0 h.s0), h.g0, h.s0, rv', k'⟩, Kp.only k hO⟩
theorem DX.write_sector (h : DX w0 w g sb d) (n : Int) (dv : Value) (hp : powP d = 0) (hn : n < 0 ∨ (d.n : Int) ≤ n) : Calls Try.prog 27 #[.pointer (some ⟨g, 0, none⟩), ci n, dv] w fun e w' => e = .returned (ci 81) ∧ w = w' := by
  obtain ⟨rv, k⟩ := h.d
  exact Go.Proofs.Ytjcbmlpfpcpakaa.write_sector k n dv hp hn
theorem DX.write_power (h : DX w0 w g sb d) (n : Int) (dv : Value) (hp : powP d = 80) : Calls Try.prog 27 #[.pointer (some ⟨g, 0, none⟩), ci n, dv] w fun e w' => e = .returned (ci 80) ∧ w = w' := by
  obtain ⟨rv, k⟩ := h.d
  exact Go.Proofs.Ytjcbmlpfpcpakaa.write_power k n dv hp
theorem DX.write_size (h : DX w0 w g sb d) (n : Nat) (a : Option Addr) (m c : Nat) (hp : powP d = 0) (hn : n < d.n) (hl : m ≠ 64) (hm : m ≤ maxLen) : Calls Try.prog 27 #[.pointer (some ⟨g, 0, none⟩), ci n, .slice a m c] w fun e w' => e = .returned (ci 82) ∧ w = w' := by
  obtain ⟨rv, k⟩ := h.d
  exact Go.Proofs.Ytjcbmlpfpcpakaa.write_size k n a m c hp hn hl hm
theorem DX.read (h : DX w0 w g sb d) (at' : Nat) (hp : powP d = 0) (ha : at' < d.n) :
    Calls Try.prog 33 #[.pointer (some ⟨g, 0, none⟩), ci at'] w fun e w' => e = .returned (.tuple #[.slice (some ⟨w.heap.size, 0, none⟩) 64 64, ci 0]) ∧ DX w0 w' g sb d ∧ Ext w w' ∧ Blk w' w.heap.size (V cb (d.read at')) 132 := by
  obtain ⟨rv, k⟩ := h.d
  exact (read_ok k at' hp ha).mono fun e w' ⟨a, b, c⟩ => ⟨a, h.ext b, b, c⟩
theorem DX.read_sector (h : DX w0 w g sb d) (n : Int) (hp : powP d = 0) (hn : n < 0 ∨ (d.n : Int) ≤ n) : Calls Try.prog 33 #[.pointer (some ⟨g, 0, none⟩), ci n] w fun e w' => e = .returned (.tuple #[.slice none 0 0, ci 81]) ∧ w = w' := by
  obtain ⟨rv, k⟩ := h.d
  exact Go.Proofs.Ytjcbmlpfpcpakaa.read_sector k n hp hn
theorem DX.read_power (h : DX w0 w g sb d) (n : Int) (hp : powP d = 80) : Calls Try.prog 33 #[.pointer (some ⟨g, 0, none⟩), ci n] w fun e w' => e = .returned (.tuple #[.slice none 0 0, ci 80]) ∧ w = w' := by
  obtain ⟨rv, k⟩ := h.d
  exact Go.Proofs.Ytjcbmlpfpcpakaa.read_power k n hp
theorem DX.sync (h : DX w0 w g sb d) (hp : powP d = 0) : Calls Try.prog 29 #[.pointer (some ⟨g, 0, none⟩)] w fun e w' => e = .returned (ci 0) ∧ DX w0 w' g sb (syncD d) ∧ Kp g sb w w' := by
  obtain ⟨rv, k⟩ := h.d
  exact (sync_ok k hp h.e.size).mono fun e w' ⟨a, b, c⟩ => ⟨a, ⟨h.e.of_only c (row_mine k rfl h.g0 h.s0), h.g0, h.s0, _, b⟩, Kp.only k c⟩
theorem DX.sync_power (h : DX w0 w g sb d) (hp : powP d = 80) : Calls Try.prog 29 #[.pointer (some ⟨g, 0, none⟩)] w fun e w' => e = .returned (ci 80) ∧ w = w' := by
  obtain ⟨rv, k⟩ := h.d
  exact Go.Proofs.Ytjcbmlpfpcpakaa.sync_power k hp
theorem DX.crash (h : DX w0 w g sb d) (kv : Value) (keep : List Bool) (torn cut : Int) (hk : Rd w Value.bool kv keep) (hkl : keep.length ≤ 9223372036854775807) (hks : keep = [] ∨ kv.ownBlock ≠ some sb) :
    Calls Try.prog 32 #[.pointer (some ⟨g, 0, none⟩), kv, ci torn, ci cut] w fun e w' => e = .returned (.tuple #[]) ∧ DX w0 w' g sb (crashD d keep torn cut) ∧ Kp g sb w w' := by
  obtain ⟨rv, k⟩ := h.d
  exact (crash_ok k kv keep torn cut hk hkl hks).mono fun e w' ⟨a, b, c⟩ => ⟨a, ⟨h.e.of_only c (row_mine k rfl h.g0 h.s0), h.g0, h.s0, _, b⟩, Kp.only k c⟩
theorem DX.image (h : DX w0 w g sb d) : Calls Try.prog 31 #[.pointer (some ⟨g, 0, none⟩)] w fun e w' => ∃ v, e = .returned v ∧ DX w0 w' g sb d ∧ Ext w w' ∧ Own w' w.heap.size 5 cb v d.S := by
  obtain ⟨rv, k⟩ := h.d
  exact (image_ok k).mono fun e w' ⟨v, a, b, c⟩ => ⟨v, a, h.ext b, b, c⟩
theorem DX.pending (h : DX w0 w g sb d) : Calls Try.prog 30 #[.pointer (some ⟨g, 0, none⟩)] w fun e w' => e = .returned (ci d.R.length) ∧ w = w' := by
  obtain ⟨rv, k⟩ := h.d
  exact pending_calls k
theorem DX.sectors (h : DX w0 w g sb d) : Calls Try.prog 38 #[.pointer (some ⟨g, 0, none⟩)] w fun e w' => e = .returned (ci d.n) ∧ w = w' := by
  obtain ⟨rv, k⟩ := h.d
  exact sectors_calls k
theorem DX.counts (h : DX w0 w g sb d) : Calls Try.prog 44 #[.pointer (some ⟨g, 0, none⟩)] w fun e w' => e = .returned (.tuple #[ci d.c0, ci d.c1]) ∧ ∃ n, w.drewN n = w' := by
  obtain ⟨rv, k⟩ := h.d
  exact counts_calls k
theorem DX.fuse (h : DX w0 w g sb d) (n : Int) : Calls Try.prog 26 #[.pointer (some ⟨g, 0, none⟩), ci n] w fun e w' => e = .returned (.tuple #[]) ∧ DX w0 w' g sb (fuseD d n) ∧ Kp g sb w w' := by
  obtain ⟨rv, k⟩ := h.d
  refine (fuse_calls k n).mono fun e w' ⟨a, b, c⟩ => ?_
  have c' : Only w w' (mine g sb rv) := c.mono fun i hi => Or.inl hi
  exact ⟨a, ⟨h.e.of_only c' (row_mine k rfl h.g0 h.s0), h.g0, h.s0, _, b⟩, Kp.only k c'⟩
end
end Go.Proofs.Ytjcbmlpfpcpakaa
