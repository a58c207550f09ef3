/- Layer 8 (disk): DiskOwn's walk. -/
import Derived.Test.YtjcbmlpfpcpakaaD8s
import Derived.Test.YtjcbmlpfpcpakaaD8w
import Derived.Test.YtjcbmlpfpcpakaaD8y
import Derived.Test.YtjcbmlpfpcpakaaRof
namespace Go.Proofs.Ytjcbmlpfpcpakaa
open Go.RowKit
set_option linter.unusedVariables false
theorem lent_at (sv : Value) (p : List (BitVec 8)) (N : Nat) (hN : p.length = N) (w : World) (hp : Rd w cb sv p) (hm : p.length ≤ 140737488351232) :
    Calls Try.prog 28 #[sv] w fun e w' => e = .returned (.slice (some ⟨w.heap.size, 0, none⟩) N (N + 3)) ∧ LentAt w' w.heap.size p ∧ Ext w w' ∧ w.heap.size < w'.heap.size := by
  subst hN
  exact lent_calls sv p w hp hm
theorem LentAt.ext {w w' : World} {g : Nat} {p : List (BitVec 8)} (h : LentAt w g p) (e : Ext w w') : LentAt w' g p := Blk.ext h e
theorem grown_only {w w' : World} {g : Nat} (h : w.grownBy w' (some g)) : Only w w' (· = g) := ⟨h.os, h.tape, h.output, h.size, fun k hk hp => h.block k hk (fun e => hp (Option.some.inj e))⟩
/-- the place of a number among n -/
def plc (x : Int) (n : Nat) : Nat := if x.tmod n < 0 then (x.tmod n + n).toNat else (x.tmod n).toNat
theorem plc_lt (x : Int) {n : Nat} (h : 1 ≤ n) : plc x n < n := by
  have h1 := Int.tmod_lt_of_pos x (show (0 : Int) < n by omega)
  have h2 : -(n : Int) < x.tmod n := by
    have := Int.lt_tmod_of_pos x (show (0 : Int) < n by omega)
    omega
  unfold plc
  split <;> omega
/-- a write of whatever bytes -/
def wrD (d : Dk) (k : Nat) (l : List (BitVec 8)) : Dk := if l.length = 64 then writeD d k l else d
theorem wr_any {w0 w : World} {g sb : Nat} {d : Dk} (h : DX w0 w g sb d) (k : Nat) (a : Option Addr) (c : Nat) (l : List (BitVec 8)) (N : Nat) (hN : l.length = N) (hp : powP d = 0) (hk : k < d.n) (hl : l.length ≤ maxLen) (hd : Rd w cb (.slice a N c) l) (hm : (d.R.length + 1) * 72 ≤ 140737488355328) :
    Calls Try.prog 27 #[.pointer (some ⟨g, 0, none⟩), ci k, .slice a N c] w fun e w' => ∃ r, e = .returned (ci r) ∧ DX w0 w' g sb (wrD d k l) ∧ Kp g sb w w' := by
  subst hN
  by_cases h64 : l.length = 64
  · refine (h.write k _ l hp hk h64 hd hm).mono fun e w' ⟨h1, h2, h3⟩ => ⟨0, h1, ?_, h3⟩
    unfold wrD
    rw [if_pos h64]
    exact h2
  · refine (h.write_size k a l.length c hp hk h64 hl).mono ?_
    rintro e w' ⟨h1, rfl⟩
    refine ⟨82, h1, ?_, Kp.refl _ _ _⟩
    unfold wrD
    rw [if_neg h64]
    exact h
theorem own_plain {n k : Nat} {img dat : List (BitVec 8)} (hin : img.length = 64 * n) (h1 : 1 ≤ n) (h2 : n ≤ 65536) (hk : k < n) : (syncD (wrD (loadedD n img) k dat)).n = n ∧ powP (syncD (wrD (loadedD n img) k dat)) = 0 ∧ (syncD (wrD (loadedD n img) k dat)).R = [] ∧
    (syncD (wrD (loadedD n img) k dat)).S.length = 64 * n ∧ sec (syncD (wrD (loadedD n img) k dat)).S k = if dat.length = 64 then dat else sec img k := by
  unfold wrD
  by_cases h : dat.length = 64
  · rw [if_pos h, if_pos h]
    have e : (syncD (writeD (loadedD n img) k dat)).S = putS img k dat := rfl
    rw [e, sec_putS hin hk hk h, if_pos rfl]
    exact ⟨rfl, by simp [powP, syncD, writeD, loadedD], rfl, putS_len hin hk h, rfl⟩
  · rw [if_neg h, if_neg h]
    have e : (syncD (loadedD n img)).S = img := rfl
    rw [e]
    exact ⟨rfl, by simp [powP, syncD, loadedD], rfl, hin, rfl⟩
theorem Ro.kp {w w' : World} {g sb : Nat} {v : Value} {l : List (BitVec 8)} (h : Ro w 5 132 cb v l) (k : Kp g sb w w') (hg : ∃ c, Blk w g c 130) (hs : v.ownBlock ≠ some sb) : Ro w' 5 132 cb v l := by
  obtain ⟨b, c, T', rfl, h2, h3⟩ := h
  obtain ⟨cur, h4, h5, h6⟩ := h2.blk
  obtain ⟨cg, hg⟩ := hg
  refine ⟨b, c, T', rfl, ⟨h2.le, h2.mx, cur, k.2 b cur T' h4 (fun e => ?_) (fun e => hs (by rw [← e]; rfl)) ?_, h5, h6⟩, h3⟩
  · subst e
    have := Blk.type h4 hg
    rcases h3 with h3 | h3
    · exact absurd (h3.symm.trans this) (by decide)
    · exact absurd (h3.1.symm.trans this) (by decide)
  · rcases h3 with h3 | h3
    · rw [h3]; decide
    · rw [h3.1]; decide
theorem Rd.sub {w : World} {b o c n j : Nat} {S : List (BitVec 8)} (h : Rd w cb (.slice (some ⟨b, o, none⟩) (64 * n) c) S) (hS : S.length = 64 * n) (hj : j < n) (c' : Nat) : Rd w cb (.slice (some ⟨b, o + 64 * j, none⟩) 64 c') (sec S j) := by
  rcases h with ⟨_, _, _, h0, _⟩ | ⟨b', o', c2, m, e, hm, h0, hc⟩
  · subst h0
    simp at hS
    omega
  · injection e with e1 e2 e3
    injection e1 with e1
    injection e1 with e1 e4 _
    subst e1 e4
    refine Or.inr ⟨b, o + 64 * j, c', 64, rfl, (sec_len hS hj).symm, by decide, fun i hi => ?_⟩
    have hi' : i < 64 := by rw [sec_len hS hj] at hi; exact hi
    have h1 := hc (64 * j + i) (by omega)
    rw [← Nat.add_assoc] at h1
    rw [h1]
    have h2 := sec_get hS hj hi'
    rw [List.getElem?_eq_getElem hi, List.getElem?_eq_getElem (by omega)] at h2
    rw [Option.some.inj h2]
/-- what is written, and what is gone on with -/
def W1 (i k : Nat) : BitVec 8 := BitVec.ofInt 8 (50 * (i : Int) + k)
def W2 (i k : Nat) : BitVec 8 := BitVec.ofInt 8 (100 + (i : Int) + 5 * k)
theorem W1_run (i k : Nat) (w : World) : (convert 3 5 (.int .i64 (50 * (i : Int) + k))).run Try.prog w = .ok (cb (W1 i k)) w := by
  have h5 : Try.prog.intKind 5 = .u8 := by kernel_rfl
  rw [run_convert_int (P := Try.prog) w 3 5 .i64 _ (by kernel_rfl) (by kernel_rfl), h5, u8_wrap]
  rfl
theorem W2_run (i k : Nat) (w : World) : (convert 3 5 (.int .i64 (100 + (i : Int) + 5 * k))).run Try.prog w = .ok (cb (W2 i k)) w := by
  have h5 : Try.prog.intKind 5 = .u8 := by kernel_rfl
  rw [run_convert_int (P := Try.prog) w 3 5 .i64 _ (by kernel_rfl) (by kernel_rfl), h5, u8_wrap]
  rfl
attribute [irreducible] W1 W2
def five {β : Type} (a b c d e : β) : Nat → β := fun j => if j = 0 then a else if j = 1 then b else if j = 2 then c else if j = 3 then d else e
theorem five_all {β : Type} {p : Nat → β → Prop} {a b c d e : β} (h0 : p 0 a) (h1 : p 1 b) (h2 : p 2 c) (h3 : p 3 d) (h4 : p 4 e) : ∀ j, j < 5 → p j (five a b c d e j) := fun j hj => by
  match j, hj with
  | 0, _ => exact h0
  | 1, _ => exact h1
  | 2, _ => exact h2
  | 3, _ => exact h3
  | 4, _ => exact h4
theorem five_lt {b0 b1 b2 b3 b4 : Nat} (h : b0 < b1 ∧ b1 < b2 ∧ b2 < b3 ∧ b3 < b4) : ∀ i j, i < 5 → j < 5 → i < j → five b0 b1 b2 b3 b4 i < five b0 b1 b2 b3 b4 j := fun i j hi hj hij => by
  obtain ⟨h1, h2, h3, h4⟩ := h
  have hi' : i = 0 ∨ i = 1 ∨ i = 2 ∨ i = 3 := by omega
  have hj' : j = 1 ∨ j = 2 ∨ j = 3 ∨ j = 4 := by omega
  rcases hi' with rfl | rfl | rfl | rfl <;> rcases hj' with rfl | rfl | rfl | rfl <;> first | (exfalso; omega) | (simp [five]; omega)
theorem five_made {WB : World} {va vb vc vh vi : Value} {la lb lc lh li : List (BitVec 8)} {x0 x1 x2 x3 x4 ab n0 n1 n2 n3 n4 : Nat} (ra : Ro WB 5 132 cb va la) (rb : Ro WB 5 132 cb vb lb) (rc : Ro WB 5 132 cb vc lc) (rh : Ro WB 5 132 cb vh lh) (ri : Ro WB 5 132 cb vi li)
    (oa : va.ownBlock = some x0) (ob : vb.ownBlock = some x1) (oc : vc.ownBlock = some x2) (oh : vh.ownBlock = some x3) (oi : vi.ownBlock = some x4) (inc : x0 < x1 ∧ x1 < x2 ∧ x2 < x3 ∧ x3 < x4) (al : Blk WB ab #[va, vb, vc, vh, vi] 36)
    (ln : la.length = n0 ∧ lb.length = n1 ∧ lc.length = n2 ∧ lh.length = n3 ∧ li.length = n4) (hm : n0 ≤ 4194304 ∧ n1 ≤ 4194304 ∧ n2 ≤ 4194304 ∧ n3 ≤ 4194304 ∧ n4 ≤ 4194304) :
    ∃ (vs : Nat → Value) (NN : Nat → Nat) (ls : Nat → List (BitVec 8)), RW WB WB 132 5 NN vs vs ls ls ∧ (∀ j, j < 5 → ∀ x, (vs j).ownBlock = some x → x0 ≤ x ∧ x ≤ x4) ∧
      (∀ w' hs ls' ms, RW WB w' 132 5 NN vs hs ls' ms → ∀ i, i < 5 → w'.cell? ⟨ab, i, none⟩ = some (vs i)) ∧ ∀ j, j < 5 → NN j ≤ 4194304 := by
  have hown : ∀ j, j < 5 → (five va vb vc vh vi j).ownBlock = some (five x0 x1 x2 x3 x4 j) := fun j hj => by
    match j, hj with
    | 0, _ => exact oa
    | 1, _ => exact ob
    | 2, _ => exact oc
    | 3, _ => exact oh
    | 4, _ => exact oi
  have hro : ∀ j, j < 5 → Ro WB 5 132 cb (five va vb vc vh vi j) (five la lb lc lh li j) := fun j hj => by
    match j, hj with
    | 0, _ => exact ra
    | 1, _ => exact rb
    | 2, _ => exact rc
    | 3, _ => exact rh
    | 4, _ => exact ri
  refine ⟨five va vb vc vh vi, five n0 n1 n2 n3 n4, five la lb lc lh li, RW.start hro (fun i j hi hj hij => ?_) (fun j hj => ?_), fun j hj x hx => ?_, fun w' hs ls' ms hr i hi => ?_, fun j hj => ?_⟩
  · rw [hown i hi, hown j hj]
    intro e
    have e := Option.some.inj e
    rcases Nat.lt_or_gt_of_ne hij with h | h
    · have := five_lt inc i j hi hj h; omega
    · have := five_lt inc j i hj hi h; omega
  · match j, hj with
    | 0, _ => exact ln.1
    | 1, _ => exact ln.2.1
    | 2, _ => exact ln.2.2.1
    | 3, _ => exact ln.2.2.2.1
    | 4, _ => exact ln.2.2.2.2
  · rw [hown j hj] at hx
    cases hx
    constructor
    · rcases Nat.eq_zero_or_pos j with rfl | h
      · exact Nat.le_refl _
      · exact Nat.le_of_lt (five_lt inc 0 j (by decide) hj h)
    · by_cases h : j = 4
      · subst h; exact Nat.le_refl _
      · exact Nat.le_of_lt (five_lt inc j 4 hj (by decide) (by omega))
  · have hb := hr.blk al (fun j hj => (hro j hj).type al (by decide) (by decide))
    rw [hb.cell]
    match i, hi with
    | 0, _ => rfl
    | 1, _ => rfl
    | 2, _ => rfl
    | 3, _ => rfl
    | 4, _ => rfl
  · match j, hj with
    | 0, _ => exact hm.1
    | 1, _ => exact hm.2.1
    | 2, _ => exact hm.2.2.1
    | 3, _ => exact hm.2.2.2.1
    | 4, _ => exact hm.2.2.2.2
theorem DX.rows {w0 WB w' : World} {g sb n : Nat} {d : Dk} {N : Nat → Nat} {vs hs : Nat → Value} {ls ms l0 : Nat → List (BitVec 8)} (h : DX w0 WB g sb d) (hr : RW WB w' 132 n N vs hs ls ms) (hro : ∀ j, j < n → Ro WB 5 132 cb (vs j) (l0 j))
    (hb : ∀ j, j < n → ∀ x, (vs j).ownBlock = some x → w0.heap.size ≤ x ∧ x ≠ g ∧ x ≠ sb) : DX w0 w' g sb d := by
  obtain ⟨rv, k0⟩ := h.d
  refine ⟨h.e.of_only hr.only (fun x ⟨j, hj, e⟩ => (hb j hj x e).1), h.g0, h.s0, rv, k0.only hr.only ?_⟩
  rintro k hk ⟨j, hj, e⟩
  rcases hk with rfl | rfl | hk
  · exact (hb j hj k e).2.1 rfl
  · exact (hb j hj k e).2.2 rfl
  · obtain ⟨b, c, T', e2, h2, h3⟩ := hro j hj
    rw [e2] at e
    have e : b = k := Option.some.inj e
    subst e
    obtain ⟨cur, h4, _⟩ := h2.blk
    refine row_type k0.r h4 ?_ hk.symm
    rcases h3 with h3 | h3
    · rw [h3]; decide
    · rw [h3.1]; decide
set_option maxRecDepth 100000 in
set_option maxHeartbeats 4000000 in
theorem own_bad {w : World} (iv dv : Value) (img : List (BitVec 8)) (sector : Int) (hi : Rd w cb iv img) (him : img.length ≤ 140737488351232) (hbad : img.length / 64 < 1 ∨ 65536 < img.length / 64 ∨ img.length ≠ img.length / 64 * 64) :
    Calls Try.prog 5 #[iv, ci sector, dv] w fun e w' => e = .returned (.bool true) ∧ Ext w w' := by
  have HB := Lib.hid hbad
  have HI := Lib.hid hi
  have HM := Lib.hid him
  clear hbad hi him
  go_enter Try.func5, Try.ntmps5
  go_wp2_with (first
    | (go_at_call 23; refine (known_calls w).mono ?_
       rintro e w1 ⟨rfl, x⟩
       have X1 := Lib.hid x
       clear x)
    | (go_at_call 28; refine (lent_at iv img _ rfl w1 (X1.out.rd HI.out) HM.out).mono ?_
       rintro e w2 ⟨rfl, _, x, _⟩
       have X2 := Lib.hid (X1.out.trans x)
       clear x)
    | (go_at_call 36; refine (load_refused _ _ _ _ (by have := HM.out; unfold maxLen; omega) HB.out).mono ?_; rintro e w98 ⟨rfl, rfl⟩)
    | (go_at_call 25; refine (num_calls _ _).mono ?_; rintro e w99 ⟨rfl, rfl⟩)
    | fail)
  go_ret
  exact ⟨rfl, X2.out⟩
end Go.Proofs.Ytjcbmlpfpcpakaa
