/- Layer 12 (shot): Open, the walk. -/
import Derived.Test.YtjcbmlpfpcpakaaH8
namespace Go.Proofs.Ytjcbmlpfpcpakaa
open Go.RowKit
set_option linter.unusedVariables false
def ckP (d : Dk) (fr size : Nat) : Nat → Nat × By
  | 0 => (0, [])
  | k + 1 => pick (ckP d fr size k) (standD d fr size k)
theorem openP_eq (d : Dk) (fr size : Nat) : openP d fr size = ckP d fr size 2 := by rw [openP_def]; rfl
theorem ckP_succ (d : Dk) (fr size k : Nat) : ckP d fr size (k + 1) = pick (ckP d fr size k) (standD d fr size k) := rfl
theorem ckP_zero (d : Dk) (fr size : Nat) : ckP d fr size 0 = (0, []) := rfl
attribute [irreducible] ckP
theorem standD_le {d : Dk} {fr size odd : Nat} {x : Nat × By} (h : standD d fr size odd = some x) : x.1 ≤ 1099511627776 := by
  rw [standD_eq] at h
  unfold standP at h
  split at h
  · cases h
  · split at h
    · cases h
    · injection h with h
      rw [← h]
      omega
/-- what Open's variables hold behind k slots -/
structure OI (w wx : World) (g fr size : Nat) (c : Nat × By) : Prop where
  sv : ∃ sv, Blk wx (w.heap.size + 1) #[sv] 36 ∧ Sp wx 5 cb sv c.2 ∧ ∀ q, sv.ownBlock = some q → w.heap.size + 4 ≤ q
  oc : Blk wx w.heap.size #[.pointer none] 68
  ec : Blk wx (w.heap.size + 1 + 1) #[ci 0] 29
  ob : Blk wx (w.heap.size + 1 + 1 + 1) (sc g fr size c.1 false) 143
  e : Ext w wx
  le : c.1 ≤ 1099511627776
section
variable {w0 w : World} {g sb : Nat} {d : Dk}
theorem OI.start (w : World) (g fr size : Nat) : OI w ((((w.alloc (.cells #[.pointer none] 68)).alloc (.cells #[.slice none 0 0] 36)).alloc (.cells #[ci 0] 29)).alloc (.cells #[.pointer (some ⟨g, 0, none⟩), ci fr, ci size, ci 0, .bool false] 143)) g fr size (0, []) := by
  have s1 : (w.alloc (.cells #[.pointer none] 68)).heap.size = w.heap.size + 1 := by show (w.heap.push _).size = _; exact Array.size_push _
  have s2 : ((w.alloc (.cells #[.pointer none] 68)).alloc (.cells #[.slice none 0 0] 36)).heap.size = w.heap.size + 1 + 1 := by show (Array.push _ _).size = _; rw [Array.size_push]; exact congrArg (· + 1) s1
  have s3 : (((w.alloc (.cells #[.pointer none] 68)).alloc (.cells #[.slice none 0 0] 36)).alloc (.cells #[ci 0] 29)).heap.size = w.heap.size + 1 + 1 + 1 := by show (Array.push _ _).size = _; rw [Array.size_push]; exact congrArg (· + 1) s2
  have b0 := Blk.new w #[.pointer none] 68
  have b1 := Blk.new (w.alloc (.cells #[.pointer none] 68)) #[.slice none 0 0] 36
  have b2 := Blk.new ((w.alloc (.cells #[.pointer none] 68)).alloc (.cells #[.slice none 0 0] 36)) #[ci 0] 29
  have b3 := Blk.new (((w.alloc (.cells #[.pointer none] 68)).alloc (.cells #[.slice none 0 0] 36)).alloc (.cells #[ci 0] 29)) #[.pointer (some ⟨g, 0, none⟩), ci fr, ci size, ci 0, .bool false] 143
  rw [s1] at b1
  rw [s2] at b2
  rw [s3] at b3
  exact ⟨⟨_, (b1.alloc _).alloc _, Or.inl ⟨rfl, rfl⟩, fun q hq => by cases hq⟩, ((b0.alloc _).alloc _).alloc _, b2.alloc _, b3, (Ext.of_alloc3 _ _ _).alloc _, by omega⟩
theorem ext3 (w : World) (a b c : Obj) : Ext w (((w.alloc a).alloc b).alloc c) := Ext.of_alloc3 a b c
theorem open_nil (a b : Int) (w : World) : Calls Try.prog 48 #[.pointer none, ci a, ci b] w fun e w' => e = .returned (.tuple #[.pointer none, .slice none 0 0, ci 1]) ∧ Ext w w' := by
  have E := ext3 w
  go_enter_defers Try.func48, Try.ntmps48
  go_wp2_with fail
  simp [bodyPostD, Leaves, results, Try.results48, go_sem, E]
set_option maxRecDepth 100000 in
theorem open_arg (h : DX w0 w g sb d) (a b : Int) (ha : -9223372036854775808 ≤ a ∧ a ≤ 9223372036854775807) (hb : -9223372036854775808 ≤ b ∧ b ≤ 9223372036854775807) (hc : a < 0 ∨ b < 2 ∨ (d.n : Int) < b ∨ (d.n : Int) - 2 * b < a) :
    Calls Try.prog 48 #[.pointer (some ⟨g, 0, none⟩), ci a, ci b] w fun e w' => e = .returned (.tuple #[.pointer none, .slice none 0 0, ci 2]) ∧ Ext w w' := by
  have E := ext3 w
  have hn2 : (d.n : Int) ≤ 65536 := by have := h.ok.n2; omega
  have HS := Lib.hid (fun w1 (e : Ext w w1) => (h.ext e).sectors)
  clear h
  go_enter_defers Try.func48, Try.ntmps48
  by_cases h1 : a < 0
  · go_wp2_with fail
    simp [bodyPostD, Leaves, results, Try.results48, go_sem, E]
  by_cases h2 : b < 2
  · have d1 : decide (a < 0) = false := decide_eq_false h1
    go_wp2_with fail
    simp [bodyPostD, Leaves, results, Try.results48, go_sem, E]
  by_cases h3 : (d.n : Int) < b
  · have d1 : decide (a < 0) = false := decide_eq_false h1
    have d2 : decide (b < 2) = false := decide_eq_false h2
    have HE := Lib.hid E
    clear E
    go_wp2_with (first | (go_at_call 38; refine (HS.out _ (HE.out _ _ _)).mono ?_; rintro e w1 ⟨rfl, rfl⟩) | fail)
    simp [bodyPostD, Leaves, results, Try.results48, go_sem, HE.out]
  · have h4 : (d.n : Int) - 2 * b < a := by omega
    have d1 : decide (a < 0) = false := decide_eq_false h1
    have d2 : decide (b < 2) = false := decide_eq_false h2
    have d3 : decide ((d.n : Int) < b) = false := decide_eq_false h3
    have HE := Lib.hid E
    clear E hc
    go_wp2_with (first | (go_at_call 38; refine (HS.out _ (HE.out _ _ _)).mono ?_; rintro e w1 ⟨rfl, rfl⟩) | fail)
    simp [bodyPostD, Leaves, results, Try.results48, go_sem, HE.out]
set_option maxRecDepth 100000 in
set_option maxHeartbeats 4000000 in
theorem open_off (h : DX w0 w g sb d) (fr size : Nat) (hp : powP d = 80) (h2 : 2 ≤ size) (hs : size ≤ 65536) (hr : fr + 2 * size ≤ d.n) :
    Calls Try.prog 48 #[.pointer (some ⟨g, 0, none⟩), ci fr, ci size] w fun e w' => e = .returned (.tuple #[.pointer none, .slice none 0 0, ci 80]) ∧ Ext w w' := by
  have hn2 : (d.n : Int) ≤ 65536 := by have := h.ok.n2; omega
  have HS := Lib.hid (fun w1 (e : Ext w w1) => (h.ext e).sectors)
  have HD := Lib.hid (fun w1 o (e : Ext w w1) (k : Blk w1 o (sc g fr size 0 false) 143) => stands_off (h.ext e) k 0 (by omega) hp (by omega) hs)
  have hmf : ∀ (fn : Fn) (first cap : Array Value) (w : World), (Instr.makeFunc fn first cap).run Try.prog w = .ok (.func fn first cap) w := fun _ _ _ _ => rfl
  have d1 : decide ((fr : Int) < 0) = false := decide_eq_false (by omega)
  have d2 : decide ((size : Int) < 2) = false := decide_eq_false (by omega)
  have d3 : decide (d.n < size) = false := decide_eq_false (by omega)
  have d3' : decide ((d.n : Int) < size) = false := decide_eq_false (by omega)
  have d4 : decide ((d.n : Int) - 2 * size < fr) = false := decide_eq_false (by omega)
  have e1 : ¬ ((d.n : Int) - 2 * size < fr) := by omega
  have HE := Lib.hid (ext3 w)
  clear h
  go_enter_defers Try.func48, Try.ntmps48
  go_upto_region 10 with (first | (go_at_call 38; refine (HS.out _ (HE.out _ _ _)).mono ?_; rintro e w1 ⟨rfl, rfl⟩) | fail)
  have ST := Lib.hid (OI.start w g fr size)
  obtain ⟨W, hW⟩ : ∃ W, (((w.alloc (.cells #[.pointer none] 68)).alloc (.cells #[.slice none 0 0] 36)).alloc (.cells #[ci 0] 29)).alloc (.cells #[.pointer (some ⟨g, 0, none⟩), ci fr, ci size, ci 0, .bool false] 143) = W := ⟨_, rfl⟩
  simp only [hW] at ST ⊢
  clear hW
  have c1 : W.cell? ⟨w.heap.size + 1 + 1 + 1, 3, none⟩ = some (ci 0) := ST.out.ob.cell 3
  go_loopw [45] (fun iv wx => iv = ci 0 ∧ wx = W) (fun _ _ => 0)
  case atStart => exact ⟨rfl, rfl⟩
  case round =>
    obtain ⟨rfl, rfl⟩ := hrel
    go_wp2_with (first | (go_at_call 96; refine (HD.out _ _ ST.out.e ST.out.ob).mono ?_; rintro e w2 ⟨rfl, e2⟩) | fail)
    obtain ⟨sv, hsv, hsp, _⟩ := ST.out.sv
    have bo := ST.out.oc.ext e2
    have be := ST.out.ec.ext e2
    have bn := hsv.ext e2
    have n1 : w.heap.size + 1 + 1 ≠ w.heap.size := by omega
    have n2 : w.heap.size + 1 + 1 ≠ w.heap.size + 1 := by omega
    have n3 : w.heap.size ≠ w.heap.size + 1 := by omega
    refine leaves_cons (f := 94) (args := #[.pointer (some ⟨w.heap.size + 1 + 1, 0, none⟩), .pointer (some ⟨w.heap.size, 0, none⟩), .pointer (some ⟨w.heap.size + 1, 0, none⟩)]) (by simp) (by simp [go_sem]) ?_
    refine (open_def_panic _ _ _ w2 80 (by decide) _ _ (be.cell 0) (be.free 0) (bo.cell 0) (bo.free 0) (bn.cell 0) (bn.free 0) n1 n2 n3).mono ?_
    rintro e u' w3 ⟨rfl, rfl, rfl⟩
    have xe := (((be.set 0 (ci 80)).far ⟨w.heap.size, 0, none⟩ n1 (.pointer none)).far ⟨w.heap.size + 1, 0, none⟩ n2 (.slice none 0 0)).drew.cell 0
    have xo := (((bo.far ⟨w.heap.size + 1 + 1, 0, none⟩ n1.symm (ci 80)).set 0 (.pointer none)).far ⟨w.heap.size + 1, 0, none⟩ n3 (.slice none 0 0)).drew.cell 0
    have xn := (((bn.far ⟨w.heap.size + 1 + 1, 0, none⟩ n2.symm (ci 80)).far ⟨w.heap.size, 0, none⟩ n3.symm (.pointer none)).set 0 (.slice none 0 0)).drew.cell 0
    have E3 : Ext w (((w2.setCell ⟨w.heap.size + 1 + 1, 0, none⟩ (ci 80)).setCell ⟨w.heap.size, 0, none⟩ (.pointer none)).setCell ⟨w.heap.size + 1, 0, none⟩ (.slice none 0 0)).drew := ((((ST.out.e.trans e2).set (by show _ ≤ w.heap.size + 1 + 1; omega) _).set (Nat.le_refl _) _).set (by show _ ≤ w.heap.size + 1; omega) _).drew
    generalize (((w2.setCell ⟨w.heap.size + 1 + 1, 0, none⟩ (ci 80)).setCell ⟨w.heap.size, 0, none⟩ (.pointer none)).setCell ⟨w.heap.size + 1, 0, none⟩ (.slice none 0 0)).drew = w3 at *
    have xe' : w3.cell? ⟨w.heap.size + 1 + 1, 0, none⟩ = some (ci 80) := xe
    have xo' : w3.cell? ⟨w.heap.size, 0, none⟩ = some (.pointer none) := xo
    have xn' : w3.cell? ⟨w.heap.size + 1, 0, none⟩ = some (.slice none 0 0) := xn
    simp [Leaves, settle, results, Try.results48, go_sem, xe', xo', xn', E3]
theorem OI.ext {wx wy : World} {fr size : Nat} {c : Nat × By} (h : OI w wx g fr size c) (e : Ext wx wy) : OI w wy g fr size c := by
  obtain ⟨sv, h1, h2, h3⟩ := h.sv
  refine ⟨⟨sv, h1.ext e, ?_, h3⟩, h.oc.ext e, h.ec.ext e, h.ob.ext e, h.e.trans e, h.le⟩
  rcases h2 with h2 | ⟨q, c, h4, h5⟩
  · exact Or.inl h2
  · exact Or.inr ⟨q, c, h4, h5.ext e⟩
theorem Sp.shape {α : Type} {w : World} {T : TypeId} {f : α → Value} {v : Value} {l : List α} (h : Sp w T f v l) : ∃ a c, v = .slice a l.length c := by
  rcases h with ⟨rfl, rfl⟩ | ⟨q, c, rfl, _⟩
  · exact ⟨_, _, rfl⟩
  · exact ⟨_, _, rfl⟩
theorem Sp.far {α : Type} {w : World} {T : TypeId} {f : α → Value} {v : Value} {l : List α} (h : Sp w T f v l) (a : Addr) (u : Value) (ha : v.ownBlock ≠ some a.block) : Sp (w.setCell a u) T f v l := by
  rcases h with h2 | ⟨q, c, h4, h5⟩
  · exact Or.inl h2
  · refine Or.inr ⟨q, c, h4, h5.le, h5.mx, ?_⟩
    obtain ⟨cur, k1, k2, k3⟩ := h5.blk
    exact ⟨cur, k1.far a (fun e => ha (by rw [h4, ← e]; rfl)) u, k2, k3⟩
theorem OI.put {wx : World} {fr size : Nat} {c x : Nat × By} (h : OI w wx g fr size c) (v : Value) (hv : Sp wx 5 cb v x.2) (ho : ∀ q, v.ownBlock = some q → w.heap.size + 4 ≤ q) (hx : x.1 ≤ 1099511627776) :
    OI w ((wx.setCell ⟨w.heap.size + 1 + 1 + 1, 3, none⟩ (ci x.1)).setCell ⟨w.heap.size + 1, 0, none⟩ v) g fr size x := by
  obtain ⟨sv, h1, h2, h3⟩ := h.sv
  have n1 : w.heap.size + 1 ≠ w.heap.size + 1 + 1 + 1 := by omega
  have n2 : w.heap.size ≠ w.heap.size + 1 + 1 + 1 := by omega
  have n3 : w.heap.size ≠ w.heap.size + 1 := by omega
  have n4 : w.heap.size + 1 + 1 ≠ w.heap.size + 1 + 1 + 1 := by omega
  have n5 : w.heap.size + 1 + 1 ≠ w.heap.size + 1 := by omega
  exact ⟨⟨v, (h1.far _ n1 _).set 0 v, (hv.far _ _ (fun e => by have := ho _ e; simp only at this; omega)).far _ _ (fun e => by have := ho _ e; simp only at this; omega), ho⟩,
    (h.oc.far _ n2 _).far _ n3 _, (h.ec.far _ n4 _).far _ n5 _, (h.ob.set 3 (ci x.1)).far _ n1.symm _, (h.e.set (by show _ ≤ w.heap.size + 1 + 1 + 1; omega) _).set (by show _ ≤ w.heap.size + 1; omega) _, hx⟩
set_option maxRecDepth 100000 in
set_option maxHeartbeats 4000000 in
theorem open_ok (h : DX w0 w g sb d) (fr size : Nat) (hp : powP d = 0) (h2 : 2 ≤ size) (hs : size ≤ 65536) (hr : fr + 2 * size ≤ d.n) :
    Calls Try.prog 48 #[.pointer (some ⟨g, 0, none⟩), ci fr, ci size] w fun e w' => ∃ sv, e = .returned (.tuple #[.pointer (some ⟨w.heap.size + 1 + 1 + 1, 0, none⟩), sv, ci 0]) ∧ Ext w w' ∧ Blk w' (w.heap.size + 1 + 1 + 1) (sc g fr size (openP d fr size).1 false) 143 ∧ Sp w' 5 cb sv (openP d fr size).2 ∧ (∀ q, sv.ownBlock = some q → w.heap.size + 4 ≤ q) := by
  rw [openP_eq]
  have hn2 : (d.n : Int) ≤ 65536 := by have := h.ok.n2; omega
  have HS := Lib.hid (fun w1 (e : Ext w w1) => (h.ext e).sectors)
  have HD := Lib.hid (fun k (hk : k < 2) w1 o gen (e : Ext w w1) (b : Blk w1 o (sc g fr size gen false) 143) => stands_ok (h.ext e) b k hk hp h2 hs hr)
  have hmf : ∀ (fn : Fn) (first cap : Array Value) (w : World), (Instr.makeFunc fn first cap).run Try.prog w = .ok (.func fn first cap) w := fun _ _ _ _ => rfl
  have d1 : decide ((fr : Int) < 0) = false := decide_eq_false (by omega)
  have d2 : decide ((size : Int) < 2) = false := decide_eq_false (by omega)
  have d3 : decide (d.n < size) = false := decide_eq_false (by omega)
  have d3' : decide ((d.n : Int) < size) = false := decide_eq_false (by omega)
  have d4 : decide ((d.n : Int) - 2 * size < fr) = false := decide_eq_false (by omega)
  have e1 : ¬ ((d.n : Int) - 2 * size < fr) := by omega
  have HE := Lib.hid (ext3 w)
  clear h
  go_enter_defers Try.func48, Try.ntmps48
  go_upto_region 8 with (first | (go_at_call 38; refine (HS.out _ (HE.out _ _ _)).mono ?_; rintro e w1 ⟨rfl, rfl⟩) | fail)
  have ST := Lib.hid (OI.start w g fr size)
  obtain ⟨W, hW⟩ : ∃ W, (((w.alloc (.cells #[.pointer none] 68)).alloc (.cells #[.slice none 0 0] 36)).alloc (.cells #[ci 0] 29)).alloc (.cells #[.pointer (some ⟨g, 0, none⟩), ci fr, ci size, ci 0, .bool false] 143) = W := ⟨_, rfl⟩
  simp only [hW] at ST ⊢
  clear hW HS HE
  go_loopw [45] (fun iv wx => ∃ k : Nat, k ≤ 2 ∧ iv = ci k ∧ Hid (OI w wx g fr size (ckP d fr size k))) (fun iv _ => (2 - intOf iv).toNat)
  case atStart => exact ⟨0, by omega, rfl, by rw [ckP_zero]; exact ST.out⟩
  case round =>
    clear ST
    obtain ⟨k, hk, rfl, hU⟩ := hrel
    by_cases hlt : k < 2
    · have hlt' : (k : Int) < 2 := by omega
      have HC := Lib.hid (HD.out k hlt wr _ _ hU.out.e hU.out.ob)
      obtain ⟨st, hst⟩ : ∃ st, standD d fr size k = st := ⟨_, rfl⟩
      rw [hst] at HC
      have HST := Lib.hid hst
      have hle := hU.out.le
      obtain ⟨c, hc⟩ : ∃ c, ckP d fr size k = c := ⟨_, rfl⟩
      rw [hc] at hU hle
      have HCC := Lib.hid hc
      clear hst hc
      cases st with
      | none =>
        go_wp2_with (first | (go_at_call 96; refine (HC.out).mono ?_; rintro e w2 ⟨he, e2⟩; obtain rfl : e = .returned (.tuple #[ci 0, .slice none 0 0, .bool false]) := he) | fail)
        refine ⟨⟨k + 1, hlt, by simp, ?_⟩, by simp only [intOf]; omega⟩
        rw [ckP_succ, HCC.out, HST.out, pick_none]
        exact Lib.hid (hU.out.ext e2)
      | some x =>
        have hxl := standD_le HST.out
        by_cases hgt : c.1 < x.1
        · have hgt' : (c.1 : Int) < x.1 := by omega
          go_wp2_with (first
            | (go_at_call 96; refine (HC.out).mono ?_; rintro e w2 ⟨⟨sv, he, sp, so⟩, e2⟩; subst he
               obtain ⟨va, vc, rfl⟩ := sp.shape
               have SPP := Lib.hid sp
               have SO := Lib.hid so
               have hsz := e2.size
               clear sp so
               have U2 := Lib.hid (hU.out.ext e2)
               have k1 : w2.cell? ⟨w.heap.size + 1 + 1 + 1, 3, none⟩ = some (ci c.1) := U2.out.ob.cell 3
               have k1f := U2.out.ob.free 3
               obtain ⟨sv0, hb1, _⟩ := U2.out.sv
               have k2 : w2.cell? ⟨w.heap.size + 1, 0, none⟩ = some sv0 := hb1.cell 0
               have k2f := hb1.free 0)
            | fail)
          refine ⟨⟨k + 1, hlt, by simp, ?_⟩, by simp only [intOf]; omega⟩
          rw [ckP_succ, HCC.out, HST.out, pick_yes hgt]
          exact Lib.hid (U2.out.put _ SPP.out (fun q hq => by have := SO.out q hq; have := hU.out.ob.lt; omega) hxl)
        · have hgt' : ¬ (c.1 : Int) < x.1 := by omega
          go_wp2_with (first
            | (go_at_call 96; refine (HC.out).mono ?_; rintro e w2 ⟨⟨sv, he, sp, so⟩, e2⟩; subst he
               obtain ⟨va, vc, rfl⟩ := sp.shape
               have U2 := Lib.hid (hU.out.ext e2)
               have k1 : w2.cell? ⟨w.heap.size + 1 + 1 + 1, 3, none⟩ = some (ci c.1) := U2.out.ob.cell 3)
            | fail)
          refine ⟨⟨k + 1, hlt, by simp, ?_⟩, by simp only [intOf]; omega⟩
          rw [ckP_succ, HCC.out, HST.out, pick_no hgt]
          exact U2
    · obtain rfl : k = 2 := by omega
      obtain ⟨sv, hb1, hsp, hso⟩ := hU.out.sv
      obtain ⟨va, vc, rfl⟩ := hsp.shape
      have k1 : wr.cell? ⟨w.heap.size + 1, 0, none⟩ = some (.slice va (ckP d fr size 2).2.length vc) := hb1.cell 0
      have k1f := hb1.free 0
      have k2 : wr.cell? ⟨w.heap.size, 0, none⟩ = some (.pointer none) := hU.out.oc.cell 0
      have k2f := hU.out.oc.free 0
      have k3 : wr.cell? ⟨w.heap.size + 1 + 1, 0, none⟩ = some (ci 0) := hU.out.ec.cell 0
      have k3f := hU.out.ec.free 0
      clear hb1 hso hsp
      go_wp2_with fail
      go_region
      go_wp2_with fail
      have n1 : w.heap.size + 1 + 1 ≠ w.heap.size := by omega
      have n2 : w.heap.size + 1 + 1 ≠ w.heap.size + 1 := by omega
      have n3 : w.heap.size ≠ w.heap.size + 1 := by omega
      have m0 : w.heap.size + 1 + 1 + 1 ≠ w.heap.size := by omega
      have m1 : w.heap.size + 1 + 1 + 1 ≠ w.heap.size + 1 := by omega
      have m2 : w.heap.size + 1 + 1 + 1 ≠ w.heap.size + 1 + 1 := by omega
      obtain ⟨sv, hb1, hsp, hso⟩ := hU.out.sv
      have hsv : sv = .slice va (ckP d fr size 2).2.length vc := by
        have h := hb1.cell 0
        rw [k1] at h
        exact (Option.some.inj h).symm
      subst hsv
      have be := (((hU.out.ec.far ⟨w.heap.size, 0, none⟩ n1 (.pointer (some ⟨w.heap.size + 1 + 1 + 1, 0, none⟩))).far ⟨w.heap.size + 1, 0, none⟩ n2 (.slice va (ckP d fr size 2).2.length vc)).set 0 (ci 0)).drew
      have bo := (((hU.out.oc.set 0 (.pointer (some ⟨w.heap.size + 1 + 1 + 1, 0, none⟩))).far ⟨w.heap.size + 1, 0, none⟩ n3 (.slice va (ckP d fr size 2).2.length vc)).far ⟨w.heap.size + 1 + 1, 0, none⟩ n1.symm (ci 0)).drew
      have bn := (((hb1.far ⟨w.heap.size, 0, none⟩ n3.symm (.pointer (some ⟨w.heap.size + 1 + 1 + 1, 0, none⟩))).set 0 (.slice va (ckP d fr size 2).2.length vc)).far ⟨w.heap.size + 1 + 1, 0, none⟩ n2.symm (ci 0)).drew
      have bb := (((hU.out.ob.far ⟨w.heap.size, 0, none⟩ m0 (.pointer (some ⟨w.heap.size + 1 + 1 + 1, 0, none⟩))).far ⟨w.heap.size + 1, 0, none⟩ m1 (.slice va (ckP d fr size 2).2.length vc)).far ⟨w.heap.size + 1 + 1, 0, none⟩ m2 (ci 0)).drew
      have bs := ((hsp.far ⟨w.heap.size, 0, none⟩ (.pointer (some ⟨w.heap.size + 1 + 1 + 1, 0, none⟩)) (fun e => by have := hso _ e; simp only at this; omega)).far ⟨w.heap.size + 1, 0, none⟩ (.slice va (ckP d fr size 2).2.length vc) (fun e => by have := hso _ e; simp only at this; omega)).far ⟨w.heap.size + 1 + 1, 0, none⟩ (ci 0) (fun e => by have := hso _ e; simp only at this; omega)
      have E3 : Ext w (((wr.setCell ⟨w.heap.size, 0, none⟩ (.pointer (some ⟨w.heap.size + 1 + 1 + 1, 0, none⟩))).setCell ⟨w.heap.size + 1, 0, none⟩ (.slice va (ckP d fr size 2).2.length vc)).setCell ⟨w.heap.size + 1 + 1, 0, none⟩ (ci 0)).drew := (((hU.out.e.set (Nat.le_refl _) _).set (by show _ ≤ w.heap.size + 1; omega) _).set (by show _ ≤ w.heap.size + 1 + 1; omega) _).drew
      have bs' : Sp (((wr.setCell ⟨w.heap.size, 0, none⟩ (.pointer (some ⟨w.heap.size + 1 + 1 + 1, 0, none⟩))).setCell ⟨w.heap.size + 1, 0, none⟩ (.slice va (ckP d fr size 2).2.length vc)).setCell ⟨w.heap.size + 1 + 1, 0, none⟩ (ci 0)).drew 5 cb (.slice va (ckP d fr size 2).2.length vc) (ckP d fr size 2).2 := bs.ext ((Ext.refl _).drew)
      generalize (((wr.setCell ⟨w.heap.size, 0, none⟩ (.pointer (some ⟨w.heap.size + 1 + 1 + 1, 0, none⟩))).setCell ⟨w.heap.size + 1, 0, none⟩ (.slice va (ckP d fr size 2).2.length vc)).setCell ⟨w.heap.size + 1 + 1, 0, none⟩ (ci 0)).drew = w3 at *
      have bo' : Blk w3 w.heap.size #[.pointer (some ⟨w.heap.size + 1 + 1 + 1, 0, none⟩)] 68 := bo
      have bn' : Blk w3 (w.heap.size + 1) #[.slice va (ckP d fr size 2).2.length vc] 36 := bn
      have be' : Blk w3 (w.heap.size + 1 + 1) #[ci 0] 29 := be
      refine leaves_cons (f := 94) (args := #[.pointer (some ⟨w.heap.size + 1 + 1, 0, none⟩), .pointer (some ⟨w.heap.size, 0, none⟩), .pointer (some ⟨w.heap.size + 1, 0, none⟩)]) (by simp) (by simp [go_sem]) ?_
      refine (open_def_ret _ _ _ w3 (be'.cell 0) (be'.free 0)).mono ?_
      rintro e u' w4 ⟨rfl, rfl, rfl⟩
      have xe : ((w3.setCell ⟨w.heap.size + 1 + 1, 0, none⟩ (ci 0)).drew).cell? ⟨w.heap.size + 1 + 1, 0, none⟩ = some (ci 0) := (be'.set 0 (ci 0)).drew.cell 0
      have xo : ((w3.setCell ⟨w.heap.size + 1 + 1, 0, none⟩ (ci 0)).drew).cell? ⟨w.heap.size, 0, none⟩ = some (.pointer (some ⟨w.heap.size + 1 + 1 + 1, 0, none⟩)) := (bo'.far ⟨w.heap.size + 1 + 1, 0, none⟩ n1.symm (ci 0)).drew.cell 0
      have xn : ((w3.setCell ⟨w.heap.size + 1 + 1, 0, none⟩ (ci 0)).drew).cell? ⟨w.heap.size + 1, 0, none⟩ = some (.slice va (ckP d fr size 2).2.length vc) := (bn'.far ⟨w.heap.size + 1 + 1, 0, none⟩ n2.symm (ci 0)).drew.cell 0
      have xb : Blk ((w3.setCell ⟨w.heap.size + 1 + 1, 0, none⟩ (ci 0)).drew) (w.heap.size + 1 + 1 + 1) (sc g fr size (ckP d fr size 2).1 false) 143 := (bb.far ⟨w.heap.size + 1 + 1, 0, none⟩ m2 (ci 0)).drew
      have xE : Ext w ((w3.setCell ⟨w.heap.size + 1 + 1, 0, none⟩ (ci 0)).drew) := (E3.set (by show _ ≤ w.heap.size + 1 + 1; omega) _).drew
      have xs : Sp ((w3.setCell ⟨w.heap.size + 1 + 1, 0, none⟩ (ci 0)).drew) 5 cb (.slice va (ckP d fr size 2).2.length vc) (ckP d fr size 2).2 := (bs'.far ⟨w.heap.size + 1 + 1, 0, none⟩ (ci 0) (fun e => by have := hso _ e; simp only at this; omega)).ext ((Ext.refl _).drew)
      generalize (w3.setCell ⟨w.heap.size + 1 + 1, 0, none⟩ (ci 0)).drew = w4 at *
      have hres : (results Try.f48 #[]).run Try.prog w4 = (results Try.f48 #[]).run Try.prog w4 := rfl
      simp [Leaves, settle, results, Try.results48, go_sem, xe, xo, xn]
      exact ⟨xE, xb, xs, hso⟩
end
end Go.Proofs.Ytjcbmlpfpcpakaa
