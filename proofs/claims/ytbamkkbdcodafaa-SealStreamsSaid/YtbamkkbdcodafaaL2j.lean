/- SealMarks: the walk of the law. -/
import Derived.Test.YtbamkkbdcodafaaS2n
import Derived.Deep.QuietTactic
import Derived.BigQuiet
namespace Go.Proofs.Ytbamkkbdcodafaa
open Go.RowKit
set_option linter.unusedVariables false

theorem Try.u22 : Try.prog.underlying 22 = some (.slice 23) := by kernel_rfl
theorem Try.info23 : (Try.prog.info? 23).map (fun i => (i.zero, i.size, i.bytes)) = some (some (.slice none 0 0), 1, 24) := by kernel_rfl
theorem quiet_add {P : Program} {f : FuncId} {args : Array Value} {w : World} {v : Value} (h : ∀ m', Calls P f args (w.drewN m') fun e w' => e = .returned v ∧ ∃ n, (w.drewN m').drewN n = w') (m x : Nat) :
    Calls P f args (w.drewN (m + x)) fun e w'' => e = .returned v ∧ ∃ n, w'' = w.drewN (m + n) :=
  (h (m + x)).mono fun e w' ⟨h1, n, h2⟩ => ⟨h1, x + n, by rw [← h2, World.drewN_drewN, Nat.add_assoc]⟩
theorem Two.ne' {W w : World} {k : Nat} {B : Nat → Nat} {Q : Nat → List (BitVec 8)} {lv ov : Value} (h : Two W w k B Q lv ov) : ov.ownBlock = none ∨ ov.ownBlock ≠ lv.ownBlock := by
  rcases h.ne with h1 | h1
  · by_cases h2 : ov.ownBlock = none
    · exact Or.inl h2
    · exact Or.inr (by rw [h1]; exact h2)
  · exact Or.inr (Ne.symm h1)
theorem Two.step {W w w1 w3 w5 : World} {k g : Nat} {B : Nat → Nat} {Q : Nat → List (BitVec 8)} {lv ov lv' ov' : Value} {A C : Obj} (h : Two W w k B Q lv ov) (e1 : Ext w w1) (hg : LentAt w1 g (Q k)) (hgw : w.heap.size ≤ g)
    (l3 : Own w3 W.heap.size 23 idv lv' (vsOf B Q k ++ [lentV g (Q k).length])) (g3 : (w1.alloc A).grownBy w3 lv.ownBlock) (b3 : lv'.ownBlock = lv.ownBlock ∨ lv'.ownBlock = some (w1.alloc A).heap.size)
    (o5 : Own w5 W.heap.size 23 idv ov' (vsOf B Q k ++ [lentV g (Q k).length])) (g5 : (w3.alloc C).grownBy w5 ov.ownBlock) (b5 : ov'.ownBlock = ov.ownBlock ∨ ov'.ownBlock = some (w3.alloc C).heap.size) :
    Two W w5 (k + 1) (upd B k g) Q lv' ov' := by
  have e2 := e1.alloc A
  have L2 := e2.own h.l
  have O2 := e2.own h.o
  have x3 : Ext W w3 := (h.ext.trans e2).grown g3 (fun k hk => (h.l.lt k hk).1)
  have x5 : Ext W w5 := (x3.alloc C).grown g5 (fun k hk => (h.o.lt k hk).1)
  have hne := h.ne'
  have O3 : Own w3 W.heap.size 23 idv ov (vsOf B Q k) := O2.kept g3 hne
  have hlo : lv'.ownBlock = none ∨ lv'.ownBlock ≠ ov.ownBlock := by
    rcases b3 with b | b
    · rw [b]; exact h.ne
    · refine Or.inr fun e => ?_
      rw [b] at e
      have := (O2.lt _ e.symm).2
      omega
  have L5 : Own w5 W.heap.size 23 idv lv' (vsOf B Q k ++ [lentV g (Q k).length]) := (l3.alloc (o := C)).kept g5 hlo
  have P3 : Lents w3 W.heap.size k B Q := (h.parts.ext e2).grown L2 g3
  have P5 : Lents w5 W.heap.size k B Q := (P3.ext (Ext.of_alloc C)).grown (O3.alloc (o := C)) g5
  have H3 : LentAt w3 g (Q k) := (g3.block _ ((hg.ext (Ext.of_alloc A)).lt) (L2.block_ne (hg.ext (Ext.of_alloc A)))).trans (hg.ext (Ext.of_alloc A))
  have H5 : LentAt w5 g (Q k) := (g5.block _ ((H3.ext (Ext.of_alloc C)).lt) ((O3.alloc (o := C)).block_ne (H3.ext (Ext.of_alloc C)))).trans (H3.ext (Ext.of_alloc C))
  refine ⟨x5, by rw [vsOf_snoc]; exact L5, by rw [vsOf_snoc]; exact o5, ?_, P5.snoc H5 (Nat.le_trans h.ext.size hgw) (fun j hj e => ?_)⟩
  · rcases b5 with b | b
    · rw [b]; exact hlo
    · by_cases h1 : lv'.ownBlock = none
      · exact Or.inl h1
      · refine Or.inr fun e => ?_
        rw [b] at e
        have := (l3.lt _ e).2
        simp at this
        omega
  · have := h.parts.lt j hj
    omega
/-- a row of the call's own that is not empty -/
theorem Own.form1 {α : Type} {w : World} {B : Nat} {T : TypeId} {f : α → Value} {v : Value} {l : List α} (h : Own w B T f v l) (hl : 0 < l.length) :
    ∃ g c cur, v = .slice (some ⟨g, 0, none⟩) l.length c ∧ B ≤ g ∧ w.heap[g]? = some (.cells cur T (0, 0)) ∧ l.length ≤ c ∧ c ≤ maxLen ∧ ∀ i, (hi : i < l.length) → cur[i]? = some (f l[i]) := by
  obtain ⟨h1, ⟨_, h0⟩ | ⟨g, cap, cur, rfl, hB, hg, hle, hmx, hsz, htake⟩⟩ := h
  · omega
  · refine ⟨g, cap, cur, rfl, hB, hg, hle, hmx, fun i hi => ?_⟩
    have e : (cur.toList.take (l.length * 1))[i]? = (l.map f)[i]? := by rw [htake]
    rw [List.getElem?_take, if_pos (by omega), List.getElem?_map, List.getElem?_eq_getElem hi] at e
    simpa using e
structure Mk (W w : World) (n : Nat) (B : Nat → Nat) (Q : Nat → List (BitVec 8)) (gl : Nat) (ov : Value) (g9 : Nat) : Prop where
  ext : Ext W w
  row : ∃ cur, w.heap[gl]? = some (.cells cur 23 (0, 0)) ∧ (∀ i, i < n → cur[i]? = some (lentV (B i) (Q i).length)) ∧ cur[n]? = some (.slice (some ⟨g9, 0, none⟩) 1 1)
  own : Own w W.heap.size 23 idv ov (vsOf B Q n)
  nine : Blk w g9 #[.int .u8 9] 5
  lo : W.heap.size ≤ gl
  parts : Lents w W.heap.size n B Q
theorem Two.close {W w w3 : World} {n : Nat} {B : Nat → Nat} {Q : Nat → List (BitVec 8)} {lv ov lv' : Value} {A : Obj} (h : Two W w n B Q lv ov)
    (l3 : Own w3 W.heap.size 23 idv lv' (vsOf B Q n ++ [.slice (some ⟨w.heap.size, 0, none⟩) 1 1])) (g3 : ((w.alloc (.cells #[.int .u8 9] 5)).alloc A).grownBy w3 lv.ownBlock) :
    ∃ gl cc, lv' = .slice (some ⟨gl, 0, none⟩) (n + 1) cc ∧ n + 1 ≤ cc ∧ cc ≤ maxLen ∧ Mk W w3 n B Q gl ov w.heap.size := by
  have hlen : (vsOf B Q n ++ [(.slice (some ⟨w.heap.size, 0, none⟩) 1 1 : Value)]).length = n + 1 := by simp [vsOf_len]
  obtain ⟨gl, cc, cur, hv, hB, hg, hle, hmx, hcell⟩ := l3.form1 (by omega)
  rw [hlen] at hv hle
  have e2 : Ext w ((w.alloc (.cells #[.int .u8 9] 5)).alloc A) := Ext.of_alloc2 _ _
  have L2 := e2.own h.l
  have n2 : Blk ((w.alloc (.cells #[.int .u8 9] 5)).alloc A) w.heap.size #[.int .u8 9] 5 := (Blk.new _ _ _).alloc _
  have hnl : ∀ k, lv.ownBlock = some k → k < w.heap.size := fun k hk => (h.l.lt k hk).2
  refine ⟨gl, cc, hv, hle, hmx, (h.ext.trans e2).grown g3 (fun k hk => (h.l.lt k hk).1), ⟨cur, hg, fun i hi => ?_, ?_⟩, (e2.own h.o).kept g3 h.ne', n2.grown g3 (fun e => by have := hnl _ e.symm; omega), hB, (h.parts.ext e2).grown L2 g3⟩
  · rw [hcell i (by rw [hlen]; omega), List.getElem_append_left (by rw [vsOf_len]; exact hi), vsOf_get B Q n i hi]
  · rw [hcell n (by rw [hlen]; omega), List.getElem_append_right (by rw [vsOf_len]; omega)]
    simp [vsOf_len]
theorem Mk.rowrd {W w : World} {n gl g9 : Nat} {B : Nat → Nat} {Q : Nat → List (BitVec 8)} {ov : Value} (h : Mk W w n B Q gl ov g9) (cc : Nat) : Rd w idv (.slice (some ⟨gl, 0, none⟩) n cc) (vsOf B Q n) := by
  obtain ⟨cur, h1, h2, _⟩ := h.row
  rcases Nat.eq_zero_or_pos n with h0 | h0
  · subst h0; exact Or.inl ⟨_, _, rfl, rfl, fun h => by cases h⟩
  · refine Or.inr ⟨gl, 0, cc, n, rfl, (vsOf_len _ _ _).symm, h0, fun i hi => ?_⟩
    rw [vsOf_len] at hi
    rw [Nat.zero_add, cell_of_row w gl i cur 23 (0, 0) h1, h2 i hi, vsOf_get B Q n i hi]
theorem Mk.cell {W w : World} {n gl g9 : Nat} {B : Nat → Nat} {Q : Nat → List (BitVec 8)} {ov : Value} (h : Mk W w n B Q gl ov g9) (i : Nat) (hi : i < n) : w.cell? ⟨gl, i, none⟩ = some (.slice (some ⟨B i, 0, none⟩) (Q i).length ((Q i).length + 3)) := by
  obtain ⟨cur, h1, h2, _⟩ := h.row
  rw [cell_of_row w gl i cur 23 (0, 0) h1]; exact h2 i hi
theorem Mk.last {W w : World} {n gl g9 : Nat} {B : Nat → Nat} {Q : Nat → List (BitVec 8)} {ov : Value} (h : Mk W w n B Q gl ov g9) : w.cell? ⟨gl, n, none⟩ = some (.slice (some ⟨g9, 0, none⟩) 1 1) := by
  obtain ⟨cur, h1, _, h2⟩ := h.row
  rw [cell_of_row w gl n cur 23 (0, 0) h1]; exact h2
theorem own_cell {w : World} {b0 n : Nat} {B : Nat → Nat} {Q : Nat → List (BitVec 8)} {ov : Value} (h : Own w b0 23 idv ov (vsOf B Q n)) : ∃ qo co, ov = .slice qo n co ∧ ∀ i, i < n → ∃ g, qo = some ⟨g, 0, none⟩ ∧ w.cell? ⟨g, i, none⟩ = some (.slice (some ⟨B i, 0, none⟩) (Q i).length ((Q i).length + 3)) := by
  obtain ⟨qo, co, h1, h2⟩ := h.form
  rw [vsOf_len] at h1
  refine ⟨qo, co, h1, fun i hi => ?_⟩
  obtain ⟨g, h3, _, _, h4, _⟩ := h2 i (by rw [vsOf_len]; exact hi)
  rw [vsOf_get B Q n i hi] at h4
  exact ⟨g, h3, h4⟩
theorem Mk.drewN {W w : World} {n gl g9 : Nat} {B : Nat → Nat} {Q : Nat → List (BitVec 8)} {ov : Value} (h : Mk W w n B Q gl ov g9) (m : Nat) : Mk W (w.drewN m) n B Q gl ov g9 :=
  ⟨h.ext.drewN _, h.row, h.own.drewN, h.nine, h.lo, ⟨fun j hj => h.parts.at_ j hj, h.parts.lo, h.parts.inj⟩⟩
theorem rds_of {w : World} {n : Nat} {B : Nat → Nat} {Q : Nat → List (BitVec 8)} {sv : Value} (h : ∀ j, j < n → LentAt w (B j) (Q j)) (hr : Rd w idv sv (vsOf B Q n)) (hm : ∀ j, j < n → (Q j).length ≤ 9223372036854775807) : Rds w sv ((List.range n).map Q) := by
  refine ⟨vsOf B Q n, hr, by simp [vsOf_len], fun i hi hj => ?_⟩
  have hin : i < n := by simpa using hi
  rw [vsOf_get B Q n i hin, List.getElem_map, List.getElem_range]
  exact ⟨(h i hin).rd, hm i hin⟩
theorem own_cell' {w : World} {b0 n : Nat} {B : Nat → Nat} {Q : Nat → List (BitVec 8)} {qo : Option Addr} {co : Nat} (h : Own w b0 23 idv (.slice qo n co) (vsOf B Q n)) (i : Nat) (hi : i < n) : ∃ g, qo = some ⟨g, 0, none⟩ ∧ w.cell? ⟨g, i, none⟩ = some (.slice (some ⟨B i, 0, none⟩) (Q i).length ((Q i).length + 3)) := by
  obtain ⟨qo', co', e, h2⟩ := own_cell h
  injection e with e1 _ _
  subst e1
  exact h2 i hi
/-- the parts written over one by one, and their copies -/
structure Th (W w4 w : World) (n k : Nat) (B C : Nat → Nat) (Q R : Nat → List (BitVec 8)) (xv : Value) : Prop where
  ext : Ext W w
  base : W.heap.size ≤ w4.heap.size
  size : w4.heap.size ≤ w.heap.size
  blt : ∀ j, j < n → B j < w4.heap.size
  old : ∀ b, b < w4.heap.size → (∀ j, j < n → b ≠ B j) → w.heap[b]? = w4.heap[b]?
  len : ∀ j, j < n → (R j).length = (Q j).length
  bs : Lents w W.heap.size n B R
  xs : Own w w4.heap.size 23 idv xv (vsOf C Q k)
  cs : ∀ j, j < k → LentAt w (C j) (R j) ∧ w4.heap.size ≤ C j
theorem Mk.th {W w : World} {n gl g9 : Nat} {B : Nat → Nat} {Q : Nat → List (BitVec 8)} {ov : Value} (h : Mk W w n B Q gl ov g9) : Th W w w n 0 B B Q Q (.slice none 0 0) :=
  ⟨h.ext, h.ext.size, Nat.le_refl _, fun j hj => h.parts.lt j hj, fun _ _ _ => rfl, fun _ _ => rfl, h.parts, Own.nil, fun j hj => absurd hj (by omega)⟩
theorem Th.own {W w4 w : World} {n k : Nat} {B C : Nat → Nat} {Q R : Nat → List (BitVec 8)} {xv : Value} (h : Th W w4 w n k B C Q R xv) {b0 : Nat} {ov : Value} {l : List Value} (o : Own w4 b0 23 idv ov l) (hp : Lents w4 W.heap.size n B Q) : Own w b0 23 idv ov l := by
  have o' := o
  obtain ⟨h1, h2 | ⟨g, cap, cur, rfl, h3, h4, h5⟩⟩ := o
  · exact ⟨h1, Or.inl h2⟩
  · refine ⟨h1, Or.inr ⟨g, cap, cur, rfl, h3, ?_, h5⟩⟩
    rw [h.old g (Array.getElem?_eq_some_iff.1 h4).1 (fun j hj e => o'.block_ne (hp.at_ j hj) (by rw [← e]; rfl))]
    exact h4
theorem Th.rowrd {W w4 w : World} {n k gl g9 : Nat} {B C : Nat → Nat} {Q R : Nat → List (BitVec 8)} {xv ov : Value} (h : Th W w4 w n k B C Q R xv) (hm : Mk W w4 n B Q gl ov g9) (cc : Nat) : Rd w idv (.slice (some ⟨gl, 0, none⟩) n cc) (vsOf B R n) := by
  rw [vsOf_lens B Q R n h.len]
  obtain ⟨cur, h1, h2, _⟩ := hm.row
  have h1' : w.heap[gl]? = some (.cells cur 23 (0, 0)) := by
    rw [h.old gl (Array.getElem?_eq_some_iff.1 h1).1 (fun j hj e => ?_)]
    · exact h1
    · have k := hm.parts.at_ j hj
      unfold LentAt Blk at k
      rw [← e, h1] at k
      injection k with k
      injection k with _ k2
      cases k2
  rcases Nat.eq_zero_or_pos n with h0 | h0
  · subst h0; exact Or.inl ⟨_, _, rfl, rfl, fun h => by cases h⟩
  · refine Or.inr ⟨gl, 0, cc, n, rfl, (vsOf_len _ _ _).symm, h0, fun i hi => ?_⟩
    rw [vsOf_len] at hi
    rw [Nat.zero_add, cell_of_row w gl i cur 23 (0, 0) h1', h2 i hi, vsOf_get B Q n i hi]
theorem Th.step {W w4 w wx w1 w3 : World} {n k : Nat} {B C : Nat → Nat} {Q R : Nat → List (BitVec 8)} {xv xv' : Value} {M : List (BitVec 8)} {A : Obj} (h : Th W w4 w n k B C Q R xv) (hk : k < n) (gx : w.grownBy wx (some (B k))) (hM : LentAt wx (B k) M) (hl : M.length = (Q k).length)
    (e1 : Ext wx w1) (hg : LentAt w1 wx.heap.size M) (x3 : Own w3 w4.heap.size 23 idv xv' (vsOf C Q k ++ [lentV wx.heap.size (Q k).length])) (g3 : (w1.alloc A).grownBy w3 xv.ownBlock) :
    Th W w4 w3 n (k + 1) B (upd C k wx.heap.size) Q (upd R k M) xv' := by
  have XX : Own wx w4.heap.size 23 idv xv (vsOf C Q k) := h.xs.kept gx (by
    by_cases h1 : xv.ownBlock = none
    · exact Or.inl h1
    · exact Or.inr (Ne.symm (h.xs.block_ne (h.bs.at_ k hk))))
  have e2 := e1.alloc A
  have X2 := e2.own XX
  have EX : Ext W wx := h.ext.grown1 gx (h.bs.lo k hk)
  have LX : Lents wx W.heap.size n B (upd R k M) := by
    refine ⟨fun j hj => ?_, h.bs.lo, h.bs.inj⟩
    by_cases hjk : j = k
    · subst hjk; rw [upd_at]; exact hM
    · rw [upd_ne _ _ _ hjk]
      exact (gx.block _ (h.bs.lt j hj) (fun e => hjk (h.bs.inj j k hj hk (Option.some.inj e)))).trans (h.bs.at_ j hj)
  have hx4 : ∀ g, xv.ownBlock = some g → w4.heap.size ≤ g := fun g hg => (h.xs.lt g hg).1
  have move : ∀ g p, LentAt (w1.alloc A) g p → LentAt w3 g p := fun g p hp => (g3.block _ hp.lt (X2.block_ne hp)).trans hp
  refine ⟨(EX.trans e2).grown g3 (fun g hg => Nat.le_trans h.base (hx4 g hg)), h.base, Nat.le_trans (Nat.le_trans (Nat.le_trans h.size gx.size) e2.size) g3.size, h.blt, fun b hb hne => ?_, fun j hj => ?_, (LX.ext e2).grown X2 g3, by rw [vsOf_snoc]; exact x3, fun j hj => ?_⟩
  · have s1 : b < w.heap.size := Nat.lt_of_lt_of_le hb h.size
    have s2 : b < wx.heap.size := Nat.lt_of_lt_of_le s1 gx.size
    rw [g3.block b (Nat.lt_of_lt_of_le s2 e2.size) (fun e => by have := hx4 b e.symm; omega), e2.block s2, gx.block b s1 (fun e => hne k hk (Option.some.inj e)), h.old b hb hne]
  · by_cases hjk : j = k
    · subst hjk; rw [upd_at]; exact hl
    · rw [upd_ne _ _ _ hjk]; exact h.len j hj
  · by_cases hjk : j = k
    · subst hjk
      rw [upd_at, upd_at]
      exact ⟨move _ _ (hg.ext (Ext.of_alloc A)), Nat.le_trans h.size gx.size⟩
    · rw [upd_ne _ _ _ hjk, upd_ne _ _ _ hjk]
      obtain ⟨h1, h2⟩ := h.cs j (by omega)
      have h3 : LentAt wx (C j) (R j) := (gx.block _ h1.lt (fun e => by have := h.blt k hk; have := Option.some.inj e; omega)).trans h1
      exact ⟨move _ _ (h3.ext e2), h2⟩
theorem mod256 (z : Int) : z % 256 = Bv (BitVec.ofInt 8 z) := by
  unfold Bv
  rw [BitVec.toNat_ofInt]
  omega
theorem LentAt.put {w : World} {g m : Nat} {M : List (BitVec 8)} (h : LentAt w g M) (hm : m < M.length) (y : BitVec 8) : LentAt (w.setCell ⟨g, m, none⟩ (cb y)) g (M.set m y) := by
  have := Blk.set h m (cb y)
  unfold LentAt
  have e : V cb (M.set m y ++ marks) = (V cb (M ++ marks)).setIfInBounds m (cb y) := by
    rw [← List.set_append_left _ _ hm]
    unfold V
    apply Array.ext'
    simp
  rw [e]; exact this
set_option maxHeartbeats 2000000 in
theorem marks_walk (sv : Value) (n : Nat) (Q : Nat → List (BitVec 8)) (W : World) (hp : Rds W sv ((List.range n).map Q)) (hn : n * 24 ≤ 140737488351232) (hm : ∀ j, j < n → (Q j).length ≤ 140737488351232) :
    Calls Try.prog 3 #[sv] W fun e w' => e = .returned (.bool true) ∧ Ext W w' := by
  have hp1 := hp
  obtain ⟨ad, c, rfl, hat'⟩ := hp1.at
  have hat : ∀ i, i < n → ∃ b o v, ad = some ⟨b, o, none⟩ ∧ W.cell? ⟨b, o + i, none⟩ = some v ∧ Rd W cb v (Q i) := fun i hi => by
    obtain ⟨b, o, v, h1, h2, h3, _⟩ := hat' i (by simpa using hi)
    exact ⟨b, o, v, h1, h2, by simpa using h3⟩
  rw [show ((List.range n).map Q).length = n by simp] at hp ⊢
  clear hat' hp1
  have hn' : (n : Int) ≤ 5864062014806 := by omega
  have HP := Lib.hid hp
  have HN := Lib.hid hn
  have HM := Lib.hid hm
  have HA := Lib.hid hat
  obtain ⟨i23, j1, j2, j3, j4⟩ := info_parts Try.info23
  clear hp hn hm hat
  go_enter Try.func3, Try.ntmps3
  go_wp2_with fail
  go_loopw [3, 4, 5] (fun lv ov iv wr => ∃ (k : Nat) (B : Nat → Nat), k ≤ n ∧ iv = .int .i64 k ∧ Hid (Two W wr k B Q lv ov)) (fun _ _ iv _ => (n - (intOf iv).toNat))
  case atStart => exact ⟨0, fun _ => 0, by omega, rfl, Two.start _ _ _⟩
  case round =>
    obtain ⟨k, B, hk, rfl, hT⟩ := hrel
    by_cases hlt : k < n
    · obtain ⟨b, o, v, rfl, hci, hrd⟩ := HA.out k hlt
      have hc := hT.out.ext.cell hci
      have HL := Lib.hid (lent_calls v (Q k) wr (hT.out.ext.rd hrd) (HM.out k hlt))
      have hlen : ((Q k).length : Int) ≤ 140737488351232 := by have := HM.out k hlt; omega
      clear hci hrd
      go_wp2_with (first
        | (go_at_call 12; refine HL.out.mono ?_; clear HL; rintro e w1 ⟨he, l1, e1, -⟩
           unfold lentV at he
           subst he
           have E1 := Lib.hid e1
           have L1 := Lib.hid l1
           have X1 : Hid ((w1.alloc (.cells #[lentV wr.heap.size (Q k).length] 23)).cell? ⟨w1.heap.size, 0, none⟩ = some (idv (lentV wr.heap.size (Q k).length))) := by show _ = _; rw [World.cell?_alloc_new]; rfl
           have O1 := Lib.hid ((e1.alloc (.cells #[lentV wr.heap.size (Q k).length] 23)).own hT.out.l)
           have S1 := Lib.hid ((hT.out.ext.trans (e1.alloc (.cells #[lentV wr.heap.size (Q k).length] 23))).size)
           have N1 : Hid (((vsOf B Q k).length + 1) * 24 ≤ 140737488355328) := by show _ ≤ _; rw [vsOf_len]; have := HN.out; omega
           have M1 : Hid ((vsOf B Q k).length + 1 ≤ 9223372036854775807) := by show _ ≤ _; rw [vsOf_len]; have := HN.out; omega
           clear e1 l1)
        | (at_builtin; refine wpList_append_one idv rfl (.tmp 24) (.tmp 26) 22 rfl W.heap.size 23 i23 (.slice none 0 0) 24 Try.u22 j1 j2 j3 j4 rfl _ (vsOf B Q k) rfl O1.out w1.heap.size 1 _ rfl X1.out rfl N1.out M1.out S1.out ?_
           clear O1 X1 S1
           intro lv' w3 l3 g3 b3
           have L3 := Lib.hid l3
           have G3 := Lib.hid g3
           have B3 := Lib.hid b3
           have O3 := Lib.hid ((((E1.out.alloc (.cells #[lentV wr.heap.size (Q k).length] 23)).own hT.out.o).kept g3 hT.out.ne').alloc (o := .cells #[lentV wr.heap.size (Q k).length] 23))
           have X3 : Hid ((w3.alloc (.cells #[lentV wr.heap.size (Q k).length] 23)).cell? ⟨w3.heap.size, 0, none⟩ = some (idv (lentV wr.heap.size (Q k).length))) := by show _ = _; rw [World.cell?_alloc_new]; rfl
           have S3 := Lib.hid (((hT.out.ext.trans (E1.out.alloc (.cells #[lentV wr.heap.size (Q k).length] 23))).grown g3 (fun k hk => (hT.out.l.lt k hk).1)).alloc (.cells #[lentV wr.heap.size (Q k).length] 23)).size
           clear l3 g3 b3)
        | (at_builtin; refine wpList_append_one idv rfl (.tmp 28) (.tmp 30) 22 rfl W.heap.size 23 i23 (.slice none 0 0) 24 Try.u22 j1 j2 j3 j4 rfl _ (vsOf B Q k) rfl O3.out w3.heap.size 1 _ rfl X3.out rfl N1.out M1.out S3.out ?_
           clear O3 X3 S3
           intro ov' w5 l5 g5 b5
           have T5 := Lib.hid (hT.out.step E1.out L1.out (Nat.le_refl _) L3.out G3.out B3.out l5 g5 b5)
           clear l5 g5 b5)
        | fail)
      go_roundw
      case measure => simp only [intOf]; omega
      case rel => exact ⟨k + 1, _, by omega, by go_num, T5⟩
    · obtain rfl : n = k := by omega
      clear hk hlt
      obtain ⟨F, hF⟩ : ∃ F, fnvs off0 ((List.range n).map Q) = F := ⟨_, rfl⟩
      have HF := Lib.hid hF
      clear hF
      have A1 : Hid (((vsOf B Q n).length + 1) * 24 ≤ 140737488355328) := by show _ ≤ _; rw [vsOf_len]; have := HN.out; omega
      have M1 : Hid ((vsOf B Q n).length + 1 ≤ 9223372036854775807) := by show _ ≤ _; rw [vsOf_len]; have := HN.out; omega
      have O1 := Lib.hid (((Ext.of_alloc2 (w := wr) (.cells #[.int .u8 9] 5) (.cells #[.slice (some ⟨wr.heap.size, 0, none⟩) 1 1] 23))).own hT.out.l)
      have S1 := Lib.hid (hT.out.ext.trans (Ext.of_alloc2 (w := wr) (.cells #[.int .u8 9] 5) (.cells #[.slice (some ⟨wr.heap.size, 0, none⟩) 1 1] 23))).size
      have X1 : Hid (((wr.alloc (.cells #[.int .u8 9] 5)).alloc (.cells #[.slice (some ⟨wr.heap.size, 0, none⟩) 1 1] 23)).cell? ⟨wr.heap.size + 1, 0, none⟩ = some (idv (.slice (some ⟨wr.heap.size, 0, none⟩) 1 1))) := by
        show _ = _
        have h := World.cell?_alloc_new (wr.alloc (.cells #[.int .u8 9] 5)) #[.slice (some ⟨wr.heap.size, 0, none⟩) 1 1] 23 0
        rw [World.size_alloc] at h
        rw [h]; rfl
      go_wp2_with (first
        | (at_builtin; refine wpList_append_one idv rfl (.tmp 32) (.tmp 34) 22 rfl W.heap.size 23 i23 (.slice none 0 0) 24 Try.u22 j1 j2 j3 j4 rfl _ (vsOf B Q n) rfl O1.out (wr.heap.size + 1) 1 _ rfl X1.out rfl A1.out M1.out S1.out ?_
           clear O1 X1 S1 A1 M1
           intro lv' w3 l3 g3 b3
           obtain ⟨gl, cc, rfl, hcc, hcm, hk⟩ := hT.out.close l3 g3
           have MK := Lib.hid hk
           obtain ⟨n1, hn1⟩ : ∃ x, n + 1 = x := ⟨_, rfl⟩
           rw [hn1] at hcc ⊢
           have HN1 := Lib.hid hn1
           have hnn : n < n1 := by omega
           clear hn1
           have hcc' : (n : Int) ≤ cc := by omega
           have hcm' : (cc : Int) ≤ 9223372036854775807 := by simp only [maxLen] at hcm; omega
           have H13 := Lib.hid (rfnv_calls _ _ w3 (HP.out.ext hk.ext) (by simp; have := HN.out; omega))
           have H14 := Lib.hid (fnv_calls _ _ w3 (hk.parts.rds (hk.rowrd cc) (fun j hj => by have := HM.out j hj; omega)) (by simp; have := HN.out; omega))
           rw [HF.out] at H13 H14
           clear l3 g3 b3 hk hcm)
        | (go_at_call 13; refine H13.out.mono ?_; clear H13; rintro e w4 ⟨rfl, rfl⟩)
        | (go_at_call 14; refine H14.out.mono ?_; clear H14; rintro e w4 ⟨rfl, rfl⟩)
        | fail)
      obtain ⟨g9, h9⟩ : ∃ g, wr.heap.size = g := ⟨_, rfl⟩
      rw [h9] at MK
      clear hT h9
      obtain ⟨qo, co, rfl, hov'⟩ := own_cell MK.out.own
      have hov := Lib.hid hov'
      clear hov'
      go_loopw [9] (fun iv wx => ∃ (k m : Nat), k ≤ n ∧ iv = .int .i64 k ∧ wx = w3.drewN m) (fun iv _ => (n - (intOf iv).toNat))
      case atStart => exact ⟨0, 0, by omega, rfl, rfl⟩
      case round =>
        obtain ⟨k, m, hk, rfl, rfl⟩ := hrel
        by_cases hlt : k < n
        · obtain ⟨b, o, v, rfl, hci, hrd⟩ := HA.out k hlt
          obtain ⟨go, rfl, hco⟩ := hov.out k hlt
          have hc := MK.out.ext.cell hci
          have hlt1 : k < n1 := by omega
          have hcl := MK.out.cell k hlt
          have HS := Lib.hid (fun m' => same_calls (lentV (B k) (Q k).length) v (Q k) (Q k) (w3.drewN m') (MK.out.parts.at_ k hlt).rd.drewN (MK.out.ext.rd hrd).drewN (by have := HM.out k hlt; omega) (by have := HM.out k hlt; omega))
          have HK := Lib.hid (fun m' => kept_calls (B k) (Q k) v (Q k) (w3.drewN m') (MK.out.parts.at_ k hlt) (MK.out.ext.rd hrd).drewN (HM.out k hlt) (by have := HM.out k hlt; omega))
          rw [show decide (Q k = Q k) = true by simp] at HS HK
          unfold lentV at HS HK
          clear hci hrd
          go_wp2_with fail
          go_quiet (first
            | (go_at_call 15; exact quiet_add HS.out _ _)
            | (go_at_call 16; exact quiet_add HK.out _ _))
          go_wp2_with fail
          go_roundw
          case measure => simp only [intOf]; omega
          case rel => exact ⟨k + 1, _, by omega, by go_num, rfl⟩
        · obtain rfl : n = k := by omega
          clear hk hlt
          have hlast := MK.out.last
          have hnine : w3.cell? ⟨g9, 0, none⟩ = some (.int .u8 9) := MK.out.nine.cell 0
          go_wp2_with fail
          have MK4 := Lib.hid (MK.out.drewN m)
          clear MK hov hlast hnine
          generalize w3.drewN m = w4 at *
          go_loopw [10, 11] (fun xv iv wx => ∃ (k : Nat) (C : Nat → Nat) (R : Nat → List (BitVec 8)), k ≤ n ∧ iv = .int .i64 k ∧ Hid (Th W w4 wx n k B C Q R xv)) (fun _ iv _ => (n - (intOf iv).toNat))
          case atStart => exact ⟨0, B, Q, by omega, rfl, MK4.out.th⟩
          case round =>
            obtain ⟨k, C, R, hk, rfl, hT⟩ := hrel
            by_cases hlt : k < n
            · obtain ⟨b, o, v, rfl, hci, hrd⟩ := HA.out k hlt
              clear hci hrd
              have OV := Lib.hid (hT.out.own MK4.out.own MK4.out.parts)
              obtain ⟨go, rfl, hco⟩ := own_cell' OV.out k hlt
              obtain ⟨L, hL⟩ : ∃ L, (Q k).length = L := ⟨_, rfl⟩
              rw [hL] at hco
              have HL := Lib.hid hL
              have hLm : (L : Int) ≤ 140737488351232 := by have := HM.out k hlt; omega
              have hrl := Lib.hid (hT.out.len k hlt)
              clear hL
              obtain ⟨w5, hw5⟩ : ∃ x, x = wr := ⟨_, rfl⟩
              subst hw5
              go_wp2_with fail
              go_loopw [12] (fun jv wx => ∃ (m : Nat) (M : List (BitVec 8)), m ≤ L ∧ jv = .int .i64 m ∧ Hid (w5.grownBy wx (some (B k))) ∧ Hid (LentAt wx (B k) M ∧ M.length = L)) (fun jv _ => (L - (intOf jv).toNat))
              case atStart => exact ⟨0, R k, by omega, rfl, World.grownBy.refl _ _, hT.out.bs.at_ k hlt, by rw [hrl.out]; exact HL.out⟩
              case round =>
                obtain ⟨m, M, hm, rfl, hg, hM⟩ := hrel
                have OX := Lib.hid (OV.out.kept hg.out (Or.inr (Ne.symm (OV.out.block_ne (hT.out.bs.at_ k hlt)))))
                obtain ⟨go', hgo, hcx⟩ := own_cell' OX.out k hlt
                injection hgo with hgo
                injection hgo with hgo _ _
                subst hgo
                rw [HL.out] at hcx
                clear hco
                by_cases hlm : m < L
                · have hlM : m < M.length := by rw [hM.out.2]; exact hlm
                  have c1 : wr.cell? ⟨B k, m, none⟩ = some (cb M[m]) := by
                    have := hM.out.1
                    unfold LentAt at this
                    rw [this.cell, V_get, List.getElem?_append_left hlM, List.getElem?_eq_getElem hlM]; rfl
                  have c2 : wr.frozen? ⟨B k, m, none⟩ = false := Blk.free hM.out.1 m
                  generalize hxx : M[m] = x at *
                  clear hxx
                  go_wp2_with fail
                  go_region
                  all_goals (go_wp2_with fail)
                  go_roundw
                  case measure => simp only [intOf]; omega
                  case rel =>
                    have hG := grown_trans hg.out (grown_set wr (B k) m (cb (BitVec.ofInt 8 (Bv x + (1 + (k : Int))))))
                    rw [mod256]
                    exact ⟨m + 1, M.set m _, by omega, by go_num, ⟨hG.os, hG.tape, hG.output, hG.size, hG.block⟩, LentAt.put hM.out.1 hlM _, by rw [List.length_set]; exact hM.out.2⟩
                · obtain rfl : L = m := by omega
                  clear hm hlm
                  have HLe := Lib.hid (lent_calls (.slice (some ⟨B k, 0, none⟩) L (L + 3)) M wr (by have h := hM.out.1.rd; rw [hM.out.2] at h; exact h) (by rw [hM.out.2]; omega))
                  have EW := Lib.hid ((hT.out.ext.grown1 hg.out (hT.out.bs.lo k hlt)))
                  have A1 : Hid (((vsOf C Q k).length + 1) * 24 ≤ 140737488355328) := by show _ ≤ _; rw [vsOf_len]; have := HN.out; omega
                  have M1 : Hid ((vsOf C Q k).length + 1 ≤ 9223372036854775807) := by show _ ≤ _; rw [vsOf_len]; have := HN.out; omega
                  have XW := Lib.hid (hT.out.xs.kept hg.out (by
                    by_cases h1 : u10.ownBlock = none
                    · exact Or.inl h1
                    · exact Or.inr (Ne.symm (hT.out.xs.block_ne (hT.out.bs.at_ k hlt)))))
                  go_wp2_with (first
                    | (go_at_call 12; refine HLe.out.mono ?_; clear HLe; rintro e w6 ⟨he, l1, e1, -⟩
                       rw [hM.out.2] at he
                       unfold lentV at he
                       subst he
                       have E1 := Lib.hid e1
                       have L1 := Lib.hid l1
                       have X1 : Hid ((w6.alloc (.cells #[lentV wr.heap.size L] 23)).cell? ⟨w6.heap.size, 0, none⟩ = some (idv (lentV wr.heap.size L))) := by show _ = _; rw [World.cell?_alloc_new]; rfl
                       have O1 := Lib.hid ((e1.alloc (.cells #[lentV wr.heap.size L] 23)).own XW.out)
                       have S1 := Lib.hid (Nat.le_trans (Nat.le_trans hT.out.size hg.out.size) (e1.alloc (.cells #[lentV wr.heap.size L] 23)).size)
                       clear e1 l1)
                    | (at_builtin; refine wpList_append_one idv rfl (.tmp 123) (.tmp 129) 22 rfl w4.heap.size 23 i23 (.slice none 0 0) 24 Try.u22 j1 j2 j3 j4 rfl _ (vsOf C Q k) rfl O1.out w6.heap.size 1 _ rfl X1.out rfl A1.out M1.out S1.out ?_
                       clear O1 X1 S1 A1 M1
                       intro xv' w7 l3 g3 b3
                       have T7 := Lib.hid (hT.out.step hlt hg.out hM.out.1 (hM.out.2.trans HL.out.symm) E1.out L1.out (by rw [HL.out]; exact l3) g3)
                       clear l3 g3 b3)
                    | fail)
                  go_roundw
                  case measure => simp only [intOf]; omega
                  case rel => exact ⟨k + 1, _, _, by omega, by go_num, T7⟩
            · obtain rfl : n = k := by omega
              clear hk hlt
              have hlen : ∀ j, j < n → (R j).length ≤ 9223372036854775807 := fun j hj => by have := hT.out.len j hj; have := HM.out j hj; omega
              obtain ⟨G, hG⟩ : ∃ F, fnvs off0 ((List.range n).map R) = F := ⟨_, rfl⟩
              have H13 := Lib.hid (rfnv_calls _ _ wr (rds_of (fun j hj => (hT.out.cs j hj).1) (by rw [vsOf_lens C Q R n hT.out.len]; exact hT.out.xs.rd) hlen) (by simp; have := HN.out; omega))
              have H14 := Lib.hid (fnv_calls _ _ wr (rds_of (fun j hj => hT.out.bs.at_ j hj) (hT.out.rowrd MK4.out cc) hlen) (by simp; have := HN.out; omega))
              rw [hG] at H13 H14
              clear hG hlen
              go_wp2_with (first
                | (go_at_call 13; refine H13.out.mono ?_; clear H13; rintro e w9 ⟨rfl, rfl⟩)
                | (go_at_call 14; refine H14.out.mono ?_; clear H14; rintro e w9 ⟨rfl, rfl⟩)
                | fail)
              go_ret
              exact ⟨rfl, hT.out.ext⟩
theorem marks_walk' (sv : Value) (n : Nat) (Q : Nat → List (BitVec 8)) (W : World) (hp : Rds W sv ((List.range n).map Q)) (hn : n * 24 ≤ 140737488351232) (hm : ∀ j, j < n → (Q j).length ≤ 140737488351232) :
    Calls Try.prog 3 #[sv] W fun e w' => e = .returned (.bool true) ∧ Below W.heap.size W w' :=
  (marks_walk sv n Q W hp hn hm).mono fun e w' h => ⟨h.1, h.2.to⟩
end Go.Proofs.Ytbamkkbdcodafaa
