/- DicePicks: the walk of the law. -/
import Derived.Test.YtaneknfhilfalaaD7j
import Derived.Test.YtaneknfhilfalaaL7f
import Derived.Test.YtaneknfhilfalaaL7b
namespace Go.Proofs.Ytaneknfhilfalaa
open Go.RowKit
set_option linter.unusedVariables false

def two64 : Nat := 4611686018427387904
def lowB : Nat := 553942754166571008
def highB : Nat := 8660422083433463808
theorem mul2_eq {x : Nat} (h : nn x) (hn : num x) : floatBits .mul .f64 4611686018427387904 x = some (fmul two64 x) ∧ nn (fmul two64 x) := by
  have e2 : two64 = 4611686018427387904 := rfl
  rw [e2]
  rcases h with h | h
  · obtain ⟨h1, h2⟩ := fmul_eq (x := 4611686018427387904) (by unfold good inf64; omega) ⟨_, _, _, read_two⟩ h hn
    exact ⟨h1, Or.inl h2⟩
  · subst h
    rw [fmul_of two_neg]
    exact ⟨two_neg, Or.inr rfl⟩
theorem chk_num {l : List Nat} (hb : ∀ x ∈ l, x < 18446744073709551616) : ∀ (T z : Nat), chk T l = some z → ∀ x ∈ l, num x := by
  induction l with
  | nil => intro T z _ x hx; cases hx
  | cons y r ih =>
    intro T z h x hx
    rw [chk_cons] at h
    split at h
    · rename_i ho
      rcases List.mem_cons.1 hx with rfl | hx
      · unfold okB at ho
        rw [Bool.and_eq_true] at ho
        exact (fin_num (hb x (by simp))).1 ho.2
      · exact ih (fun x hx => hb x (by simp [hx])) _ z h x hx
    · cases h
theorem fadd_comm {x y : Nat} (hx : good x) (nx : num x) (hy : good y) (ny : num y) : fadd x y = fadd y x := by
  obtain ⟨m, p, hr⟩ := good_num hx nx
  obtain ⟨n, q, hr2⟩ := good_num hy ny
  have h1 : floatBits .add .f64 x y = floatBits .add .f64 y x := by
    show D64.add x y = D64.add y x
    unfold Ieee.Format.add
    rw [hr, hr2, sum_pos, sum_pos, Int.min_comm q p, Nat.add_comm]
  have h2 := (fadd_eq hx (Or.inl hy)).1
  rw [h1] at h2
  exact (fadd_of h2).symm
theorem chk_each {ws : List Nat} (hb : ∀ x ∈ ws, x < 18446744073709551616) : ∀ {S T : Nat}, good S → chk S ws = some T → T < 9218868437227405312 → ∀ x ∈ ws, good x → x ≤ T := by
  induction ws with
  | nil => intro S T _ _ _ x hx; cases hx
  | cons y r ih =>
    intro S T hS h hT x hx hgx
    have h0 := h
    rw [chk_cons] at h
    split at h
    · rename_i ho
      have hn := okB_nn (hb y (by simp)) ho
      have hle := (chk_good (fun x hx => hb x (by simp [hx])) (fadd_good hS hn) h).2
      rcases List.mem_cons.1 hx with rfl | hx
      · have hST := (chk_good hb hS h0).2
        have hnx := chk_num hb S T h0 x (by simp)
        rw [fadd_comm hS (good_num' (by omega)) hgx hnx] at hle
        exact Nat.le_trans (fadd_ge hgx (Or.inl hS)) hle
      · exact ih (fun x hx => hb x (by simp [hx])) (fadd_good hS hn) h hT x hx hgx
    · cases h
/-- where no weight is small and the sum is not great, all are far from the ends -/
theorem all_mid {ws : List Nat} {T : Nat} (hb : ∀ x ∈ ws, x < 18446744073709551616) (hc : chk 0 ws = some T) (hs : ∀ w ∈ ws, ¬ (gtB w 0 = true ∧ w < lowB)) (hT : T < highB) : ∀ w ∈ ws, midn w := fun w hw => by
  have hn := chk_nn hb 0 T hc w hw
  rcases hn with h | h
  · left
    have hle := chk_each hb zero_good hc (by unfold highB at hT; omega) w hw h
    have h1 := hs w hw
    rw [gtB_nn (Or.inl h)] at h1
    unfold mid
    unfold highB at hT
    unfold lowB at h1
    unfold good inf64 at h
    rcases Nat.eq_zero_or_pos w with h0 | h0
    · exact Or.inl h0
    · refine Or.inr ⟨?_, by omega⟩
      rcases Nat.lt_or_ge w 553942754166571008 with h3 | h3
      · exact absurd ⟨decide_eq_true ⟨h0, by omega⟩, h3⟩ h1
      · exact h3
  · exact Or.inr h
theorem map_mul2 {ws : List Nat} (h : ∀ w ∈ ws, midn w) : ws.map (fmul two64) = ws.map dbl := List.map_congr_left (fun w hw => fmul_of (mul_two (h w hw)))
theorem pick_bad {ws : List Nat} (s : BitVec 64) (h : rt ws = false) : pick ws s = (0, 2, s) := by
  unfold rt at h
  unfold pick
  cases hc : chk 0 ws with
  | none => rfl
  | some T => rw [hc] at h; simp only at h; simp [h]
theorem rt_some {ws : List Nat} (h : rt ws = true) : ∃ T, chk 0 ws = some T ∧ totB T = true := by
  unfold rt at h
  cases hc : chk 0 ws with
  | none => rw [hc] at h; cases h
  | some T => rw [hc] at h; exact ⟨T, rfl, h⟩
theorem okB_true {x : Nat} (h : nn x) (hn : num x) : okB x = true := by
  unfold okB
  rw [ord_nn h, (fin_num (nn_lt h)).2 hn]; rfl
theorem steps_one (s : BitVec 64) : stepsOf s (s + stride) = 1#64 := by
  rw [show s + stride = s + 1#64 * stride by rw [BitVec.one_mul]]
  exact steps_on s 1#64
/-- what stands while the weights are doubled -/
structure P6 (W w : World) (g0 g2 g3 : Nat) (ws L : List Nat) (n : Nat) : Prop where
  ext : Ext W w
  a : HasRow w cf 37 g0 (ws ++ [13842939354630062080])
  b : HasRow w cf 37 g2 (L ++ [13842939354630062080])
  c : Blk w g3 (V cf (List.replicate n 0)) 37
  lo2 : W.heap.size ≤ g2
  ab : g0 ≠ g2
  bc : g2 ≠ g3
theorem HasRow.far {α : Type} {w : World} {f : α → Value} {T : TypeId} {g : Nat} {l : List α} (h : HasRow w f T g l) (a : Addr) (ha : g ≠ a.block) (v : Value) : HasRow (w.setCell a v) f T g l := by
  obtain ⟨cur, h1, h2⟩ := h
  exact ⟨cur, Blk.far h1 a ha v, h2⟩
theorem P6.fill {W w : World} {g0 g2 g3 : Nat} {ws L : List Nat} {n : Nat} (h : P6 W w g0 g2 g3 ws L n) (k x : Nat) (hk : k < L.length) : P6 W (w.setCell ⟨g2, k, none⟩ (cf x)) g0 g2 g3 ws (L.set k x) n := by
  refine ⟨h.ext.set h.lo2 _, h.a.far _ h.ab _, ?_, h.c.far _ (Ne.symm h.bc) _, h.lo2, h.ab, h.bc⟩
  have := h.b.set k x (by rw [List.length_append]; omega)
  rw [List.set_append_left _ _ hk] at this
  exact this
theorem P6.drewN {W w : World} {g0 g2 g3 : Nat} {ws L : List Nat} {n : Nat} (h : P6 W w g0 g2 g3 ws L n) (k : Nat) : P6 W (w.drewN k) g0 g2 g3 ws L n :=
  ⟨h.ext.drewN k, h.a, h.b, h.c, h.lo2, h.ab, h.bc⟩
theorem P6.ext' {W w w' : World} {g0 g2 g3 : Nat} {ws L : List Nat} {n : Nat} (h : P6 W w g0 g2 g3 ws L n) (x : Ext w w') : P6 W w' g0 g2 g3 ws L n :=
  ⟨h.ext.trans x, h.a.ext x, h.b.ext x, h.c.ext x, h.lo2, h.ab, h.bc⟩
theorem P6.grown' {W w w' : World} {g0 g2 g3 gf : Nat} {ws L : List Nat} {n : Nat} {s : BitVec 64} (h : P6 W w g0 g2 g3 ws L n) (k : w.grownBy w' (some gf)) (lo : W.heap.size ≤ gf) (d : DB w gf s) : P6 W w' g0 g2 g3 ws L n :=
  ⟨h.ext.grown1 k lo, h.a.grown k (fun e => h.a.neD d (by decide) (Option.some.inj e).symm), h.b.grown k (fun e => h.b.neD d (by decide) (Option.some.inj e).symm), h.c.grown k (fun e => db_ne d h.c (by decide) (Option.some.inj e).symm), h.lo2, h.ab, h.bc⟩
theorem size_setCell' (w : World) (a : Addr) (v : Value) : (w.setCell a v).heap.size = w.heap.size := by simp [World.setCell]
theorem dbl_step (f : Nat → Nat) (ws : List Nat) (k : Nat) (h : k < ws.length) : ((ws.take k).map f ++ ws.drop k).set k (f ws[k]) = (ws.take (k + 1)).map f ++ ws.drop (k + 1) := by
  rw [List.set_append_right _ _ (by simp; omega), List.length_map, List.length_take, Nat.min_eq_left (by omega), Nat.sub_self, List.drop_eq_getElem_cons h, List.set_cons_zero, List.take_add_one, List.getElem?_eq_getElem h, List.map_append, List.append_assoc]
  rfl
set_option maxHeartbeats 4000000 in
set_option maxRecDepth 100000 in
theorem picks_walk (seed : BitVec 64) (bv : Value) (bits : List (BitVec 64)) (lone : Int) (W : World) (hn : -9223372036854775808 ≤ lone ∧ lone ≤ 9223372036854775807) (hb : Rd W cw bv bits) (hbm : bits.length * 8 ≤ 140737488351232) :
    Calls Try.prog 9 #[.int .u64 (Bv seed), bv, .int .i64 lone] W fun e w' => e = .returned (.bool true) ∧ Ext W w' := by
  obtain ⟨i37, j1, j2, j3, j4⟩ := info_parts Try.info37
  have hz : i37.zero = some (cf 0) := j2
  obtain ⟨ad, c, rfl, hat⟩ := hb.at
  have HB := Lib.hid hb
  have HBM := Lib.hid hbm
  have H18 := Lib.hid (awake_calls W)
  have H24 := Lib.hid (fun n w (h1 : 1 ≤ n) (h2 : n ≤ 9223372036854775807) => round_calls lone n hn.1 hn.2 h1 h2 w)
  obtain ⟨ws, hws⟩ : ∃ x, bitsOf bits = x := ⟨_, rfl⟩
  have hwl : bits.length = ws.length := by rw [← hws, bitsOf_len]
  have hlt : ∀ x ∈ ws, x < 18446744073709551616 := by rw [← hws]; exact bitsOf_lt
  have HW := Lib.hid hws
  have HWL := Lib.hid hwl
  have HLT := Lib.hid hlt
  have HM := Lib.hid (show ws.length ≤ 9223372036854775807 by omega)
  have hfl0 := fun w (h : Rd w cw (.slice ad bits.length c) bits) => floats_calls (.slice ad bits.length c) bits w h hbm
  have hp0 : Hid (∀ b wv w, DB w b seed → Rd w cf wv ws → Calls Try.prog 31 #[.pointer (some ⟨b, 0, none⟩), wv] w fun e w' => e = .returned (.tuple #[ci (pick ws seed).1, ci (pick ws seed).2.1]) ∧ DB w' b (pick ws seed).2.2 ∧ w.grownBy w' (some b)) := fun b wv w h1 h2 => pick_own b seed wv ws w h1 h2 hlt HM.out
  rw [hws, hwl] at hfl0
  have HFL := Lib.hid hfl0
  rw [hwl]
  rw [hwl] at HB
  clear hat hb hbm hn hws hwl hlt hfl0
  cases hr : rt ws with
  | false =>
    have hpb := pick_bad seed hr
    rw [hpb] at hp0
    have HR := Lib.hid hr
    clear hpb hr
    go_enter Try.func9, Try.ntmps9
    go_wp2_with (first
      | (go_at_call 18; refine H18.out.mono ?_; clear H18; rintro e w1 ⟨rfl, s0, hw1⟩
         have E1 := Lib.hid (Ext.of_alloc (w := W) (.cells #[.int .u64 (Bv s0)] 69))
         rw [hw1] at E1
         have F1 := Lib.hid (HFL.out w1 (E1.out.rd HB.out))
         clear hw1)
      | (go_at_call 30; refine F1.out.mono ?_; clear F1; rintro e w2 ⟨g0, c0, rfl, hc1, hc2, hlo, ho, hh, he⟩
         have E2 := Lib.hid (E1.out.trans he)
         have R2 := Lib.hid hh
         clear hc1 hc2 hlo ho hh he E1)
      | (go_at_call 19; refine (new_calls seed w2).mono ?_; rintro e w3 ⟨rfl, hw3⟩
         obtain ⟨gd, hgd⟩ : ∃ g, w2.heap.size = g := ⟨_, rfl⟩
         have e3 := Ext.of_alloc (w := w2) (.cells #[.int .u64 (Bv seed)] 69)
         have d3 : DB (w2.alloc (.cells #[.int .u64 (Bv seed)] 69)) gd seed := by rw [← hgd]; exact Blk.new _ _ _
         rw [hw3] at e3 d3
         rw [hgd]
         have E3 := Lib.hid (E2.out.trans e3)
         have R3 := Lib.hid (R2.out.ext e3)
         have LO := Lib.hid (show W.heap.size ≤ gd by rw [← hgd]; exact E2.out.size)
         have P3 := Lib.hid (hp0.out gd _ w3 d3 (R3.out.rd (n := ws.length) (c := c0) rfl))
         have D3 := Lib.hid d3
         clear hw3 e3 d3 hgd E2 R2)
      | (go_at_call 31; refine P3.out.mono ?_; clear P3; rintro e w4 ⟨rfl, d4, g4⟩
         have E4 := Lib.hid (E3.out.grown1 g4 LO.out)
         have R4 := Lib.hid (right_calls (.slice (some ⟨g0, 0, none⟩) ws.length c0) ws w4 ((R3.out.grown g4 (fun e => R3.out.neD D3.out (by decide) (Option.some.inj e).symm)).rd rfl) HLT.out HM.out)
         rw [HR.out] at R4
         have D4 := Lib.hid d4
         clear d4 g4 E3 R3 D3)
      | (go_at_call 32; refine R4.out.mono ?_; clear R4; rintro e w5 ⟨rfl, k5, h5⟩
         have x5 := Lib.hid (show Ext w4 w5 by rw [← h5]; exact (Ext.refl w4).drewN k5)
         have S5 := Lib.hid (state_calls gd seed w5 (DB.die (D4.out.ext x5.out)))
         have E5 := Lib.hid (E4.out.trans x5.out)
         clear h5 x5 D4 E4)
      | (go_at_call 22; refine S5.out.mono ?_; clear S5; rintro e w6 ⟨rfl, rfl⟩)
      | fail)
    go_ret
    exact ⟨rfl, E5.out⟩
  | true =>
    obtain ⟨T, hc, ht⟩ := rt_some hr
    obtain ⟨j, hpj, hjl, hjg⟩ := pick_right seed HLT.out hc ht
    have HNN := Lib.hid (chk_nn HLT.out 0 T hc)
    have HNUM := Lib.hid (chk_num HLT.out 0 T hc)
    have hgT := (chk_good HLT.out zero_good hc).1
    rw [totB_good hgT] at ht
    have htf := of_decide_eq_true ht
    have HTW : Hid ((∀ w ∈ ws, ¬ (gtB w 0 = true ∧ w < lowB)) → T < highB → pick (ws.map (fmul two64)) seed = ((j : Int), 0, seed + stride)) := fun h1 h2 => by
      have hm := all_mid HLT.out hc h1 h2
      rw [map_mul2 hm, pick_dbl seed hm hc (by rw [totB_good hgT]; exact ht) h2, hpj]
    have HL2 : Hid (∀ x ∈ ws.map (fmul two64), x < 18446744073709551616) := fun x hx => by
      obtain ⟨y, hy, rfl⟩ := List.mem_map.1 hx
      exact nn_lt (mul2_eq (HNN.out y hy) (HNUM.out y hy)).2
    have HGT := Lib.hid hgT
    rw [hpj] at hp0
    have HP0 : Hid (∀ b wv w, DB w b seed → Rd w cf wv ws → Calls Try.prog 31 #[.pointer (some ⟨b, 0, none⟩), wv] w fun e w' => e = .returned (.tuple #[ci j, ci 0]) ∧ DB w' b (seed + stride) ∧ w.grownBy w' (some b)) := hp0.out
    have HR := Lib.hid hr
    have HC := Lib.hid hc
    have hws0 : (0 : Int) ≤ j := by omega
    have hjl' : (j : Int) < ws.length := by omega
    have HJL := Lib.hid hjl
    have HJG : Hid (∃ h : j < ws.length, gtB ws[j] 0 = true) := ⟨hjl, hjg⟩
    have hm' : (ws.length : Int) ≤ 17592186043904 := by have := HBM.out; have := HWL.out; omega
    have H1 := Lib.hid (steps_one seed)
    have hmk : ∀ w : World, (Instr.makeSlice 48 (.int .i64 (ws.length : Int)) (.int .i64 (ws.length : Int))).run Try.prog w = .ok (.slice (some ⟨w.heap.size, 0, none⟩) ws.length ws.length) (w.alloc (.cells (V cf (List.replicate ws.length 0)) 37)) :=
      fun w => run_make_one (P := Try.prog) cf 0 48 37 i37 8 Try.u48 j1 hz j3 j4 rfl ws.length ws.length (by omega) (by omega) (by omega) w
    clear hpj hr hc ht htf hgT hjl hjg hp0
    go_enter Try.func9, Try.ntmps9
    go_wp2_with (first
      | (go_at_call 18; refine H18.out.mono ?_; clear H18; rintro e w1 ⟨rfl, s0, hw1⟩
         have E1 := Lib.hid (Ext.of_alloc (w := W) (.cells #[.int .u64 (Bv s0)] 69))
         rw [hw1] at E1
         have F1 := Lib.hid (HFL.out w1 (E1.out.rd HB.out))
         clear hw1)
      | (go_at_call 30; refine F1.out.mono ?_; clear F1; rintro e w2 ⟨g0, c0, rfl, hc1, hc2, hlo, ho, hh, he⟩
         have E2 := Lib.hid (E1.out.trans he)
         have R2 := Lib.hid hh
         clear hc1 hc2 hlo ho hh he E1)
      | (go_at_call 19; refine (new_calls seed w2).mono ?_; rintro e w3 ⟨rfl, hw3⟩
         obtain ⟨gd, hgd⟩ : ∃ g, w2.heap.size = g := ⟨_, rfl⟩
         have e3 := Ext.of_alloc (w := w2) (.cells #[.int .u64 (Bv seed)] 69)
         have d3 : DB (w2.alloc (.cells #[.int .u64 (Bv seed)] 69)) gd seed := by rw [← hgd]; exact Blk.new _ _ _
         rw [hw3] at e3 d3
         rw [hgd]
         have E3 := Lib.hid (E2.out.trans e3)
         have R3 := Lib.hid (R2.out.ext e3)
         have LO := Lib.hid (show W.heap.size ≤ gd by rw [← hgd]; exact E2.out.size)
         have P3 := Lib.hid (HP0.out gd _ w3 d3 (R3.out.rd (n := ws.length) (c := c0) rfl))
         have D3 := Lib.hid d3
         clear hw3 e3 d3 hgd E2 R2)
      | (go_at_call 31; refine P3.out.mono ?_; clear P3; rintro e w4 ⟨rfl, d4, g4⟩
         have E4 := Lib.hid (E3.out.grown1 g4 LO.out)
         have Q4 := Lib.hid (R3.out.grown g4 (fun e => R3.out.neD D3.out (by decide) (Option.some.inj e).symm))
         have R4 := Lib.hid (right_calls (.slice (some ⟨g0, 0, none⟩) ws.length c0) ws w4 (Q4.out.rd rfl) HLT.out HM.out)
         rw [HR.out] at R4
         have D4 := Lib.hid d4
         clear d4 g4 E3 R3 D3)
      | (go_at_call 32; refine R4.out.mono ?_; clear R4; rintro e w5 ⟨rfl, k5, h5⟩
         have x5 := Lib.hid (show Ext w4 w5 by rw [← h5]; exact (Ext.refl w4).drewN k5)
         have Q5 := Lib.hid (Q4.out.ext x5.out)
         have S5 := Lib.hid (state_calls gd (seed + stride) w5 (DB.die (D4.out.ext x5.out)))
         have E5 := Lib.hid (E4.out.trans x5.out)
         have hcell5 := Q5.out.cell j (by rw [List.length_append]; have := HJL.out; omega)
         obtain ⟨hj5, hgt5⟩ := HJG.out
         rw [List.getElem_append_left HJL.out] at hcell5
         generalize ws[j] = xj at hcell5 hgt5
         rw [gtB_eq] at hgt5
         have T5 := Lib.hid (steps_calls seed (seed + stride) w5)
         rw [H1.out] at T5
         clear h5 x5 D4 E4 Q4 hj5)
      | (go_at_call 22; refine S5.out.mono ?_; clear S5; rintro e w6 ⟨rfl, rfl⟩)
      | (go_at_call 17; refine T5.out.mono ?_; clear T5; rintro e w6 ⟨rfl, rfl⟩
         have F5 := Lib.hid (HFL.out w5 (E5.out.rd HB.out))
         clear hcell5 hgt5)
      | (go_at_call 30; refine F5.out.mono ?_; clear F5; rintro e w6 ⟨g2, c2, rfl, hc1, hc2, hlo, ho, hh, he⟩
         have E6 := Lib.hid (E5.out.trans he)
         have R6 := Lib.hid (Q5.out.ext he)
         have R6b := Lib.hid hh
         have LO6 := Lib.hid (Nat.le_trans E5.out.size hlo)
         have NE6 := Lib.hid (show g0 ≠ g2 by obtain ⟨cur, h1, _⟩ := Q5.out; have := (Array.getElem?_eq_some_iff.1 h1).1; omega)
         have hc2' : (ws.length : Int) ≤ c2 := by omega
         clear hc1 hc2 hlo ho hh he E5 Q5)
      | fail)
    have P0 : Hid (P6 W (w6.alloc (.cells (V cf (List.replicate ws.length 0)) 37)) g0 g2 w6.heap.size ws ws ws.length) := by
      have x := Ext.of_alloc (w := w6) (.cells (V cf (List.replicate ws.length 0)) 37)
      refine ⟨E6.out.trans x, R6.out.ext x, R6b.out.ext x, Blk.new _ _ _, LO6.out, NE6.out, ?_⟩
      obtain ⟨cur, h1, _⟩ := R6b.out
      have := (Array.getElem?_eq_some_iff.1 h1).1
      omega
    have LO3 := Lib.hid (show W.heap.size ≤ w6.heap.size from E6.out.size)
    obtain ⟨g3, hg3⟩ : ∃ g, w6.heap.size = g := ⟨_, rfl⟩
    rw [hg3] at P0 LO3
    rw [hg3]
    obtain ⟨w7, hw7⟩ : ∃ x, w6.alloc (.cells (V cf (List.replicate ws.length 0)) 37) = x := ⟨_, rfl⟩
    rw [hw7] at P0
    rw [hw7]
    clear hw7 hg3 E6 R6 R6b NE6 hmk HP0
    have hfb : ∀ w : World, (callFunc 33 #[.int .u64 553942754166571008]).run Try.prog w = .ok (.value (cf 553942754166571008)) w := fun w => frombits 553942754166571008 w
    have hfb2 : ∀ w : World, (callFunc 33 #[.int .u64 8660422083433463808]).run Try.prog w = .ok (.value (cf 8660422083433463808)) w := fun w => frombits 8660422083433463808 w
    go_loopw [11, 12, 15, 16] (fun tv sv iv _ wr => ∃ (k z : Nat) (b : Bool), k ≤ ws.length ∧ iv = .int .i64 k ∧ sv = cf z ∧ tv = .bool b ∧ Hid (P6 W wr g0 g2 g3 ws ((ws.take k).map (fmul two64) ++ ws.drop k) ws.length ∧ good z ∧ chk z (ws.drop k) = some T ∧ (b = true → ∀ w ∈ ws.take k, ¬ (gtB w 0 = true ∧ w < lowB)))) (fun _ _ iv _ _ => (ws.length - (intOf iv).toNat))
    case atStart => exact ⟨0, 0, true, by omega, rfl, rfl, rfl, by rw [List.take_zero, List.map_nil, List.nil_append, List.drop_zero]; exact P0.out, zero_good, by rw [List.drop_zero]; exact HC.out, fun _ w h => by rw [List.take_zero] at h; cases h⟩
    case round =>
      clear P0 HC
      obtain ⟨k, z, b, hk, rfl, rfl, rfl, hT⟩ := hrel
      by_cases hlt : k < ws.length
      · have hlL : k < ((ws.take k).map (fmul two64) ++ ws.drop k).length := by rw [List.length_append, List.length_map, List.length_take, List.length_drop]; omega
        have hc0 := hT.out.1.a.cell k (by rw [List.length_append]; omega)
        rw [List.getElem_append_left hlt] at hc0
        obtain ⟨u2, hc2⟩ : ∃ u, wr.cell? ⟨g2, k, none⟩ = some (cf u) := ⟨_, hT.out.1.b.cell k (by rw [List.length_append]; omega)⟩
        have hf2 := hT.out.1.b.free k
        have hst := hT.out.2.2.1
        have hxn := HNN.out ws[k] (List.getElem_mem _)
        have hxm := HNUM.out ws[k] (List.getElem_mem _)
        rw [dropcons hlt, chk_cons, okB_true hxn hxm, if_pos rfl] at hst
        obtain ⟨hm1, hm2⟩ := mul2_eq hxn hxm
        have HF := hT.out.1.fill k (fmul two64 ws[k]) hlL
        rw [dbl_step _ _ _ hlt] at HF
        have HS := hT.out.2.2.2
        have hgx := gtB_eq ws[k] 0
        have HTK : Hid (b = true → ¬ (gtB ws[k] 0 = true ∧ ws[k] < lowB) → ∀ w ∈ ws.take (k + 1), ¬ (gtB w 0 = true ∧ w < lowB)) := fun hb h w hw => by
          rw [List.take_add_one, List.getElem?_eq_getElem hlt] at hw
          rcases List.mem_append.1 hw with h1 | h1
          · exact HS hb w h1
          · simp at h1; subst h1; exact h
        have hc3 : ∀ u : Value, (wr.setCell ⟨g2, k, none⟩ u).cell? ⟨g0, k, none⟩ = some (cf ws[k]) := fun u => by
          rw [World.cell?_setCell_far _ _ _ _ (Ne.symm hT.out.1.ab)]; exact hc0
        obtain ⟨hadd1, hgz1⟩ := fadd_eq hT.out.2.1 hxn
        obtain ⟨y, hy⟩ : ∃ y, fmul two64 ws[k] = y := ⟨_, rfl⟩
        obtain ⟨z', hz'⟩ : ∃ y, fadd z ws[k] = y := ⟨_, rfl⟩
        rw [hy] at HF hm1
        rw [hz'] at hst hadd1 hgz1
        have HFILL := Lib.hid HF
        have HST := Lib.hid hst
        have HGZ := Lib.hid hgz1
        have HXN := Lib.hid hxn
        clear hm2 HS hgx hxn hxm hst HF hy hz' hgz1 hlL
        have hadd := fun w => run_float_arith (P := Try.prog) w .add 37 .f64 _ _ _ hadd1
        have hmul := fun w => run_float_arith (P := Try.prog) w .mul 37 .f64 _ _ _ hm1
        generalize ws[k] = v at *
        clear hadd1 hm1 hT
        cases hg : gtB v 0 with
        | false =>
          have HTK2 := Lib.hid (show b = true → ∀ w ∈ ws.take (k + 1), ¬ (gtB w 0 = true ∧ w < lowB) from fun hb => HTK.out hb (fun h => by rw [hg] at h; cases h.1))
          rw [gtB_eq] at hg
          clear HTK HXN
          go_wp2_with fail
          go_quiet (fail)
          cases b with
          | false =>
            go_wp2_with fail
            go_roundw
            case measure => simp only [intOf]; omega
            case rel => exact ⟨k + 1, _, false, by omega, by go_num, rfl, rfl, HFILL.out.drewN _, HGZ.out, HST.out, fun h => by cases h⟩
          | true =>
            go_wp2_with fail
            go_roundw
            case measure => simp only [intOf]; omega
            case rel => exact ⟨k + 1, _, true, by omega, by go_num, rfl, rfl, HFILL.out.drewN _, HGZ.out, HST.out, HTK2.out⟩
        | true =>
          have hvg : good v := by
            rcases HXN.out with h | h
            · exact h
            · rw [h, gtB_neg] at hg; cases hg
          have hlb : good 553942754166571008 := by unfold good inf64; omega
          have hord : (FloatKind.f64.format.order v 553942754166571008 == some .lt) = decide (v < lowB) := by
            rw [show FloatKind.f64.format.order v 553942754166571008 = some (compare v 553942754166571008) from order_good hvg hlb]
            unfold lowB
            rcases Nat.lt_trichotomy v 553942754166571008 with h | h | h
            · rw [Nat.compare_eq_lt.2 h, decide_eq_true h]; rfl
            · rw [Nat.compare_eq_eq.2 h, decide_eq_false (by omega)]; rfl
            · rw [Nat.compare_eq_gt.2 h, decide_eq_false (by omega)]; rfl
          have HG := Lib.hid hg
          have HVL : Hid (b = true → ¬ v < lowB → ∀ w ∈ ws.take (k + 1), ¬ (gtB w 0 = true ∧ w < lowB)) := fun hb h => HTK.out hb (fun h2 => h h2.2)
          rw [gtB_eq] at hg
          clear HTK HXN hvg hlb
          by_cases hvl : v < lowB
          · rw [decide_eq_true hvl] at hord
            clear hvl
            go_wp2_with fail
            go_quiet (fail)
            cases b with
            | false =>
              go_wp2_with fail
              go_roundw
              case measure => simp only [intOf]; omega
              case rel => exact ⟨k + 1, _, false, by omega, by go_num, rfl, rfl, HFILL.out.drewN _, HGZ.out, HST.out, fun h => by cases h⟩
            | true =>
              go_wp2_with fail
              go_roundw
              case measure => simp only [intOf]; omega
              case rel => exact ⟨k + 1, _, false, by omega, by go_num, rfl, rfl, HFILL.out.drewN _, HGZ.out, HST.out, fun h => by cases h⟩
          · have HVL2 := Lib.hid (fun hb => HVL.out hb hvl)
            rw [decide_eq_false hvl] at hord
            clear hvl HVL
            go_wp2_with fail
            go_quiet (fail)
            cases b with
            | false =>
              go_wp2_with fail
              go_roundw
              case measure => simp only [intOf]; omega
              case rel => exact ⟨k + 1, _, false, by omega, by go_num, rfl, rfl, HFILL.out.drewN _, HGZ.out, HST.out, fun h => by cases h⟩
            | true =>
              go_wp2_with fail
              go_roundw
              case measure => simp only [intOf]; omega
              case rel => exact ⟨k + 1, _, true, by omega, by go_num, rfl, rfl, HFILL.out.drewN _, HGZ.out, HST.out, HVL2.out⟩
      · obtain rfl : ws.length = k := by omega
        have hzT : z = T := by have := hT.out.2.2.1; rw [List.drop_length, chk_nil] at this; exact Option.some.inj this
        subst hzT
        have hP := hT.out.1
        rw [List.take_length, List.drop_length, List.append_nil] at hP
        have HP := Lib.hid hP
        have HS := Lib.hid (show b = true → ∀ w ∈ ws, ¬ (gtB w 0 = true ∧ w < lowB) from fun h w hw => hT.out.2.2.2 h w (by rw [List.take_length]; exact hw))
        obtain ⟨m, hm⟩ : ∃ m : Nat, lone % (ws.length : Int) = (m : Int) := ⟨(lone % (ws.length : Int)).toNat, by have := HJL.out; have := Int.emod_nonneg lone (show (ws.length : Int) ≠ 0 by omega); omega⟩
        have hmn : m < ws.length := by have := HJL.out; have := Int.emod_lt_of_pos lone (show (0 : Int) < (ws.length : Int) by omega); omega
        have R24 : Hid (∀ w, Calls Try.prog 24 #[.int .i64 lone, .int .i64 (ws.length : Int)] w fun e w' => e = .returned (.int .i64 (m : Int)) ∧ w = w') := fun w => by
          have := HJL.out
          rw [← hm]; exact H24.out (ws.length : Int) w (by omega) (by omega)
        have HMN := Lib.hid hmn
        have hmi : (m : Int) < (ws.length : Int) := by omega
        have HPL : Hid (∀ b wv w, DB w b seed → Rd w cf wv ((List.replicate ws.length 0).set m one64) → Calls Try.prog 31 #[.pointer (some ⟨b, 0, none⟩), wv] w fun e w' => e = .returned (.tuple #[ci (m : Int), ci 0]) ∧ DB w' b (seed + stride) ∧ w.grownBy w' (some b)) := fun b wv w h1 h2 => by
          have := pick_own b seed wv _ w h1 h2 (fun x hx => by
            rcases List.mem_or_eq_of_mem_set hx with h | h
            · rw [(List.mem_replicate.1 h).2]; omega
            · rw [h]; unfold one64; omega) (by rw [List.length_set, List.length_replicate]; exact HM.out)
          rw [pick_lone _ _ HMN.out] at this
          exact this
        have N1 := Lib.hid (new_calls seed wr)
        have HPG : Hid (∀ b wv w, DB w b seed → Rd w cf wv (ws.map (fmul two64)) → Calls Try.prog 31 #[.pointer (some ⟨b, 0, none⟩), wv] w fun e w' => e = .returned (.tuple #[ci (pick (ws.map (fmul two64)) seed).1, ci (pick (ws.map (fmul two64)) seed).2.1]) ∧ DB w' b (pick (ws.map (fmul two64)) seed).2.2 ∧ w.grownBy w' (some b)) := fun b wv w h1 h2 => pick_own b seed wv _ w h1 h2 HL2.out (by rw [List.length_map]; exact HM.out)
        have hord : (FloatKind.f64.format.order z 8660422083433463808 == some .lt) = decide (z < highB) := by
          rw [show FloatKind.f64.format.order z 8660422083433463808 = some (compare z 8660422083433463808) from order_good HGT.out (by unfold good inf64; omega)]
          unfold highB
          rcases Nat.lt_trichotomy z 8660422083433463808 with h | h | h
          · rw [Nat.compare_eq_lt.2 h, decide_eq_true h]; rfl
          · rw [Nat.compare_eq_eq.2 h, decide_eq_false (by omega)]; rfl
          · rw [Nat.compare_eq_gt.2 h, decide_eq_false (by omega)]; rfl
        clear hT hP hm hmn hk hlt H24 HR HNN HNUM HL2 HGT HJG
        cases b with
        | true =>
          by_cases hh : z < highB
          · have hpt := HTW.out (HS.out rfl) hh
            rw [decide_eq_true hh] at hord
            rw [hpt] at HPG
            have HPT : Hid (∀ b wv w, DB w b seed → Rd w cf wv (ws.map (fmul two64)) → Calls Try.prog 31 #[.pointer (some ⟨b, 0, none⟩), wv] w fun e w' => e = .returned (.tuple #[ci (j : Int), ci 0]) ∧ DB w' b (seed + stride) ∧ w.grownBy w' (some b)) := HPG.out
            clear hh hpt HPG HTW HS
            go_wp2_with (first
              | (go_at_call 19; refine N1.out.mono ?_; clear N1; rintro e w8 ⟨rfl, hw8⟩
                 obtain ⟨gf, hgf⟩ : ∃ g, wr.heap.size = g := ⟨_, rfl⟩
                 have e8 := Ext.of_alloc (w := wr) (.cells #[.int .u64 (Bv seed)] 69)
                 have d8 : DB (wr.alloc (.cells #[.int .u64 (Bv seed)] 69)) gf seed := by rw [← hgf]; exact Blk.new _ _ _
                 have lo8 : W.heap.size ≤ gf := by rw [← hgf]; exact HP.out.ext.size
                 rw [hw8] at e8 d8
                 rw [hgf]
                 have P8 := Lib.hid (HP.out.ext' e8)
                 have PT := Lib.hid (HPT.out gf (.slice (some ⟨g2, 0, none⟩) ws.length c2) w8 d8 (P8.out.b.rd (by rw [List.length_map])))
                 have D8 := Lib.hid d8
                 have LO8 := Lib.hid lo8
                 clear hw8 e8 d8 hgf lo8 HP HPT)
              | (go_at_call 31; refine PT.out.mono ?_; clear PT; rintro e w9 ⟨rfl, d9, k9⟩
                 have P9 := Lib.hid (P8.out.grown' k9 LO8.out D8.out)
                 clear d9 k9 P8 D8)
              | (go_at_call 24; refine (R24.out _).mono ?_; clear R24; rintro e w10 ⟨rfl, rfl⟩
                 have hc9 : w9.cell? ⟨g3, m, none⟩ = some (cf 0) := by
                   rw [P9.out.c.cell, V_get, List.getElem?_eq_getElem (by rw [List.length_replicate]; exact HMN.out), List.getElem_replicate]; rfl
                 have hf9 := P9.out.c.free m
                 have Q9 : Hid (Ext W (w9.setCell ⟨g3, m, none⟩ (cf 4607182418800017408)) ∧ Blk (w9.setCell ⟨g3, m, none⟩ (cf 4607182418800017408)) g3 (V cf ((List.replicate ws.length 0).set m one64)) 37) := by
                   refine ⟨P9.out.ext.set LO3.out _, ?_⟩
                   have := P9.out.c.set m (cf 4607182418800017408)
                   rw [V_set] at this; exact this
                 have N2 := Lib.hid (new_calls seed (w9.setCell ⟨g3, m, none⟩ (cf 4607182418800017408)))
                 clear P9)
              | (go_at_call 19; refine N2.out.mono ?_; clear N2; rintro e w11 ⟨rfl, hw11⟩
                 obtain ⟨gh, hgh⟩ : ∃ g, (w9.setCell ⟨g3, m, none⟩ (cf 4607182418800017408)).heap.size = g := ⟨_, rfl⟩
                 have e11 := Ext.of_alloc (w := w9.setCell ⟨g3, m, none⟩ (cf 4607182418800017408)) (.cells #[.int .u64 (Bv seed)] 69)
                 have d11 : DB ((w9.setCell ⟨g3, m, none⟩ (cf 4607182418800017408)).alloc (.cells #[.int .u64 (Bv seed)] 69)) gh seed := by rw [← hgh]; exact Blk.new _ _ _
                 rw [hw11] at e11 d11
                 have hgh2 := hgh
                 rw [size_setCell'] at hgh2
                 first | rw [hgh] | rw [hgh2]
                 have E11 := Lib.hid (Q9.out.1.trans e11)
                 have PL := Lib.hid (HPL.out gh (.slice (some ⟨g3, 0, none⟩) ws.length ws.length) w11 d11 ((Q9.out.2.ext e11).whole' (by rw [List.length_set, List.length_replicate])))
                 have LO11 := Lib.hid (show W.heap.size ≤ gh by rw [← hgh]; exact Q9.out.1.size)
                 clear hw11 e11 d11 hgh hgh2 Q9 hc9 hf9)
              | (go_at_call 31; refine PL.out.mono ?_; clear PL; rintro e w12 ⟨rfl, d12, k12⟩
                 have E12 := Lib.hid (E11.out.grown1 k12 LO11.out)
                 clear d12 k12 E11)
              | fail)
            go_ret
            exact ⟨rfl, E12.out⟩
          · rw [decide_eq_false hh] at hord
            obtain ⟨⟨K2, E2, S2⟩, hpg⟩ : ∃ x, pick (ws.map (fmul two64)) seed = x := ⟨_, rfl⟩
            rw [hpg] at HPG
            have HPT : Hid (∀ b wv w, DB w b seed → Rd w cf wv (ws.map (fmul two64)) → Calls Try.prog 31 #[.pointer (some ⟨b, 0, none⟩), wv] w fun e w' => e = .returned (.tuple #[ci K2, ci E2]) ∧ DB w' b S2 ∧ w.grownBy w' (some b)) := HPG.out
            clear hh hpg HPG HTW HS
            go_wp2_with (first
              | (go_at_call 19; refine N1.out.mono ?_; clear N1; rintro e w8 ⟨rfl, hw8⟩
                 obtain ⟨gf, hgf⟩ : ∃ g, wr.heap.size = g := ⟨_, rfl⟩
                 have e8 := Ext.of_alloc (w := wr) (.cells #[.int .u64 (Bv seed)] 69)
                 have d8 : DB (wr.alloc (.cells #[.int .u64 (Bv seed)] 69)) gf seed := by rw [← hgf]; exact Blk.new _ _ _
                 have lo8 : W.heap.size ≤ gf := by rw [← hgf]; exact HP.out.ext.size
                 rw [hw8] at e8 d8
                 rw [hgf]
                 have P8 := Lib.hid (HP.out.ext' e8)
                 have PT := Lib.hid (HPT.out gf (.slice (some ⟨g2, 0, none⟩) ws.length c2) w8 d8 (P8.out.b.rd (by rw [List.length_map])))
                 have D8 := Lib.hid d8
                 have LO8 := Lib.hid lo8
                 clear hw8 e8 d8 hgf lo8 HP HPT)
              | (go_at_call 31; refine PT.out.mono ?_; clear PT; rintro e w9 ⟨rfl, d9, k9⟩
                 have P9 := Lib.hid (P8.out.grown' k9 LO8.out D8.out)
                 clear d9 k9 P8 D8)
              | (go_at_call 24; refine (R24.out _).mono ?_; clear R24; rintro e w10 ⟨rfl, rfl⟩
                 have hc9 : w9.cell? ⟨g3, m, none⟩ = some (cf 0) := by
                   rw [P9.out.c.cell, V_get, List.getElem?_eq_getElem (by rw [List.length_replicate]; exact HMN.out), List.getElem_replicate]; rfl
                 have hf9 := P9.out.c.free m
                 have Q9 : Hid (Ext W (w9.setCell ⟨g3, m, none⟩ (cf 4607182418800017408)) ∧ Blk (w9.setCell ⟨g3, m, none⟩ (cf 4607182418800017408)) g3 (V cf ((List.replicate ws.length 0).set m one64)) 37) := by
                   refine ⟨P9.out.ext.set LO3.out _, ?_⟩
                   have := P9.out.c.set m (cf 4607182418800017408)
                   rw [V_set] at this; exact this
                 have N2 := Lib.hid (new_calls seed (w9.setCell ⟨g3, m, none⟩ (cf 4607182418800017408)))
                 clear P9)
              | (go_at_call 19; refine N2.out.mono ?_; clear N2; rintro e w11 ⟨rfl, hw11⟩
                 obtain ⟨gh, hgh⟩ : ∃ g, (w9.setCell ⟨g3, m, none⟩ (cf 4607182418800017408)).heap.size = g := ⟨_, rfl⟩
                 have e11 := Ext.of_alloc (w := w9.setCell ⟨g3, m, none⟩ (cf 4607182418800017408)) (.cells #[.int .u64 (Bv seed)] 69)
                 have d11 : DB ((w9.setCell ⟨g3, m, none⟩ (cf 4607182418800017408)).alloc (.cells #[.int .u64 (Bv seed)] 69)) gh seed := by rw [← hgh]; exact Blk.new _ _ _
                 rw [hw11] at e11 d11
                 have hgh2 := hgh
                 rw [size_setCell'] at hgh2
                 first | rw [hgh] | rw [hgh2]
                 have E11 := Lib.hid (Q9.out.1.trans e11)
                 have PL := Lib.hid (HPL.out gh (.slice (some ⟨g3, 0, none⟩) ws.length ws.length) w11 d11 ((Q9.out.2.ext e11).whole' (by rw [List.length_set, List.length_replicate])))
                 have LO11 := Lib.hid (show W.heap.size ≤ gh by rw [← hgh]; exact Q9.out.1.size)
                 clear hw11 e11 d11 hgh hgh2 Q9 hc9 hf9)
              | (go_at_call 31; refine PL.out.mono ?_; clear PL; rintro e w12 ⟨rfl, d12, k12⟩
                 have E12 := Lib.hid (E11.out.grown1 k12 LO11.out)
                 clear d12 k12 E11)
              | fail)
            go_ret
            exact ⟨rfl, E12.out⟩
        | false =>
          obtain ⟨⟨K2, E2, S2⟩, hpg⟩ : ∃ x, pick (ws.map (fmul two64)) seed = x := ⟨_, rfl⟩
          rw [hpg] at HPG
          have HPT : Hid (∀ b wv w, DB w b seed → Rd w cf wv (ws.map (fmul two64)) → Calls Try.prog 31 #[.pointer (some ⟨b, 0, none⟩), wv] w fun e w' => e = .returned (.tuple #[ci K2, ci E2]) ∧ DB w' b S2 ∧ w.grownBy w' (some b)) := HPG.out
          clear hpg HPG HTW HS
          go_wp2_with (first
            | (go_at_call 19; refine N1.out.mono ?_; clear N1; rintro e w8 ⟨rfl, hw8⟩
               obtain ⟨gf, hgf⟩ : ∃ g, wr.heap.size = g := ⟨_, rfl⟩
               have e8 := Ext.of_alloc (w := wr) (.cells #[.int .u64 (Bv seed)] 69)
               have d8 : DB (wr.alloc (.cells #[.int .u64 (Bv seed)] 69)) gf seed := by rw [← hgf]; exact Blk.new _ _ _
               have lo8 : W.heap.size ≤ gf := by rw [← hgf]; exact HP.out.ext.size
               rw [hw8] at e8 d8
               rw [hgf]
               have P8 := Lib.hid (HP.out.ext' e8)
               have PT := Lib.hid (HPT.out gf (.slice (some ⟨g2, 0, none⟩) ws.length c2) w8 d8 (P8.out.b.rd (by rw [List.length_map])))
               have D8 := Lib.hid d8
               have LO8 := Lib.hid lo8
               clear hw8 e8 d8 hgf lo8 HP HPT)
            | (go_at_call 31; refine PT.out.mono ?_; clear PT; rintro e w9 ⟨rfl, d9, k9⟩
               have P9 := Lib.hid (P8.out.grown' k9 LO8.out D8.out)
               clear d9 k9 P8 D8)
            | (go_at_call 24; refine (R24.out _).mono ?_; clear R24; rintro e w10 ⟨rfl, rfl⟩
               have hc9 : w9.cell? ⟨g3, m, none⟩ = some (cf 0) := by
                 rw [P9.out.c.cell, V_get, List.getElem?_eq_getElem (by rw [List.length_replicate]; exact HMN.out), List.getElem_replicate]; rfl
               have hf9 := P9.out.c.free m
               have Q9 : Hid (Ext W (w9.setCell ⟨g3, m, none⟩ (cf 4607182418800017408)) ∧ Blk (w9.setCell ⟨g3, m, none⟩ (cf 4607182418800017408)) g3 (V cf ((List.replicate ws.length 0).set m one64)) 37) := by
                 refine ⟨P9.out.ext.set LO3.out _, ?_⟩
                 have := P9.out.c.set m (cf 4607182418800017408)
                 rw [V_set] at this; exact this
               have N2 := Lib.hid (new_calls seed (w9.setCell ⟨g3, m, none⟩ (cf 4607182418800017408)))
               clear P9)
            | (go_at_call 19; refine N2.out.mono ?_; clear N2; rintro e w11 ⟨rfl, hw11⟩
               obtain ⟨gh, hgh⟩ : ∃ g, (w9.setCell ⟨g3, m, none⟩ (cf 4607182418800017408)).heap.size = g := ⟨_, rfl⟩
               have e11 := Ext.of_alloc (w := w9.setCell ⟨g3, m, none⟩ (cf 4607182418800017408)) (.cells #[.int .u64 (Bv seed)] 69)
               have d11 : DB ((w9.setCell ⟨g3, m, none⟩ (cf 4607182418800017408)).alloc (.cells #[.int .u64 (Bv seed)] 69)) gh seed := by rw [← hgh]; exact Blk.new _ _ _
               rw [hw11] at e11 d11
               have hgh2 := hgh
               rw [size_setCell'] at hgh2
               first | rw [hgh] | rw [hgh2]
               have E11 := Lib.hid (Q9.out.1.trans e11)
               have PL := Lib.hid (HPL.out gh (.slice (some ⟨g3, 0, none⟩) ws.length ws.length) w11 d11 ((Q9.out.2.ext e11).whole' (by rw [List.length_set, List.length_replicate])))
               have LO11 := Lib.hid (show W.heap.size ≤ gh by rw [← hgh]; exact Q9.out.1.size)
               clear hw11 e11 d11 hgh hgh2 Q9 hc9 hf9)
            | (go_at_call 31; refine PL.out.mono ?_; clear PL; rintro e w12 ⟨rfl, d12, k12⟩
               have E12 := Lib.hid (E11.out.grown1 k12 LO11.out)
               clear d12 k12 E11)
            | fail)
          go_ret
          exact ⟨rfl, E12.out⟩
theorem picks_walk' (seed : BitVec 64) (bv : Value) (bits : List (BitVec 64)) (lone : Int) (W : World) (hn : -9223372036854775808 ≤ lone ∧ lone ≤ 9223372036854775807) (hb : Rd W cw bv bits) (hbm : bits.length * 8 ≤ 140737488351232) :
    Calls Try.prog 9 #[.int .u64 (Bv seed), bv, .int .i64 lone] W fun e w' => e = .returned (.bool true) ∧ Below W.heap.size W w' :=
  (picks_walk seed bv bits lone W hn hb hbm).mono fun e w' ⟨h1, h2⟩ => ⟨h1, h2.to⟩
end Go.Proofs.Ytaneknfhilfalaa
