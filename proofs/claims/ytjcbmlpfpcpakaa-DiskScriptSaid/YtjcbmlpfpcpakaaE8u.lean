/- Layer 8 (disk): steps of a script, by both: crashes. -/
import Derived.Test.YtjcbmlpfpcpakaaE8t
import Derived.Deep.RegionHeld3
namespace Go.Proofs.Ytjcbmlpfpcpakaa
open Go.RowKit
set_option linter.unusedVariables false
abbrev vb : Bool → Value := Value.bool
theorem Try.u26 : Try.prog.underlying 26 = some (.slice 4) := by kernel_rfl
theorem Try.size4 : (Try.prog.info? 4).map (·.size) = some 1 := by kernel_rfl
theorem Try.info4 : (Try.prog.info? 4).map (fun i => (i.zero, i.size, i.bytes)) = some (some (vb false), 1, 1) := by kernel_rfl
theorem make_bools (L : Nat) (h : L ≤ 140737488351232) (w : World) : (Instr.makeSlice 26 (.int .i64 ((L : Int) + 1)) (.int .i64 ((L : Int) + 1))).run Try.prog w = .ok (.slice (some ⟨w.heap.size, 0, none⟩) (L + 1) (L + 1)) (w.alloc (.cells (V vb (List.replicate (L + 1) false)) 4)) := by
  obtain ⟨i, j1, j2, j3, j4⟩ := info_parts Try.info4
  have h1 := run_make_one (P := Try.prog) vb false 26 4 i 1 Try.u26 j1 j2 j3 j4 rfl (L + 1) (L + 1) (Nat.le_refl _) (by omega) (by omega) w
  have e : ((L + 1 : Nat) : Int) = (L : Int) + 1 := by omega
  rw [e] at h1
  exact h1
theorem wpList_copy_bools {ops : Array Oper} {rest : List Oper} {o : Oper} {a : Act} {w : World} {Q : Exit → Act → World → Prop} (hgd : o.guard = none) (x y : Operand) (ho : o.op = .call { callee := .builtin .copy, args := #[x, y], argTypes := #[26, 26] })
    (g L : Nat) (keep : List Bool) (kv : Value) (hL : keep.length = L) (hx : a.eval x = .slice (some ⟨g, 0, none⟩) (L + 1) (L + 1)) (hy : a.eval y = kv) (hk : Rd w vb kv keep) (hb : Blk w g (V vb (List.replicate (L + 1) false)) 4)
    (h : ∀ w', Blk w' g (V vb (keep ++ [false])) 4 → w.grownBy w' (some g) → wpList Try.prog ops Q rest (a.put o.dst (ci L)) w') : wpList Try.prog ops Q (o :: rest) a w := by
  subst hL
  rcases hk with ⟨ad, c, rfl, rfl, _⟩ | ⟨b, off, c, n, rfl, rfl, h0, hc⟩
  · exact wpList_copy_nothing hgd x y 26 26 ho 4 Try.u26 Try.size4 _ _ _ _ _ _ hx hy (by simp) (h w hb ⟨rfl, rfl, rfl, Nat.le_refl _, fun _ _ _ => rfl⟩)
  · refine wpList_copy_own hgd x y 26 26 ho 4 Try.u26 Try.size4 g 0 _ _ ⟨b, off, none⟩ _ _ hx hy _ 4 hb (keep.map vb) ?_ ?_ ?_ ?_ ?_
    · rw [List.length_map]; show _ = min _ _; omega
    · intro j v hv
      rw [Addr.add_mid]
      obtain ⟨hj, rfl⟩ := List.getElem?_eq_some_iff.1 hv
      rw [List.length_map] at hj
      rw [hc j hj, List.getElem_map]
    · rw [V_size]; simp
    · intro v hv
      obtain ⟨z, _, rfl⟩ := List.mem_map.1 hv
      rfl
    · rw [List.length_map]
      have e : ((V vb (List.replicate (keep.length + 1) false)).toList.take 0 ++ (keep.map vb ++ (V vb (List.replicate (keep.length + 1) false)).toList.drop (0 + keep.length))).toArray = V vb (keep ++ [false]) := by
        apply Array.ext'
        rw [V_toList, V_toList]
        simp
      rw [e]
      exact h _ (setRow_heap w g _ _ 4 (0, 0) hb) ⟨rfl, rfl, rfl, by simp [World.setRow], fun k _ hk => setRow_other w g k _ (fun e => hk (by rw [e]))⟩
theorem grown_drewN' {a b : World} {row : Option Nat} (h : a.grownBy b row) (n : Nat) : a.grownBy (b.drewN n) row := ⟨h.os, h.tape, h.output, h.size, h.block⟩
def notK (k : Nat) (l : List Bool) : List Bool := (l.take k).map (!·) ++ l.drop k
theorem notK_len (k : Nat) (l : List Bool) (hk : k ≤ l.length) : (notK k l).length = l.length := by unfold notK; simp; omega
theorem notK_get (k : Nat) (l : List Bool) (hk : k < l.length) : (notK k l)[k]? = some l[k] := by
  unfold notK
  rw [List.getElem?_append_right (by simp; omega), List.length_map, List.length_take, Nat.min_eq_left (Nat.le_of_lt hk), Nat.sub_self, List.getElem?_drop, Nat.add_zero, List.getElem?_eq_getElem hk]
theorem notK_step (k : Nat) (l : List Bool) (hk : k < l.length) : (notK k l).set k (!l[k]) = notK (k + 1) l := by
  unfold notK
  rw [List.set_append_right _ _ (by simp; omega), List.length_map, List.length_take, Nat.min_eq_left (Nat.le_of_lt hk), Nat.sub_self, List.drop_eq_getElem_cons hk, List.set_cons_zero, List.take_succ_eq_append_getElem hk, List.map_append]
  simp
section
variable {w0 w : World} {g sb m rsb rsc j : Nat} {rv pv : Value} {E : List We} {left : Int} {d : Dk}
set_option maxRecDepth 100000 in
set_option maxHeartbeats 4000000 in
theorem lcrash_calls (h : PQ w0 w g sb rv m rsb rsc pv E left d) (who kd n torn cut : Int) (da ka : Option Addr) (keep : List Bool) (dn dc kc : Nat) (hk : Rd w0 vb (.slice ka keep.length kc) keep) (hkl : keep.length ≤ 140737488351232) :
    Calls Try.prog 90 #[.pointer (some ⟨g, 0, none⟩), .pointer (some ⟨m, 0, none⟩), .agg #[ci who, ci kd, ci n, .slice da dn dc, .slice ka keep.length kc, ci torn, ci cut]] w fun e w' => e = .returned (.bool true) ∧ After w0 w w' (kk g sb rv m rsb pv E) g m j := by
  obtain ⟨L, hL⟩ : ∃ L, keep.length = L := ⟨_, rfl⟩
  have HLK := Lib.hid hL
  rw [hL] at hk hkl ⊢
  have hx := Ext.of_alloc (w := w) (.cells #[ci who, ci kd, ci n, .slice da dn dc, .slice ka L kc, ci torn, ci cut] 60)
  have hmk := make_bools L hkl
  have HP := Lib.hid (h.ext hx)
  have HX := Lib.hid hx
  have HH := Lib.hid h
  have HK := Lib.hid hk
  have HKL := Lib.hid hkl
  have hLm : (L : Int) ≤ 140737488351232 := by omega
  have HA : Hid (∀ y, w0.heap.size ≤ y → keep = [] ∨ (Value.slice ka L kc).ownBlock ≠ some y) := fun y hy => by
    rcases hk with ⟨_, _, _, h0, _⟩ | ⟨b, o, c, q, hv, hm, h0, hc⟩
    · exact Or.inl h0
    · refine Or.inr fun e => ?_
      rw [hv] at e
      have e : b = y := Option.some.inj e
      have := World.block_lt_of_cell? w0 _ (hc 0 (by omega))
      simp only at this
      omega
  have HBX := Lib.hid (Blk.new w #[ci who, ci kd, ci n, .slice da dn dc, .slice ka L kc, ci torn, ci cut] 60)
  clear h hx hk hkl hL
  go_enter Try.func90, Try.ntmps90
  go_upto_region 2 with (first
    | (go_at_call 106; refine (rcrash_ok HP.out.r _ keep torn cut (HP.out.x.rd HK.out) (by rw [HLK.out]; have := HKL.out; omega) (HA.out _ HP.out.b.2.2.2)).mono ?_
       rintro e w1 ⟨rfl, p1, p2⟩
       have R1 := Lib.hid p1
       have O1 := Lib.hid p2
       have hm1 : ∀ k, (k = m ∨ k = rsb) → mineR m rsb pv E k := fun k hk => by
         rcases hk with hk | hk
         · exact Or.inl hk
         · exact Or.inr (Or.inl hk)
       have HM1 := Lib.hid hm1
       have D1 := Lib.hid (HP.out.p.after HP.out.r p2 hm1)
       have X1 : Hid (Ext w0 w1) := HP.out.x.of_only p2 (fun k hk => HH.out.lo k (Or.inr (hm1 k hk)))
       have BX1 : Hid (Blk w1 w.heap.size #[ci who, ci kd, ci n, .slice da dn dc, .slice ka L kc, ci torn, ci cut] 60) := p2.blk HBX.out (fun e => by
         have := HH.out.lt _ (Or.inr (hm1 _ e))
         omega)
       have c4 : w1.cell? ⟨w.heap.size, 4, none⟩ = some (.slice ka L kc) := BX1.out.cell 4
       have c4a : (w1.alloc (.cells (V vb (List.replicate (L + 1) false)) 4)).cell? ⟨w.heap.size, 4, none⟩ = some (.slice ka L kc) := (BX1.out.alloc _).cell 4
       clear p1 p2 hm1)
    | fail)
  go_upto_region 5 with (first
    | (guard_target =~ wpList _ _ _ (Oper.mk _ (.call { callee := .builtin .copy, args := _, argTypes := _ }) _ _ _ _ :: _) _ _
       refine wpList_copy_bools rfl _ _ rfl w1.heap.size L keep (.slice ka L kc) HLK.out rfl rfl ((X1.out.alloc _).rd HK.out) (Blk.new w1 _ 4) ?_
       intro w2 hb2 hg2
       have X2 : Hid (Ext w1 w2) := (Ext.of_alloc _).grown1 hg2 (Nat.le_refl _)
       have B2 := Lib.hid hb2
       have BX2 := Lib.hid (BX1.out.ext X2.out)
       have c4 : w2.cell? ⟨w.heap.size, 4, none⟩ = some (.slice ka L kc) := BX2.out.cell 4
       have c5 : w2.cell? ⟨w1.heap.size, L, none⟩ = some (vb false) := by
         rw [hb2.cell, V_get, List.getElem?_append_right (by rw [HLK.out]; exact Nat.le_refl _), HLK.out, Nat.sub_self]
         rfl
       have c6 := hb2.free L
       have B3 : Hid (Blk (w2.setCell ⟨w1.heap.size, L, none⟩ (vb true)) w1.heap.size (V vb (keep ++ [true])) 4) := by
         have h := hb2.set L (vb true)
         rw [V_set, List.set_append_right _ _ (by rw [HLK.out]; exact Nat.le_refl _), HLK.out, Nat.sub_self] at h
         exact h
       have X3 : Hid (Ext w1 (w2.setCell ⟨w1.heap.size, L, none⟩ (vb true))) := X2.out.set (Nat.le_refl _) _
       have BX3 := Lib.hid (BX1.out.ext X3.out)
       clear hb2 hg2)
    | fail)
  generalize w2.setCell ⟨w1.heap.size, L, none⟩ (vb true) = w3 at *
  have D3 := Lib.hid (D1.out.ext X3.out)
  have R3 := Lib.hid (R1.out.ext X3.out)
  have HSB : Hid ((Value.slice (some ⟨w1.heap.size, 0, none⟩) L (L + 1)).ownBlock ≠ some sb) := fun e => by
    have e : w1.heap.size = sb := Option.some.inj e
    have := D1.out.s.lt
    omega
  have hs0 : (0 : Int) ≤ (L : Int) := by omega
  have hs1 : (L : Int) ≤ (L : Int) + 1 := by omega
  have hs2 : L ≤ L + 1 := by omega
  have K0 : w3.cell? ⟨w.heap.size, 4, none⟩ = some (.slice ka L kc) ∧ w3.cell? ⟨w.heap.size, 5, none⟩ = some (ci torn) ∧ w3.cell? ⟨w.heap.size, 6, none⟩ = some (ci cut) := ⟨BX3.out.cell 4, BX3.out.cell 5, BX3.out.cell 6⟩
  clear c4 c4a c5 c6 BX1 BX2 B2 X2
  go_region_held3 (fun w' => w'.cell? ⟨w.heap.size, 4, none⟩ = some (.slice ka L kc) ∧ w'.cell? ⟨w.heap.size, 5, none⟩ = some (ci torn) ∧ w'.cell? ⟨w.heap.size, 6, none⟩ = some (ci cut)) (first | exact K1 | exact K0)
    (first
      | (go_at_call 32; refine (crash_ok (D3.out.ext ((Ext.refl w3).drew)) _ keep torn cut (Blk.rd (m := [true]) (B3.out.ext ((Ext.refl w3).drew)) HLK.out.symm) (by rw [HLK.out]; have := HKL.out; omega) (Or.inr HSB.out)).mono ?_
         rintro e w4 ⟨rfl, p1, p2⟩
         have D4 := Lib.hid p1
         have O4 := Lib.hid p2
         have R4 := Lib.hid ((R3.out.ext ((Ext.refl w3).drew)).after (D3.out.ext ((Ext.refl w3).drew)) p2)
         have B4 : Hid (Blk w4 w1.heap.size (V vb (keep ++ [true])) 4) := p2.blk (B3.out.ext ((Ext.refl w3).drew)) (fun hm => by
           obtain ⟨c, t, hb, ht⟩ := (D3.out.ext ((Ext.refl w3).drew)).types _ hm
           have e := Blk.type (B3.out.ext ((Ext.refl w3).drew)) hb
           subst e
           rcases ht with h | h | h <;> exact absurd h (by decide))
         have BX4 : Hid (Blk w4 w.heap.size #[ci who, ci kd, ci n, .slice da dn dc, .slice ka L kc, ci torn, ci cut] 60) := p2.blk (BX3.out.ext ((Ext.refl w3).drew)) (fun hm => by
           obtain ⟨c, t, hb, ht⟩ := (D3.out.ext ((Ext.refl w3).drew)).types _ hm
           have e := Blk.type (BX3.out.ext ((Ext.refl w3).drew)) hb
           subst e
           rcases ht with h | h | h <;> exact absurd h (by decide))
         have X4 : Hid (Ext w0 w4) := ((X1.out.trans X3.out).drew).of_only p2 (fun k hk => HH.out.lo k (Or.inl hk))
         have K1 : w4.cell? ⟨w.heap.size, 4, none⟩ = some (.slice ka L kc) ∧ w4.cell? ⟨w.heap.size, 5, none⟩ = some (ci torn) ∧ w4.cell? ⟨w.heap.size, 6, none⟩ = some (ci cut) := ⟨BX4.out.cell 4, BX4.out.cell 5, BX4.out.cell 6⟩
         clear p1 p2))
  have hF1 : w0.heap.size ≤ w1.heap.size := X1.out.size
  have hF2 : w.heap.size < w1.heap.size := by
    have h1 := O1.out.size
    have h2 : w.heap.size < (w.alloc (.cells #[ci who, ci kd, ci n, .slice da dn dc, .slice ka L kc, ci torn, ci cut] 60)).heap.size := HBX.out.lt
    omega
  have HF := Lib.hid (And.intro hF1 hF2)
  have HLT : Hid (∀ k, (mine g sb rv k ∨ mineR m rsb (.slice none 0 0) [] k) → k < w1.heap.size) := fun k hk => by
    rcases hk with hk | hk
    · exact D1.out.lt k hk
    · exact R1.out.lt k hk
  generalize w1.heap.size = fb at *
  clear hF1 hF2 K0 K1 hs0 hs1 hs2 HSB
  go_wp2_with fail
  go_loopw [8] (fun iv wx => ∃ k : Nat, k ≤ L ∧ iv = ci k ∧ Hid (w4.grownBy wx (some fb) ∧ Blk wx fb (V vb (notK k keep ++ [true])) 4)) (fun iv _ => ((L : Int) - intOf iv).toNat)
  case atStart => exact ⟨0, Nat.zero_le _, rfl, ⟨rfl, rfl, rfl, Nat.le_refl _, fun _ _ _ => rfl⟩, by unfold notK; rw [List.take_zero, List.drop_zero]; exact B4.out⟩
  case round =>
    obtain ⟨k, hk, rfl, hU⟩ := hrel
    have XR : Hid (Ext w0 wr) := X4.out.grown hU.out.1 (fun y hy => by have := HF.out.1; have := Option.some.inj hy; omega)
    have BXR : Hid (Blk wr w.heap.size #[ci who, ci kd, ci n, .slice da dn dc, .slice ka L kc, ci torn, ci cut] 60) := BX4.out.grown hU.out.1 (fun e => by have := HF.out.2; have := Option.some.inj e; omega)
    have x4 : wr.cell? ⟨w.heap.size, 4, none⟩ = some (.slice ka L kc) := BXR.out.cell 4
    have x4d : wr.drew.cell? ⟨w.heap.size, 4, none⟩ = some (.slice ka L kc) := BXR.out.cell 4
    by_cases hlt : k < L
    · have hlt' : (k : Int) < L := by omega
      have hkk : k < keep.length := by rw [HLK.out]; exact hlt
      obtain ⟨bv, ov, rfl, hcell⟩ := (XR.out.rd HK.out).cell_at hkk
      have hfull : wr.cell? ⟨fb, k, none⟩ = some (vb keep[k]) := by
        rw [hU.out.2.cell, V_get, List.getElem?_append_left (by rw [notK_len k keep (Nat.le_of_lt hkk)]; exact hkk), notK_get k keep hkk]
        rfl
      have hf := hU.out.2.free k
      have HS : Hid (Blk (wr.setCell ⟨fb, k, none⟩ (vb (!keep[k]))) fb (V vb (notK (k + 1) keep ++ [true])) 4) := by
        have h := hU.out.2.set k (vb (!keep[k]))
        rw [V_set, List.set_append_left _ _ (by rw [notK_len k keep (Nat.le_of_lt hkk)]; exact hkk), notK_step k keep hkk] at h
        exact h
      generalize keep[k] = b at *
      have hlt1 : (k : Int) < (L : Int) + 1 := by omega
      clear hkk
      cases b
      all_goals
        go_wp2_with fail
        go_quiet (fail)
        go_wp2_with fail
        go_roundw
        case measure => simp only [intOf]; omega
        case rel => exact ⟨k + 1, hlt, by go_num, grown_drewN' (grown_trans hU.out.1 (grown_set wr fb k _)) _, HS.out⟩
    · obtain rfl : k = L := by omega
      have x5 : wr.cell? ⟨fb, k, none⟩ = some (vb true) := by
        rw [hU.out.2.cell, V_get, List.getElem?_append_right (by rw [notK_len k keep (by rw [HLK.out]; exact Nat.le_refl _), HLK.out]; exact Nat.le_refl _), notK_len k keep (by rw [HLK.out]; exact Nat.le_refl _), HLK.out, Nat.sub_self]
        rfl
      have hlt1 : (k : Int) < (k : Int) + 1 := by omega
      go_wp2_with fail
      go_ret
      have r4 := R4.out
      rw [HH.out.e] at r4
      have hq4 : PQ w0 w4 g sb (.slice none 0 0) m rsb rsc (.slice none 0 0) [] (-1) (crashD d keep torn cut) := ⟨X4.out, D4.out, r4, rfl, rfl, (fun h => by cases h), HH.out.b⟩
      have hsub : ∀ y, kk g sb (.slice none 0 0) m rsb (.slice none 0 0) [] y → mine g sb rv y ∨ mineR m rsb (.slice none 0 0) [] y := fun y hy => by
        rcases hy with hy | hy
        · rcases hy with rfl | rfl | hy
          · exact Or.inl (Or.inl rfl)
          · exact Or.inl (Or.inr (Or.inl rfl))
          · cases hy
        · exact Or.inr hy
      have hq5 := hq4.over hU.out.1 HF.out.1 (fun y hy e => by have := HLT.out y (hsub y hy); omega)
      refine ⟨rfl, sb, _, rsb, rsc, _, [], -1, _, hq5, Nat.zero_le _, ?_, fun y hy => Or.inl ?_⟩
      · have o1 : Only w w1 (kk g sb rv m rsb pv E) := HX.out.only.trans (O1.out.mono (fun y hy => Or.inr (HM1.out y hy)))
        have o4 : Only w w4 (kk g sb rv m rsb pv E) := ((o1.ext X3.out).drew).trans (O4.out.mono (fun y hy => Or.inl hy))
        refine o4.trans' (grown_only' hU.out.1) (fun i hi e => ?_)
        have e : i = fb := e
        have := HF.out.2
        omega
      · rcases hsub y hy with h | h
        · exact Or.inl h
        · rcases h with rfl | rfl | h | ⟨x, hx, h⟩
          · exact Or.inr (Or.inl rfl)
          · exact Or.inr (Or.inr (Or.inl rfl))
          · cases h
          · cases hx
end
end Go.Proofs.Ytjcbmlpfpcpakaa
