/- Layer 8 (disk), the document's disk: writes. -/
import Derived.Test.YtjcbmlpfpcpakaaE8d
import Derived.Deep.RegionLaw
namespace Go.Proofs.Ytjcbmlpfpcpakaa
open Go.RowKit
set_option linter.unusedVariables false
theorem Try.u135 : Try.prog.underlying 135 = some (.slice 175) := by kernel_rfl
theorem Try.info175 : (Try.prog.info? 175).map (fun i => (i.zero, i.size, i.bytes)) = some (some (.agg #[ci 0, .slice none 0 0]), 2, 32) := by kernel_rfl
/-- one write more that waits, as one step of a region that draws -/
theorem step_append_pr {ops : Array Oper} {o : Oper} {a : Act} {w : World} {K : Act → World → Prop} {Q : Exit → Act → World → Prop} {X : Prop} (hgd : o.guard = none) (s x : Operand)
    (ho : o.op = .call { callee := .builtin .append, args := #[s, x], argTypes := #[135, 135] })
    (B : Nat) (pv : Value) (E : List We) (hs : a.eval s = pv) (hown : w.ownsRow B 175 2 pv E.length (E.flatMap prc)) (b c : Nat) (y : We) (hx : a.eval x = .slice (some ⟨b, 0, none⟩) 1 c) (hb : Blk w b (prc y).toArray 175) (hy : y.v.oneCell' = true)
    (hn : (E.length + 1) * 32 ≤ 140737488355328) (hB : B ≤ w.heap.size)
    (h : ∀ x cx w', w'.ownsRow B 175 2 (.slice (some ⟨x, 0, none⟩) (E.length + 1) cx) (E ++ [y]).length ((E ++ [y]).flatMap prc) → w.grownBy w' pv.ownBlock → (pv.ownBlock = some x ∨ x = w.heap.size) → K (a.put o.dst (.slice (some ⟨x, 0, none⟩) (E.length + 1) cx)) w') : if Region.wanted o (yielded ops a.tmps) = true then Oper.wp Try.prog o a w K Q else X := by
  have hw : Region.wanted o (yielded ops a.tmps) = true := by simp [Region.wanted, hgd]
  rw [if_pos hw]
  obtain ⟨i, j1, j2, j3, j4⟩ := info_parts Try.info175
  have hone : ∀ u ∈ prc y, u.oneCell' = true := fun u hu => by
    unfold prc at hu
    rcases List.mem_cons.1 hu with rfl | hu
    · rfl
    · rw [List.mem_singleton.1 hu]; exact hy
  obtain ⟨v', w', hr, h2, h3, _, h5⟩ := run_append_own_at (P := Try.prog) w B 135 o.type 175 i _ 2 32 Try.u135 j1 j2 j3 j4 (by simp [Value.cells]) (by decide) pv E.length (E.flatMap prc) hown ⟨b, 0, none⟩ 1 c (prc y) (by unfold prc; rfl)
    (fun j u hj => by
      rw [Addr.add_mid, Nat.zero_add, hb.cell]
      simpa using hj) hone (by unfold maxLen; omega) hn hB
  have e : E.flatMap prc ++ prc y = (E ++ [y]).flatMap prc := by rw [List.flatMap_append]; simp
  have h2' : w'.ownsRow B 175 2 v' (E ++ [y]).length ((E ++ [y]).flatMap prc) := by
    rw [List.length_append, List.length_singleton, ← e]
    exact h2
  obtain ⟨_, ⟨rfl, h0⟩ | ⟨q, cap, cur, rfl, _⟩⟩ := h2
  · omega
  · unfold Oper.wp execOp
    simp only [ho, resolve, invoke, builtin, Sem.run_bind, Sem.run_pure, Result.andThen_ok, List.map_toArray, List.map_cons, List.map_nil, hs, hx, hr]
    refine h q cap w' h2' h3 ?_
    rcases h5 with h5 | h5
    · exact Or.inl h5.symm
    · exact Or.inr (Option.some.inj h5)
def lessL (left : Int) : Int := if 0 < left then wrap64 (left - 1) else left
section
variable {w w' : World} {B g sb sc n : Nat} {pv : Value} {E : List We} {S : List (BitVec 8)} {left made synced : Int}
theorem rwrite_power (h : RB w B g sb sc pv E n S 0 made synced) (m : Int) (dv : Value) : Calls Try.prog 85 #[.pointer (some ⟨g, 0, none⟩), ci m, dv] w fun e w' => e = .returned (ci 80) ∧ w = w' := by
  have c2 : w.cell? ⟨g, 2, none⟩ = some (ci 0) := h.b.cell 2
  clear h
  go_enter Try.func85, Try.ntmps85
  go_wp2_with fail
  go_ret
  exact ⟨rfl, rfl⟩
theorem rwrite_sector (h : RB w B g sb sc pv E n S left made synced) (m : Int) (dv : Value) (h0 : left ≠ 0) (hm : m < 0 ∨ (n : Int) ≤ m) : Calls Try.prog 85 #[.pointer (some ⟨g, 0, none⟩), ci m, dv] w fun e w' => e = .returned (ci 81) ∧ w = w' := by
  have c2 : w.cell? ⟨g, 2, none⟩ = some (ci left) := h.b.cell 2
  have HS := Lib.hid h.sectors
  have hb : (left == 0) = false := by simpa using h0
  have hd : decide (left = 0) = false := decide_eq_false h0
  clear h
  by_cases hn : m < 0
  · have hf : decide (m < 0) = true := decide_eq_true hn
    clear hm
    go_enter Try.func85, Try.ntmps85
    go_wp2_with fail
    go_ret
    exact ⟨rfl, rfl⟩
  · have hf : decide (m < 0) = false := decide_eq_false hn
    have h1 : (n : Int) ≤ m := by omega
    have hf2 : decide ((n : Int) ≤ m) = true := decide_eq_true h1
    clear hm
    go_enter Try.func85, Try.ntmps85
    go_wp2_with (first | (go_at_call 92; refine HS.out.mono ?_; rintro e w9 ⟨rfl, rfl⟩) | fail)
    go_ret
    exact ⟨rfl, rfl⟩
theorem rwrite_size (h : RB w B g sb sc pv E n S left made synced) (a : Nat) (da : Option Addr) (m c : Nat) (h0 : left ≠ 0) (ha : a < n) (hl : m ≠ 64) (hm : m ≤ maxLen) : Calls Try.prog 85 #[.pointer (some ⟨g, 0, none⟩), ci a, .slice da m c] w fun e w' => e = .returned (ci 82) ∧ w = w' := by
  have c2 : w.cell? ⟨g, 2, none⟩ = some (ci left) := h.b.cell 2
  have HS := Lib.hid h.sectors
  have hb : (left == 0) = false := by simpa using h0
  have hd : decide (left = 0) = false := decide_eq_false h0
  have hf : decide ((a : Int) < 0) = false := decide_eq_false (by omega)
  have ha' : (a : Int) < n := by omega
  have hf3 : decide (n ≤ a) = false := decide_eq_false (by omega)
  have hl' : ¬ (m : Int) = 64 := by omega
  have hm' : (m : Int) ≤ 9223372036854775807 := by unfold maxLen at hm; omega
  have hb2 : (m != 64) = true := by simpa using hl
  clear h hm ha
  go_enter Try.func85, Try.ntmps85
  go_wp2_with (first | (go_at_call 92; refine HS.out.mono ?_; rintro e w9 ⟨rfl, rfl⟩) | fail)
  go_ret
  exact ⟨rfl, rfl⟩
theorem RB.seth (h : RB w B g sb sc pv E n S left made synced) (i : Nat) (v : Value) (pv' : Value) (l' m' s' : Int) (hc : (rc (.slice (some ⟨sb, 0, none⟩) (64 * n) sc) pv left made synced).setIfInBounds i v = rc (.slice (some ⟨sb, 0, none⟩) (64 * n) sc) pv l' m' s') : RB (w.setCell ⟨g, i, none⟩ v) B g sb sc pv E n S l' m' s' := by
  have h2 := h.b.set i v
  rw [hc] at h2
  have hgr := grown_set w g i v
  have hne := h.ne
  refine ⟨h2, h.s.grown hgr (fun e => hne (Option.some.inj e).symm), h.sl, h.n1, h.n2, ?_, fun x hx => ⟨⟨?_, (h.e x hx).1.l⟩, (h.e x hx).2⟩⟩
  · refine row_far h.p fun k hk hlt => hgr.block k hlt (fun e => ?_)
    have := Option.some.inj e
    subst this
    exact ownsRow_type h.p h.b (by decide) hk
  · obtain ⟨g', c, h1, h2, h3, h4⟩ := (h.e x hx).1.v
    obtain ⟨cur, hb, _⟩ := h2.blk
    exact ⟨g', c, h1, h2.grown hgr (fun e => by have := Option.some.inj e; subst this; exact absurd (Blk.type hb h.b) (by decide)), h3, h4⟩
set_option maxRecDepth 100000 in
set_option maxHeartbeats 4000000 in
theorem rwrite_ok (h : RB w B g sb sc pv E n S left made synced) (a : Nat) (dv : Value) (l : List (BitVec 8)) (h0 : left ≠ 0) (ha : a < n) (hl : l.length = 64) (hd : Rd w cb dv l) (hn : (E.length + 1) * 32 ≤ 140737488355328) (hB : B ≤ w.heap.size) :
    Calls Try.prog 85 #[.pointer (some ⟨g, 0, none⟩), ci a, dv] w fun e w' => e = .returned (ci 0) ∧ ∃ pv' v', RB w' B g sb sc pv' (E ++ [⟨a, v', l⟩]) n S (lessL left) (wrap64 (made + 1)) synced ∧ Only w w' (fun k => k = g ∨ pv.ownBlock = some k) ∧
      (∀ k, pv'.ownBlock = some k → pv.ownBlock = some k ∨ w.heap.size ≤ k) ∧ ∀ k, v'.ownBlock = some k → w.heap.size ≤ k := by
  obtain ⟨pa, pc, rfl, hpc, hpm, _⟩ := h.row
  obtain ⟨da, dc, rfl⟩ := hd.form
  rw [hl] at hd ⊢
  have c2 : w.cell? ⟨g, 2, none⟩ = some (ci left) := h.b.cell 2
  have c1 : w.cell? ⟨g, 1, none⟩ = some (.slice pa E.length pc) := h.b.cell 1
  have HS := Lib.hid h.sectors
  have hb : (left == 0) = false := by simpa using h0
  have hdd : decide (left = 0) = false := decide_eq_false h0
  have hf : decide ((a : Int) < 0) = false := decide_eq_false (by omega)
  have ha' : (a : Int) < n := by omega
  have hf3 : decide (n ≤ a) = false := decide_eq_false (by omega)
  have HH := Lib.hid h
  have HD := Lib.hid hd
  have HL := Lib.hid hl
  have HN := Lib.hid hn
  have HB := Lib.hid hB
  have HA := Lib.hid ha
  clear h hd hl hn hB hpc hpm ha
  go_enter Try.func85, Try.ntmps85
  go_upto_region 9 with (first | (go_at_call 92; refine HS.out.mono ?_; rintro e w9 ⟨rfl, rfl⟩) | fail)
  go_cut [] (fun wx => ∃ pv' v', Hid (RB wx B g sb sc pv' (E ++ [⟨a, v', l⟩]) n S left made synced ∧ Only w wx (fun k => k = g ∨ (Value.slice pa E.length pc).ownBlock = some k) ∧ (∀ k, pv'.ownBlock = some k → (Value.slice pa E.length pc).ownBlock = some k ∨ w.heap.size ≤ k) ∧ ∀ k, v'.ownBlock = some k → w.heap.size ≤ k))
  case first =>
    go_region_law (first
      | (refine step_append_pr rfl (.tmp 29) (.tmp 34) rfl B (.slice pa E.length pc) E rfl (row_ext HH.out.p (X1.out.alloc _)) w1.heap.size 1 ⟨a, .slice (some ⟨gb, 0, none⟩) 64 cb', l⟩ rfl (Blk.new w1 _ 175) rfl HN.out (Nat.le_trans HB.out (X1.out.alloc _).size) ?_
         intro xb xc w2 p1 p2 p3
         have T1 := Lib.hid p1
         have T2 := Lib.hid p2
         have T3 := Lib.hid p3
         have e1 : w2.cell? ⟨g, 1, none⟩ = some (.slice pa E.length pc) := ((HH.out.b.ext (X1.out.alloc _)).grown p2 (fun e => ownsRow_type HH.out.p HH.out.b (by decide) e.symm)).cell 1
         have e2 : w2.frozen? ⟨g, 1, none⟩ = false := ((HH.out.b.ext (X1.out.alloc _)).grown p2 (fun e => ownsRow_type HH.out.p HH.out.b (by decide) e.symm)).free 1
         clear p1 p2 p3)
      | (go_simp; go_at_call 84; refine (copied_calls _ l w.drew HD.out.drew (by rw [HL.out]; decide)).mono ?_
         rintro e w1 ⟨v, rfl, o, x⟩
         obtain ⟨gb, cb', rfl, hb1, _⟩ := o.has (by rw [HL.out]; decide)
         have SP : Hid (Spn w1 5 cb gb cb' l) := by
           obtain ⟨g2, c2', e2, hs2⟩ := o.sp.form (by rw [HL.out]; decide)
           injection e2 with e2 _ e3
           injection e2 with e2
           injection e2 with e2 _ _
           subst e2 e3
           exact hs2
         have X1 := Lib.hid ((Ext.refl w).drew.trans x)
         have d1 := X1.out.cell c1
         have HB1 : Hid (w.heap.size ≤ gb) := hb1
         rw [HL.out]
         have d2 : (w1.alloc (.cells #[ci a, .slice (some ⟨gb, 0, none⟩) 64 cb'] 175)).cell? ⟨g, 1, none⟩ = some (.slice pa E.length pc) := (X1.out.alloc _).cell c1
         clear o x hb1))
    all_goals (try go_wp2_with fail)
    all_goals go_meet
    all_goals
      obtain ⟨wa, hwa⟩ : ∃ x, w1.alloc (.cells #[ci a, .slice (some ⟨gb, 0, none⟩) 64 cb'] 175) = x := ⟨_, rfl⟩
      have XA : Ext w (w1.alloc (.cells #[ci a, .slice (some ⟨gb, 0, none⟩) 64 cb'] 175)) := X1.out.alloc _
      have hh := HH.out.ext XA
      have t1 := T1.out
      have t2 : (w1.alloc (.cells #[ci a, .slice (some ⟨gb, 0, none⟩) 64 cb'] 175)).grownBy w2 (Value.slice pa E.length pc).ownBlock := T2.out
      have t3 : (Value.slice pa E.length pc).ownBlock = some xb ∨ xb = (w1.alloc (.cells #[ci a, .slice (some ⟨gb, 0, none⟩) 64 cb'] 175)).heap.size := T3.out
      have sp := SP.out.ext (Ext.of_alloc (.cells #[ci a, .slice (some ⟨gb, 0, none⟩) 64 cb'] 175))
      rw [hwa] at XA hh t2 t3 sp
      have ng : ∀ y c t, Blk wa y c t → t ≠ 175 → some y ≠ (Value.slice pa E.length pc).ownBlock := fun y c t hy ht e => ownsRow_type hh.p hy (fun e => ht e.symm) e.symm
      have hb2 := hh.b.grown t2 (ng _ _ _ hh.b (by decide))
      have hgs := grown_set w2 g 1 (.slice (some ⟨xb, 0, none⟩) (E.length + 1) xc)
      have kp : ∀ g' c' l', Spn wa 5 cb g' c' l' → Spn (w2.setCell ⟨g, 1, none⟩ (.slice (some ⟨xb, 0, none⟩) (E.length + 1) xc)) 5 cb g' c' l' := fun g' c' l' hs => by
        obtain ⟨cur, hcb, _⟩ := hs.blk
        have h2 := hs.grown t2 (ng _ _ _ hcb (by decide))
        obtain ⟨cur2, hcb2, _⟩ := h2.blk
        exact h2.grown hgs (fun e => by have := Option.some.inj e; subst this; exact absurd (Blk.type hcb2 hb2) (by decide))
      refine ⟨.slice (some ⟨xb, 0, none⟩) (E.length + 1) xc, .slice (some ⟨gb, 0, none⟩) 64 cb', Lib.hid ⟨⟨hb2.set 1 _, kp _ _ _ hh.s, hh.sl, hh.n1, hh.n2, ?_, fun x hx => ?_⟩, ?_, fun k hk => ?_, fun k hk => ?_⟩⟩
      · refine row_far t1 fun k hk hlt => hgs.block k hlt (fun e => ?_)
        have := Option.some.inj e
        subst this
        exact ownsRow_type t1 hb2 (by decide) hk
      · rcases List.mem_append.1 hx with hx | hx
        · obtain ⟨⟨g', c', k1, k2, k3, k4⟩, k5⟩ := (hh.e x hx).1
          exact ⟨⟨⟨g', c', k1, kp _ _ _ k2, k3, k4⟩, k5⟩, (hh.e x hx).2⟩
        · rw [List.mem_singleton.1 hx]
          refine ⟨⟨⟨gb, cb', rfl, kp _ _ _ sp, Nat.le_trans HB.out HB1.out, fun e => ?_⟩, HL.out⟩, HA.out⟩
          have h1 := HH.out.s.lt
          have h2 := HB1.out
          omega
      · exact (XA.only.grown t2 (fun y hy => Or.inr hy)).trans (only_set _ _ _ _ (Or.inl rfl))
      · have e : xb = k := Option.some.inj hk
        subst e
        rcases t3 with t3 | t3
        · exact Or.inl t3
        · exact Or.inr (by rw [t3]; exact XA.size)
      · have e : gb = k := Option.some.inj hk
        subst e
        exact HB1.out
  case rest =>
    obtain ⟨pv', v', hP⟩ := hcut
    have k3 : wc.cell? ⟨g, 3, none⟩ = some (ci made) := hP.out.1.b.cell 3
    have k3f := hP.out.1.b.free 3
    have k2 : wc.cell? ⟨g, 2, none⟩ = some (ci left) := hP.out.1.b.cell 2
    have k2f := hP.out.1.b.free 2
    by_cases hlt : 0 < left
    · have hlt2 : decide (0 < left) = true := decide_eq_true hlt
      have HE : Hid (lessL left = wrap64 (left - 1)) := by unfold lessL; rw [if_pos hlt]; rfl
      clear c1 c2 HS
      go_wp2_with fail
      go_ret
      have q1 := hP.out.1.seth 3 (ci (wrap64 (made + 1))) pv' left (wrap64 (made + 1)) synced rfl
      have q2 := q1.seth 2 (ci (wrap64 (left - 1))) pv' (wrap64 (left - 1)) (wrap64 (made + 1)) synced rfl
      refine ⟨rfl, pv', v', ?_, ?_, hP.out.2.2.1, hP.out.2.2.2⟩
      · rw [HE.out]; exact q2
      · exact (hP.out.2.1.set (Or.inl rfl) _).set (Or.inl rfl) _
    · have hlt2 : decide (0 < left) = false := decide_eq_false hlt
      have HE : Hid (lessL left = left) := by unfold lessL; rw [if_neg hlt]; rfl
      clear c1 c2 HS
      go_wp2_with fail
      go_ret
      have q1 := hP.out.1.seth 3 (ci (wrap64 (made + 1))) pv' left (wrap64 (made + 1)) synced rfl
      refine ⟨rfl, pv', v', ?_, ?_, hP.out.2.2.1, hP.out.2.2.2⟩
      · rw [HE.out]; exact q1
      · exact hP.out.2.1.set (Or.inl rfl) _
end
end Go.Proofs.Ytjcbmlpfpcpakaa
