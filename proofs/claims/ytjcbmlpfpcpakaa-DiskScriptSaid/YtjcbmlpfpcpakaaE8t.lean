/- Layer 8 (disk): steps of a script, by both: writes. -/
import Derived.Test.YtjcbmlpfpcpakaaE8s
namespace Go.Proofs.Ytjcbmlpfpcpakaa
open Go.RowKit
set_option linter.unusedVariables false
theorem LentAt.spn {w : World} {g : Nat} {p : List (BitVec 8)} (h : LentAt w g p) (hl : p.length ≤ 140737488351232) : Spn w 5 cb g (p.length + 3) p :=
  ⟨by omega, by unfold maxLen; omega, _, h, by rw [V_size, List.length_append, marks_len]; exact Nat.le_refl _, fun i hi => by rw [V_get, List.getElem?_append_left hi, List.getElem?_eq_getElem hi]; rfl⟩
theorem lent_at' (sv : Value) (p : List (BitVec 8)) (w : World) (hp : Rd w cb sv p) (hm : p.length ≤ 140737488351232) :
    Calls Try.prog 28 #[sv] w fun e w' => e = .returned (.slice (some ⟨w.heap.size, 0, none⟩) p.length (p.length + 3)) ∧ LentAt w' w.heap.size p ∧ Ext w w' ∧ w.heap.size < w'.heap.size := lent_calls sv p w hp hm
theorem kept_at (g : Nat) (l : List (BitVec 8)) (sv : Value) (w : World) (hl : LentAt w g l) (hp : Rd w cb sv l) (hml : l.length ≤ 140737488351232) :
    Calls Try.prog 41 #[.slice (some ⟨g, 0, none⟩) l.length (l.length + 3), sv] w fun e w' => e = .returned (.bool true) ∧ ∃ n, w.drewN n = w' := by
  have h := kept_calls g l sv l w hl hp hml (by omega)
  rw [decide_eq_true rfl] at h
  exact h
theorem wR_snoc (E : List We) (y : We) : wR (E ++ [y]) = wR E ++ [(y.s, y.l)] := by unfold wR; simp
section
variable {w0 w : World} {g sb m rsb rsc j : Nat} {rv pv : Value} {E : List We} {left : Int} {d : Dk}
set_option maxRecDepth 100000 in
set_option maxHeartbeats 4000000 in
theorem step_write_no (h : PQ w0 w g sb rv m rsb rsc pv E left d) (hj : d.R.length ≤ j) (who n torn cut r : Int) (da ka : Option Addr) (dat : List (BitVec 8)) (dc kn kc : Nat) (hd : Rd w0 cb (.slice da dat.length dc) dat) (hdl : dat.length ≤ 140737488351232)
    (hr : ∀ wx, PQ w0 wx g sb rv m rsb rsc pv E left d → Calls Try.prog 85 #[.pointer (some ⟨m, 0, none⟩), ci n, .slice da dat.length dc] wx fun e w' => e = .returned (ci r) ∧ wx = w')
    (hp : ∀ wx b c, PQ w0 wx g sb rv m rsb rsc pv E left d → Calls Try.prog 27 #[.pointer (some ⟨g, 0, none⟩), ci n, .slice (some ⟨b, 0, none⟩) dat.length c] wx fun e w' => e = .returned (ci r) ∧ wx = w') :
    Calls Try.prog 42 #[.pointer (some ⟨g, 0, none⟩), .pointer (some ⟨m, 0, none⟩), .agg #[ci who, ci 0, ci n, .slice da dat.length dc, .slice ka kn kc, ci torn, ci cut]] w fun e w' => e = .returned (.bool true) ∧ After w0 w w' (kk g sb rv m rsb pv E) g m (j + 1) := by
  have hx := Ext.of_alloc (w := w) (.cells #[ci who, ci 0, ci n, .slice da dat.length dc, .slice ka kn kc, ci torn, ci cut] 60)
  have H1 := Lib.hid (hr _ (h.ext hx))
  have HPP := Lib.hid hp
  have HP := Lib.hid (h.ext hx)
  have HX := Lib.hid hx
  have HH := Lib.hid h
  have HD := Lib.hid hd
  have HDL := Lib.hid hdl
  have hdl' : (dat.length : Int) ≤ 140737488351232 := by omega
  have hb : (r != r) = false := by simp
  have HC : Hid ((w.alloc (.cells #[ci who, ci 0, ci n, .slice da dat.length dc, .slice ka kn kc, ci torn, ci cut] 60)).cell? ⟨w.heap.size, 2, none⟩ = some (ci n) ∧ (w.alloc (.cells #[ci who, ci 0, ci n, .slice da dat.length dc, .slice ka kn kc, ci torn, ci cut] 60)).cell? ⟨w.heap.size, 3, none⟩ = some (.slice da dat.length dc)) :=
    ⟨(Blk.new w #[ci who, ci 0, ci n, .slice da dat.length dc, .slice ka kn kc, ci torn, ci cut] 60).cell 2, (Blk.new w #[ci who, ci 0, ci n, .slice da dat.length dc, .slice ka kn kc, ci torn, ci cut] 60).cell 3⟩
  clear h hx hr hp hd hdl
  go_enter Try.func42, Try.ntmps42
  go_wp2_with (first
    | (go_at_call 85; refine H1.out.mono ?_; rintro e w1 ⟨rfl, rfl⟩)
    | (go_at_call 28; refine (lent_at' _ dat _ (HP.out.x.rd HD.out) HDL.out).mono ?_
       rintro e w2 ⟨rfl, l, x, lt⟩
       rw [show (w.alloc (.cells #[ci who, ci 0, ci n, .slice da dat.length dc, .slice ka kn kc, ci torn, ci cut] 60)).heap.size = w.heap.size + 1 from Array.size_push _] at l
       have L2 := Lib.hid l
       have X2 := Lib.hid x
       have c2 := x.cell HC.out.1
       have c3 := x.cell HC.out.2
       clear l x lt)
    | (go_at_call 27; refine (HPP.out _ _ _ (HP.out.ext X2.out)).mono ?_; rintro e w1 ⟨rfl, rfl⟩)
    | (go_at_call 25; refine (num_calls _ _).mono ?_; rintro e w99 ⟨rfl, rfl⟩)
    | (go_at_call 41; refine (kept_at _ dat _ w2 L2.out ((HP.out.ext X2.out).x.rd HD.out) HDL.out).mono ?_
       rintro e w3 ⟨rfl, n3, h3⟩
       have X3 : Hid (Ext w2 w3) := by rw [← h3]; exact (Ext.refl w2).drewN n3
       clear h3)
    | (go_at_call 37; refine (over_spn _ _ _ dat 5 w3 ((show LentAt w3 _ dat from Blk.ext L2.out X3.out).spn HDL.out) rfl (by have := HDL.out; omega)).mono ?_
       rintro e w4 ⟨rfl, k⟩
       have K4 := Lib.hid k
       clear k)
    | fail)
  go_ret
  have hq := (HP.out.ext X2.out).ext X3.out
  have hsz : w.heap.size ≤ (w.alloc (.cells #[ci who, ci 0, ci n, .slice da dat.length dc, .slice ka kn kc, ci torn, ci cut] 60)).heap.size := HX.out.size
  have hw0 := HH.out.x.size
  have hq4 := hq.over K4.out (by omega) (fun y hy e => by have := HH.out.lt y hy; omega)
  refine ⟨rfl, sb, rv, rsb, rsc, pv, E, left, d, hq4, Nat.le_succ_of_le hj, ?_, fun k hk => Or.inl hk⟩
  refine ((HX.out.trans X2.out).trans X3.out).only.trans' (grown_only' K4.out) (fun i hi e => ?_)
  have e : i = w.heap.size + 1 := e
  omega
set_option maxRecDepth 100000 in
set_option maxHeartbeats 4000000 in
theorem step_write (h : PQ w0 w g sb rv m rsb rsc pv E left d) (hj : d.R.length ≤ j) (hjb : (j + 1) * 72 ≤ 140737488355328) (who n torn cut : Int) (da ka : Option Addr) (dat : List (BitVec 8)) (dc kn kc : Nat) (hd : Rd w0 cb (.slice da dat.length dc) dat) (hdl : dat.length ≤ 140737488351232) :
    Calls Try.prog 42 #[.pointer (some ⟨g, 0, none⟩), .pointer (some ⟨m, 0, none⟩), .agg #[ci who, ci 0, ci n, .slice da dat.length dc, .slice ka kn kc, ci torn, ci cut]] w fun e w' => e = .returned (.bool true) ∧ After w0 w w' (kk g sb rv m rsb pv E) g m (j + 1) := by
  rcases h.pow with ⟨hp, hl⟩ | ⟨hp, hl⟩
  · subst hl
    exact step_write_no h hj who n torn cut 80 da ka dat dc kn kc hd hdl (fun wx hq => rwrite_power hq.r n _) (fun wx b c hq => write_power hq.p n _ hp)
  · by_cases hb : n < 0 ∨ (d.n : Int) ≤ n
    · exact step_write_no h hj who n torn cut 81 da ka dat dc kn kc hd hdl (fun wx hq => rwrite_sector hq.r n _ hl hb) (fun wx b c hq => write_sector hq.p n _ hp hb)
    · obtain ⟨a, rfl⟩ : ∃ a : Nat, n = a := ⟨n.toNat, by omega⟩
      have ha : a < d.n := by omega
      by_cases h64 : dat.length = 64
      · have hx := Ext.of_alloc (w := w) (.cells #[ci who, ci 0, ci a, .slice da dat.length dc, .slice ka kn kc, ci torn, ci cut] 60)
        have HP := Lib.hid (h.ext hx)
        have HX := Lib.hid hx
        have HH := Lib.hid h
        have HD := Lib.hid hd
        have HDL := Lib.hid hdl
        have H64 := Lib.hid h64
        have HL := Lib.hid hl
        have HPW := Lib.hid hp
        have HA := Lib.hid ha
        have hEl : E.length = d.R.length := by rw [← h.e, wR_length]
        have HEB : Hid ((E.length + 1) * 32 ≤ 140737488355328 ∧ (d.R.length + 1) * 72 ≤ 140737488355328) := ⟨by omega, by omega⟩
        have HB : Hid (∀ w1, Only (w.alloc (.cells #[ci who, ci 0, ci a, .slice da dat.length dc, .slice ka kn kc, ci torn, ci cut] 60)) w1 (fun k => k = m ∨ pv.ownBlock = some k) → w1.cell? ⟨w.heap.size, 2, none⟩ = some (ci a) ∧ w1.cell? ⟨w.heap.size, 3, none⟩ = some (.slice da dat.length dc)) := fun w1 o => by
          have hb := Blk.new w #[ci who, ci 0, ci a, .slice da dat.length dc, .slice ka kn kc, ci torn, ci cut] 60
          have h1 := o.blk hb (fun e => by
            rcases e with e | e
            · have e : w.heap.size = m := e
              have := h.r.b.lt
              omega
            · have := h.lt _ (Or.inr (Or.inr (Or.inr (Or.inl e))))
              omega)
          exact ⟨h1.cell 2, h1.cell 3⟩
        clear h hx hd hdl hl hp hb ha h64 hEl hjb
        go_enter Try.func42, Try.ntmps42
        go_wp2_with (first
          | (go_at_call 85; refine (rwrite_ok HP.out.r a _ dat HL.out HA.out H64.out (HP.out.x.rd HD.out) HEB.out.1 HP.out.x.size).mono ?_
             rintro e w1 ⟨rfl, pv', v', p1, p2, p3, p4⟩
             have R1 := Lib.hid p1
             have O1 := Lib.hid p2
             have N1 := Lib.hid (And.intro p3 p4)
             have hm1 : ∀ k, (k = m ∨ pv.ownBlock = some k) → mineR m rsb pv E k := fun k hk => by
               rcases hk with hk | hk
               · exact Or.inl hk
               · exact Or.inr (Or.inr (Or.inl hk))
             have HM1 := Lib.hid hm1
             have D1 := Lib.hid (HP.out.p.after HP.out.r p2 hm1)
             have X1 : Hid (Ext w0 w1) := HP.out.x.of_only p2 (fun k hk => HH.out.lo k (Or.inr (hm1 k hk)))
             have c2 := (HB.out w1 p2).1
             have c3 := (HB.out w1 p2).2
             have HC := Lib.hid (HB.out w1 p2)
             clear p1 p2 p3 p4 hm1)
          | (go_at_call 28; refine (lent_at' _ dat w1 (X1.out.rd HD.out) HDL.out).mono ?_
             rintro e w2 ⟨rfl, l, x, lt⟩
             have L2 := Lib.hid l
             have X2 := Lib.hid x
             have Z2 := Lib.hid lt
             have c2 := x.cell HC.out.1
             have c3 := x.cell HC.out.2
             have D2 := Lib.hid (D1.out.ext x)
             have R2 := Lib.hid (R1.out.ext x)
             have HC2 := Lib.hid (And.intro (x.cell HC.out.1) (x.cell HC.out.2))
             clear l x lt)
          | (go_at_call 27; refine (write_ok D2.out a _ dat HPW.out HA.out H64.out L2.out.rd (X1.out.trans X2.out).size HEB.out.2).mono ?_
             rintro e w3 ⟨rfl, rv', p1, p2, p3⟩
             have D3 := Lib.hid p1
             have O3 := Lib.hid p2
             have N3 := Lib.hid p3
             have R3 := Lib.hid (R2.out.after D2.out p2)
             have L3 : Hid (LentAt w3 w1.heap.size dat) := p2.blk L2.out (fun hm => by
               obtain ⟨c, t, hb, ht⟩ := D2.out.types _ hm
               have e := Blk.type L2.out hb
               subst e
               rcases ht with h | h | h <;> exact absurd h (by decide))
             have hmm : ∀ k, mine g sb rv k → w0.heap.size ≤ k := fun k hk => HH.out.lo k (Or.inl hk)
             have X3 : Hid (Ext w0 w3) := (X1.out.trans X2.out).of_only p2 hmm
             have c3 : w3.cell? ⟨w.heap.size, 3, none⟩ = some (.slice da dat.length dc) := by
               have hlt : w.heap.size < w2.heap.size := World.block_lt_of_cell? w2 _ HC2.out.2
               have hb := p2.block w.heap.size hlt (fun hm => by have := HH.out.lt _ (Or.inl hm); omega)
               have h2 := HC2.out.2
               unfold World.cell? at h2 ⊢
               rw [hb]
               exact h2
             clear p1 p2 p3 hmm)
          | (go_at_call 25; refine (num_calls _ _).mono ?_; rintro e w99 ⟨rfl, rfl⟩)
          | (go_at_call 41; refine (kept_at _ dat _ w3 L3.out (X3.out.rd HD.out) HDL.out).mono ?_
             rintro e w4 ⟨rfl, n4, h4⟩
             have X4 : Hid (Ext w3 w4) := by rw [← h4]; exact (Ext.refl w3).drewN n4
             clear h4)
          | (go_at_call 37; refine (over_spn _ _ _ dat 5 w4 ((show LentAt w4 _ dat from Blk.ext L3.out X4.out).spn HDL.out) rfl (by have := HDL.out; omega)).mono ?_
             rintro e w5 ⟨rfl, k⟩
             have K5 := Lib.hid k
             clear k)
          | fail)
        go_ret
        have hls := HH.out.less HPW.out
        have hsz : w.heap.size ≤ (w.alloc (.cells #[ci who, ci 0, ci a, .slice da dat.length dc, .slice ka kn kc, ci torn, ci cut] 60)).heap.size := HX.out.size
        have hw0 := HH.out.x.size
        have h1 := O1.out.size
        have h2 := Z2.out
        have hq3 : PQ w0 w3 g sb rv' m rsb rsc pv' (E ++ [⟨a, v', dat⟩]) (lessL left) (writeD d a dat) := ⟨X3.out, D3.out, R3.out, by rw [wR_snoc, HH.out.e]; rfl, hls.1, hls.2, HH.out.b⟩
        have hk' : ∀ y, kk g sb rv' m rsb pv' (E ++ [⟨a, v', dat⟩]) y → y ≠ w1.heap.size := fun y hy e => by
          rcases hy with hy | hy
          · rcases hy with rfl | rfl | hy
            · have := HH.out.lt y (Or.inl (Or.inl rfl)); omega
            · have := HH.out.lt y (Or.inl (Or.inr (Or.inl rfl))); omega
            · rcases N3.out y hy with h | h
              · have := HH.out.lt y (Or.inl (Or.inr (Or.inr h))); omega
              · omega
          · have := R1.out.lt y hy
            omega
        have hq5 := (hq3.ext X4.out).over K5.out (by omega) hk'
        refine ⟨rfl, sb, rv', rsb, rsc, pv', E ++ [⟨a, v', dat⟩], lessL left, writeD d a dat, hq5, ?_, ?_, fun k hk => ?_⟩
        · show (d.R ++ [(a, dat)]).length ≤ j + 1
          rw [List.length_append, List.length_singleton]
          omega
        · have o1 : Only w w1 (kk g sb rv m rsb pv E) := HX.out.only.trans (O1.out.mono (fun k hk => Or.inr (HM1.out k hk)))
          have o3 : Only w w3 (kk g sb rv m rsb pv E) := (o1.ext X2.out).trans (O3.out.mono (fun k hk => Or.inl hk))
          refine (o3.ext X4.out).trans' (grown_only' K5.out) (fun i hi e => ?_)
          have e : i = w1.heap.size := e
          omega
        · rcases hk with hk | hk
          · rcases hk with rfl | rfl | hk
            · exact Or.inl (Or.inl (Or.inl rfl))
            · exact Or.inl (Or.inl (Or.inr (Or.inl rfl)))
            · rcases N3.out k hk with h | h
              · exact Or.inl (Or.inl (Or.inr (Or.inr h)))
              · exact Or.inr (by omega)
          · rcases hk with rfl | rfl | hk | ⟨x, hx, hk⟩
            · exact Or.inl (Or.inr (Or.inl rfl))
            · exact Or.inl (Or.inr (Or.inr (Or.inl rfl)))
            · rcases N1.out.1 k hk with h | h
              · exact Or.inl (Or.inr (Or.inr (Or.inr (Or.inl h))))
              · exact Or.inr (by omega)
            · rcases List.mem_append.1 hx with hx | hx
              · exact Or.inl (Or.inr (Or.inr (Or.inr (Or.inr ⟨x, hx, hk⟩))))
              · rw [List.mem_singleton.1 hx] at hk
                have := N1.out.2 k hk
                exact Or.inr (by omega)
      · exact step_write_no h hj who (a : Int) torn cut 82 da ka dat dc kn kc hd hdl (fun wx hq => rwrite_size hq.r a da dat.length dc hl ha h64 (by unfold maxLen; omega)) (fun wx b c hq => write_size hq.p a _ dat.length c hp ha h64 (by unfold maxLen; omega))
end
end Go.Proofs.Ytjcbmlpfpcpakaa
