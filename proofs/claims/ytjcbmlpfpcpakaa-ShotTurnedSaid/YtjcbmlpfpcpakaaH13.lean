/- Layer 12 (shot): Save, the walk. -/
import Derived.Test.YtjcbmlpfpcpakaaH12
import Derived.Shelf.Abstract
namespace Go.Proofs.Ytjcbmlpfpcpakaa
open Go Go.RowKit
set_option linter.unusedVariables false
set_option linter.unusedSimpArgs false
attribute [local go_sem] Oper.semAt_some
theorem runA_go {d dc : Dk} {r : List Act1} {x : Act1} (h : runA d r = (dc, true)) (hp : powP dc = 0) : runA d (r ++ [x]) = (act1 dc x, true) := by
  rw [runA_append, h]
  simp only [if_true]
  rw [runA_cons, if_pos hp, runA_nil]
theorem runA_stop {d dc : Dk} {r s : List Act1} {x : Act1} (h : runA d r = (dc, true)) (hp : ¬ powP dc = 0) : runA d (r ++ x :: s) = (dc, false) := by
  rw [runA_append, h]
  simp only [if_true]
  rw [runA_cons, if_neg hp]
theorem wpf_seq' {P : Program} {f : FuncId} {x y : Code} {Q : Exit → Act → World → Prop} {a : Act} {w : World}
    (h : ∀ (F : Act → World → Prop) (Qf : Exit → Act → World → Prop), Hid (∀ a w, wpf f P y Q a w → F a w) → Hid (∀ e a w, Q e a w → Qf e a w) → x.wp P (Exit.then F Qf) a w) : wpf f P (.seq x y) Q a w :=
  wpf_seq (wpf_of_wp (h _ _ (fun _ _ h => h) (fun _ _ _ h => h)))
theorem wpf_seq'' {P : Program} {f : FuncId} {x y : Code} {Q : Exit → Act → World → Prop} {a : Act} {w : World}
    (h : ∀ (F : Act → World → Prop) (Qf : Exit → Act → World → Prop), Hid (∀ a w, wpf f P y Q a w → F a w) → Hid (∀ e a w, Q e a w → Qf e a w) → wpf f P x (Exit.then F Qf) a w) : wpf f P (.seq x y) Q a w :=
  wpf_seq (h _ _ (fun _ _ h => h) (fun _ _ _ h => h))
theorem wpf_mono {P : Program} {f : FuncId} {x : Code} {Q Q' : Exit → Act → World → Prop} {a : Act} {w : World} (h : wpf f P x Q a w) (hq : ∀ e a w, Q e a w → Q' e a w) : wpf f P x Q' a w :=
  fun b k cs hb => let ⟨e, a', w', q, r⟩ := h b k cs hb; ⟨e, a', w', hq _ _ _ q, r⟩
theorem wpf_seq_cut {P : Program} {f : FuncId} {x y : Code} {Q : Exit → Act → World → Prop} {a : Act} {w : World} (RES : Act → World → Prop)
    (h : ∀ (F : Act → World → Prop) (Qf : Exit → Act → World → Prop), Hid (∀ a w, RES a w → F a w) → Hid (∀ e a w, Q e a w → Qf e a w) → x.wp P (Exit.then F Qf) a w) (hy : ∀ a w, RES a w → wpf f P y Q a w) : wpf f P (.seq x y) Q a w :=
  wpf_seq (wpf_of_wp (h _ _ (fun a w hr => hy a w hr) (fun _ _ _ h => h)))
theorem wp_ret_leaves {P : Program} {f : Func} {R : Ending → World → Prop} {tmps : Array Value} {ds : List Deferred} {W : World} (h : LeavesM P f tmps R ds .returning W) : Code.ret.wp P (bodyPostN P f R) { tmps := tmps, defers := ds } W := wp_ret h
section
variable {a : Operand → Value} {ds : Option Nat} {ty : TypeId} {ps : String} {af : Array Edge} {gd : Option (Nat × Bool)} {w : World} {x y : Operand}
theorem exec_alloc146 : (execOp a ⟨ds, .alloc 146, ty, ps, af, gd⟩).run Try.prog w = .ok (.value (.pointer (some ⟨w.heap.size, 0, none⟩))) (w.alloc (.cells (V cb (zer 64)) 146)) := by
  have hr : (Instr.alloc 146 true (.tuple #[])).run Try.prog w = .ok (.pointer (some ⟨w.heap.size, 0, none⟩)) (w.alloc (.cells (V cb (zer 64)) 146)) := by
    have hcc : (Value.agg (V cb (zer 64))).cells = V cb (zer 64) := rfl
    have hz := A146.zero w
    rw [V_zer64] at hz
    unfold Instr.alloc
    simp [Sem.run_bind, hz, Result.andThen_ok, newVar, newRow, hcc]
  unfold execOp
  simp only [Sem.run_bind, hr, Result.andThen_ok]
  rfl
theorem exec_load146 (b off : Nat) (l : List (BitVec 8)) (hl : l.length = 64) (hx : a x = .pointer (some ⟨b, off, none⟩)) (hr : w.rangeAt b off (l.map cb)) :
    (execOp a ⟨ds, .load 146 x, ty, ps, af, gd⟩).run Try.prog w = .ok (.value (.agg (V cb l))) w := by
  have h : (Instr.loadAt 146 (.pointer (some ⟨b, off, none⟩))).run Try.prog w = .ok (.agg (V cb l)) w := by
    rw [V_eq]
    exact run_loadAt_mid w b off 146 (l.map cb) _ hr Try.u146 rfl (by rw [List.length_map, hl]; exact Try.size146)
  unfold execOp
  simp only [hx, Sem.run_bind, h, Result.andThen_ok]
  rfl
theorem copy_run64 (W : World) (B : Nat) (hb : Blk W B (V cb (zer 64)) 146) (b off c : Nat) (l : By) (hr : W.rangeAt b off (l.map cb)) (hl : l.length ≤ 64) (ty : TypeId) :
    (Builtin.copy_ #[36, 36] ty #[.slice (some ⟨B, 0, none⟩) 64 64, .slice (some ⟨b, off, none⟩) l.length c]).run Try.prog W = .ok (ci l.length) (W.setRow B (V cb (l ++ zer (64 - l.length)))) := by
  obtain ⟨i5, j1, j2, j3, j4⟩ := info_parts Try.info5
  have h := run_copy_row (P := Try.prog) W 36 36 ty 5 B 0 64 64 ⟨b, off, none⟩ l.length c (V cb (zer 64)) 146 (l.map cb) Try.u36 (by rw [j1]; simp [j3]) hb (by rw [List.length_map]; exact (Nat.min_eq_left hl).symm)
    (fun j v hj => by rw [Addr.add_mid]; exact hr j v hj) (by rw [List.length_map, V_size, zer_len]; omega) (cb_ones l)
  have e : ((V cb (zer 64)).toList.take 0 ++ l.map cb ++ (V cb (zer 64)).toList.drop (0 + (l.map cb).length)).toArray = V cb (l ++ zer (64 - l.length)) := by
    apply Array.ext'
    rw [V_toList, V_toList, List.take_zero, List.nil_append, List.map_append, List.length_map, ← List.map_drop, Nat.zero_add, zer_eq, zer_eq, List.drop_replicate]
  rw [e, List.length_map] at h
  exact h
end
def bodyK (at' : Nat) (data : By) (k : Nat) : List Act1 := (List.range k).map fun i => .w (at' + 1 + i) (pieceB data i)
theorem bodyK_zero (at' : Nat) (data : By) : bodyK at' data 0 = [] := rfl
theorem bodyK_succ (at' : Nat) (data : By) (k : Nat) : bodyK at' data (k + 1) = bodyK at' data k ++ [.w (at' + 1 + k) (pieceB data k)] := by
  unfold bodyK; rw [List.range_succ, List.map_append]; rfl
theorem bodyA_eq (at' : Nat) (data : By) : bodyA at' data = bodyK at' data (secsN data.length) := rfl
theorem bodyK_split (at' : Nat) (data : By) (k m : Nat) (h : k < m) : ∃ s, bodyK at' data m = bodyK at' data k ++ .w (at' + 1 + k) (pieceB data k) :: s := by
  obtain ⟨j, rfl⟩ : ∃ j, m = k + 1 + j := ⟨m - k - 1, by omega⟩
  induction j with
  | zero => exact ⟨[], by rw [Nat.add_zero, bodyK_succ]⟩
  | succ j ih =>
    obtain ⟨s, hs⟩ := ih (by omega)
    exact ⟨s ++ [.w (at' + 1 + (k + 1 + j)) (pieceB data (k + 1 + j))], by rw [← Nat.add_assoc (k + 1) j 1, bodyK_succ, hs]; simp⟩
theorem pieceB_eq (data : By) (i : Nat) : pieceB data i = (data.drop (64 * i)).take 64 ++ zer (64 - ((data.drop (64 * i)).take 64).length) := by unfold pieceB; rfl
attribute [irreducible] bodyK
theorem chunk_none (l bs bn : Nat) (a : Option Addr) (c : Nat) (W : World) (h : W.cell? ⟨bs, 0, none⟩ = some (.slice a 0 c)) :
    Calls Try.prog 144 #[.func (.yield l) #[] #[], .pointer (some ⟨bs, 0, none⟩), .pointer (some ⟨bn, 0, none⟩)] W fun e W' => (∃ v, e = .returned v) ∧ W = W' := by
  go_enter Try.func144, Try.ntmps144
  go_wp2_with fail
  refine wp_loop_once ?_
  go_wp2_with fail
  go_end0
  exact ⟨⟨_, rfl⟩, rfl⟩
/-- between two rounds of a Save -/
structure RI (w0 w W : World) (g sb o fr size gen : Nat) (dv : Value) (data : By) (d : Dk) (at' k bc : Nat) (pfx : List Act1) (dc : Dk) : Prop where
  run : runA d (pfx ++ bodyK at' data k) = (dc, true)
  si : SI w0 w W g sb o fr size gen dv data dc
  c : Blk W bc #[ci (at' + k : Nat)] 3
  s : Blk W (bc + 1) #[dv] 36
  n : Blk W (bc + 1 + 1) #[ci 64] 3
  dn : dc.n = d.n
  dr : dc.R.length ≤ d.R.length + 1 + k
theorem RI.ext {w0 w W W' : World} {g sb o fr size gen : Nat} {dv : Value} {data : By} {d : Dk} {at' k bc : Nat} {pfx : List Act1} {dc : Dk} (h : RI w0 w W g sb o fr size gen dv data d at' k bc pfx dc) (e : Ext W W') : RI w0 w W' g sb o fr size gen dv data d at' k bc pfx dc :=
  ⟨h.run, h.si.ext e, h.c.ext e, h.s.ext e, h.n.ext e, h.dn, h.dr⟩
theorem RI.put {w0 w W : World} {g sb o fr size gen : Nat} {dv : Value} {data : By} {d : Dk} {at' k bc : Nat} {pfx : List Act1} {dc : Dk} (h : RI w0 w W g sb o fr size gen dv data d at' k bc pfx dc) {r : Nat} {ob : Obj} (x : Obj) (hr : W.heap[r]? = some ob) (ho : ob.isCells = false) (h0 : w0.heap.size ≤ r) : RI w0 w (W.putObj r x) g sb o fr size gen dv data d at' k bc pfx dc :=
  ⟨h.run, h.si.put x hr ho h0, h.c.put x hr ho, h.s.put x hr ho, h.n.put x hr ho, h.dn, h.dr⟩
theorem zer64_lit : V cb (zer 64) = #[.int .u8 0, .int .u8 0, .int .u8 0, .int .u8 0, .int .u8 0, .int .u8 0, .int .u8 0, .int .u8 0, .int .u8 0, .int .u8 0, .int .u8 0, .int .u8 0, .int .u8 0, .int .u8 0, .int .u8 0, .int .u8 0, .int .u8 0, .int .u8 0, .int .u8 0, .int .u8 0, .int .u8 0, .int .u8 0, .int .u8 0, .int .u8 0, .int .u8 0, .int .u8 0, .int .u8 0, .int .u8 0, .int .u8 0, .int .u8 0, .int .u8 0, .int .u8 0, .int .u8 0, .int .u8 0, .int .u8 0, .int .u8 0, .int .u8 0, .int .u8 0, .int .u8 0, .int .u8 0, .int .u8 0, .int .u8 0, .int .u8 0, .int .u8 0, .int .u8 0, .int .u8 0, .int .u8 0, .int .u8 0, .int .u8 0, .int .u8 0, .int .u8 0, .int .u8 0, .int .u8 0, .int .u8 0, .int .u8 0, .int .u8 0, .int .u8 0, .int .u8 0, .int .u8 0, .int .u8 0, .int .u8 0, .int .u8 0, .int .u8 0, .int .u8 0] := by rw [← V_zer64]; rfl
section
variable {w0 w : World} {g sb o fr size gen : Nat} {dead : Bool} {d : Dk}
set_option maxRecDepth 100000 in
set_option maxHeartbeats 8000000 in
theorem save_ok (h : DX w0 w g sb d) (k : Blk w o (sc g fr size gen false) 143) (h0o : w0.heap.size ≤ o) (dv : Value) (data : By) (hrd : Rd w cb dv data) (hcap : ∀ a n c, dv = .slice a n c → n ≤ c) (hdvb : ∀ b, dv.ownBlock = some b → ∃ c T, Blk w b c T ∧ b ≠ g ∧ b ≠ sb ∧ T ≠ 134)
    (hl : data.length ≤ 64 * (size - 1)) (hg : gen < 1099511627776) (h2 : 2 ≤ size) (hs : size ≤ 65536) (hr : fr + 2 * size ≤ d.n) (hm : (d.R.length + 65540) * 72 ≤ 140737488355328) :
    Calls Try.prog 50 #[.pointer (some ⟨o, 0, none⟩), dv] w fun e w' =>
      e = .returned (ci (if (saveP d (slotN fr size (gen + 1)) (gen + 1) data).2 then 0 else 80)) ∧ DX w0 w' g sb (saveP d (slotN fr size (gen + 1)) (gen + 1) data).1 ∧
      Blk w' o (sc g fr size (if (saveP d (slotN fr size (gen + 1)) (gen + 1) data).2 then gen + 1 else gen) (!(saveP d (slotN fr size (gen + 1)) (gen + 1) data).2)) 143 ∧ Kz g sb o w w' := by
  have hmf : ∀ (fn : Fn) (first cap : Array Value) (w : World), (Instr.makeFunc fn first cap).run Try.prog w = .ok (.func fn first cap) w := fun _ _ _ _ => rfl
  obtain ⟨r, hr'⟩ : ∃ r, saveP d (slotN fr size (gen + 1)) (gen + 1) data = r := ⟨_, rfl⟩
  rw [hr']
  have HRR := Lib.hid hr'
  obtain ⟨va, vc, rfl⟩ := hrd.form
  have hvc := hcap _ _ _ rfl
  have HVC := Lib.hid hvc
  clear hcap hvc
  have hn2 := h.ok.n2
  have E2 : ∀ w1 : World, Ext w w1 → SI w0 w w1 g sb o fr size gen (.slice va data.length vc) data d ∨ True := fun _ _ => Or.inr trivial
  have hsz : w.heap.size + 1 = (w.alloc (.cells #[.pointer (some ⟨o, 0, none⟩)] 68)).heap.size := by show _ = (w.heap.push _).size; exact (Array.size_push _).symm
  have S0 : SI w0 w ((w.alloc (.cells #[.pointer (some ⟨o, 0, none⟩)] 68)).alloc (.cells #[ci 0] 29)) g sb o fr size gen (.slice va data.length vc) data d := by
    have b2 := Blk.new (w.alloc (.cells #[.pointer (some ⟨o, 0, none⟩)] 68)) #[ci 0] 29
    rw [← hsz] at b2
    have e : Ext w ((w.alloc (.cells #[.pointer (some ⟨o, 0, none⟩)] 68)).alloc (.cells #[ci 0] 29)) := Ext.of_alloc2 _ _
    exact ⟨h.ext e, k.ext e, b2, (Blk.new w _ 68).alloc _, e.rd hrd, fun b hb => by obtain ⟨c, T, k1, q1, q2, q3⟩ := hdvb b hb; exact ⟨c, T, k1.ext e, q1, q2, q3, k1.lt⟩, Kz.ext e⟩
  obtain ⟨W0, hW0⟩ : ∃ W0, (w.alloc (.cells #[.pointer (some ⟨o, 0, none⟩)] 68)).alloc (.cells #[ci 0] 29) = W0 := ⟨_, rfl⟩
  rw [hW0] at S0
  have HS0 := Lib.hid S0
  have h0 := h.e.size
  have H0 := Lib.hid h0
  have c1 : W0.cell? ⟨w.heap.size, 0, none⟩ = some (.pointer (some ⟨o, 0, none⟩)) := S0.sp.cell 0
  have c2 : W0.cell? ⟨o, 4, none⟩ = some (.bool false) := S0.ob.cell 4
  have c3 : W0.cell? ⟨o, 3, none⟩ = some (ci gen) := S0.ob.cell 3
  have HM := Lib.hid (smost_calls S0.ob h2 hs)
  obtain ⟨M, hM⟩ : ∃ M, 64 * (size - 1) = M := ⟨_, rfl⟩
  rw [hM] at HM
  have l1 : ¬ ((M : Nat) : Int) < data.length := by omega
  have l1' : decide (((M : Nat) : Int) < data.length) = false := decide_eq_false l1
  have l1'' : decide (M < data.length) = false := decide_eq_false (by omega)
  have HMM := Lib.hid hM
  clear hM
  have l2 : ¬ (1099511627776 : Int) ≤ gen := by omega
  have l2' : decide ((1099511627776 : Int) ≤ gen) = false := decide_eq_false l2
  have HW0 := Lib.hid hW0
  have Hm := Lib.hid hm
  have Hl := Lib.hid hl
  have Hr := Lib.hid hr
  clear hm hl hr h0
  clear S0 h k hrd hdvb E2 hsz hW0 hr'
  refine calls_of_wpf Try.func50 rfl ?_
  simp only [Try.ntmps50, List.size_toArray, List.length_cons, List.length_nil, Nat.reduceAdd, Nat.reduceSub, Array.replicate_succ, Array.replicate_zero, List.push_toArray, List.append_toArray, List.nil_append, List.cons_append]
  -- the variables, the refusals
  refine wpf_seq' fun F Qf HF HQ => ?_
  go_wp2_with fail
  refine HF.out _ _ ?_
  clear HF HQ F Qf
  rw [HW0.out]
  clear HW0
  refine wpf_seq' fun F Qf HF HQ => ?_
  go_wp2_with (first | (go_at_call 56; refine HM.out.mono ?_; rintro e w1 ⟨rfl, rfl⟩) | fail)
  refine HF.out _ _ ?_
  clear HF HQ F Qf
  -- what is deferred
  refine wpf_seq' fun F Qf HF HQ => ?_
  go_wp2_with fail
  refine HF.out _ _ ?_
  clear HF HQ F Qf HM
  -- the slot
  have hwg : IntKind.i64.wrap ((gen : Int) + 1) = (gen : Int) + 1 := by simp [IntKind.wrap, IntKind.bits, IntKind.signed]; omega
  obtain ⟨at0, hat0⟩ : ∃ a, slotN fr size (gen + 1) = a := ⟨_, rfl⟩
  have ha0 : at0 + size ≤ d.n := by rw [← hat0]; have := Hr.out; unfold slotN; split <;> omega
  have HQS : Hid (∀ m', Calls Try.prog 98 #[.pointer (some ⟨o, 0, none⟩), ci ((gen : Int) + 1)] (W0.drewN m') fun e w' => e = .returned (ci at0) ∧ ∃ n, w' = (W0.drewN m').drewN n) := fun m' => by
    have h := slot_calls (HS0.out.ob.ext ((Ext.refl W0).drewN m')) (gen + 1) (by omega) (by have := Hr.out; omega) hs
    rw [hat0] at h
    exact h.mono fun e w' ⟨a, n, b⟩ => ⟨a, n, b.symm⟩
  rw [hat0] at HRR
  clear hat0
  refine wpf_seq' fun F Qf HF HQ => ?_
  go_quiet (first | (go_at_call 98; exact Calls.quiet_of (HQS.out _)) | fail)
  refine HF.out _ _ ?_
  clear HF HQ F Qf HQS
  have S1 := Lib.hid (HS0.out.ext ((Ext.refl W0).drewN nq))
  clear HS0 c1 c2 c3 l1 l1' l1'' l2 l2' hwg
  obtain ⟨W1, hW1⟩ : ∃ W1, W0.drewN nq = W1 := ⟨_, rfl⟩
  rw [hW1] at S1 ⊢
  clear hW1
  have c1 : W1.cell? ⟨w.heap.size, 0, none⟩ = some (.pointer (some ⟨o, 0, none⟩)) := S1.out.sp.cell 0
  -- the head that is there
  rcases powP_cases d with hp | hp
  rotate_left
  · have hrv : r = (d, false) := by rw [← HRR.out, saveP_eq, if_neg (by rw [hp]; decide)]
    subst hrv
    have HRD := Lib.hid (sread_off S1.out.dx S1.out.ob at0 hp)
    refine wpf_seq' fun F Qf HF HQ => ?_
    go_wp2_with (first | (go_at_call 99; refine HRD.out.mono ?_; rintro e w2 ⟨rfl, e2⟩) | fail)
    refine HQ.out _ _ _ ?_
    clear HF HQ
    exact save_panic_end (S1.out.ext e2) H0.out h0o rfl (fun W' q1 q2 q3 => ⟨rfl, q1, q2, q3⟩)
  have hrv : r = runA d (saveA d at0 (gen + 1) data) := by rw [← HRR.out, saveP_eq, if_pos hp]
  have HRV := Lib.hid hrv
  clear HRR hrv
  have HRD := Lib.hid (sread_ok S1.out.dx S1.out.ob at0 hp (by omega))
  have hfl := Dk.read_len S1.out.dx.ok (show at0 < d.n by omega)
  refine wpf_seq_cut (fun a W => ∃ (u9 u10 u11 u12 u13 u14 u15 u16 u17 u18 u19 u20 u21 u22 u23 u24 u25 u26 u27 u28 u29 u30 u31 u32 u33 u34 u35 u36 u37 u38 u39 u40 u41 u42 u43 u44 u45 u46 u47 : Value) (pfx : List Act1) (dc : Dk), a = { tmps := (.pointer (some ⟨o, 0, none⟩) :: .slice va data.length vc :: .pointer (some ⟨w.heap.size, 0, none⟩) :: undef :: .pointer (some ⟨w.heap.size + 1, 0, none⟩) :: ci at0 :: undef :: undef :: undef :: u9 :: u10 :: u11 :: u12 :: u13 :: u14 :: u15 :: u16 :: u17 :: u18 :: u19 :: u20 :: u21 :: u22 :: u23 :: u24 :: u25 :: u26 :: u27 :: u28 :: u29 :: u30 :: u31 :: u32 :: u33 :: u34 :: u35 :: u36 :: u37 :: u38 :: u39 :: u40 :: u41 :: u42 :: u43 :: u44 :: u45 :: u46 :: u47 :: undef :: undef :: undef :: undef :: undef :: undef :: undef :: undef :: undef :: undef :: undef :: undef :: undef :: undef :: undef :: undef :: undef :: undef :: undef :: undef :: undef :: undef :: undef :: undef :: undef :: undef :: undef :: undef :: undef :: undef :: undef :: undef :: undef :: undef :: []).toArray, defers := [saveClo w] } ∧ Hid (runA d pfx = (dc, true) ∧ saveA d at0 (gen + 1) data = pfx ++ (bodyA at0 data ++ [.y, .w at0 (headB (BitVec.ofNat 64 (gen + 1)) data), .y])) ∧ Hid (SI w0 w W g sb o fr size gen (.slice va data.length vc) data dc) ∧ Hid (dc.n = d.n ∧ dc.R.length ≤ d.R.length + 1)) ?_ ?_
  · intro F Qf HF HQ
    by_cases hz : d.read at0 = zer 64
    · have hEq : ∀ w : World, (Op.equalIn 10000 146 (.agg (V cb (d.read at0))) (.agg (V cb (zer 64)))).run Try.prog w = .ok true w := fun w => by rw [eq146 _ _ hfl (zer_len _), decide_eq_true hz]
      rw [zer64_lit] at hEq
      have HZ := Lib.hid hz
      have HFL := Lib.hid hfl
      clear hz hfl
      go_wp2_with (first | (go_at_call 99; refine HRD.out.mono ?_; rintro e w2 ⟨rfl, e2⟩) | fail)
      refine HF.out _ _ ⟨_, _, _, _, _, _, _, _, _, _, _, _, _, _, _, _, _, _, _, _, _, _, _, _, _, _, _, _, _, _, _, _, _, _, _, _, _, _, _, [], d, rfl, Lib.hid ⟨runA_nil d, by rw [saveA_eq, if_pos HZ.out, List.append_assoc]⟩, Lib.hid (S1.out.ext e2), Lib.hid ⟨rfl, by omega⟩⟩
    · have hEq : ∀ w : World, (Op.equalIn 10000 146 (.agg (V cb (d.read at0))) (.agg (V cb (zer 64)))).run Try.prog w = .ok false w := fun w => by rw [eq146 _ _ hfl (zer_len _), decide_eq_false hz]
      rw [zer64_lit] at hEq
      have HZ := Lib.hid hz
      have HFL := Lib.hid hfl
      clear hz hfl
      have HWR := Lib.hid (fun W (e : Ext W1 W) => swriteN (S1.out.ext e).dx (S1.out.ext e).ob at0 (zer 64) hp (by omega) (zer_len _) (by have := Hm.out; omega))
      rw [zer64_lit] at HWR
      have HSY := Lib.hid (fun W dc (x : DX w0 W g sb dc) (b : Blk W o (sc g fr size gen false) 143) (q : powP dc = 0) => ssyncN x b q)
      have HSF := Lib.hid (fun W dc (x : DX w0 W g sb dc) (b : Blk W o (sc g fr size gen false) 143) (q : powP dc = 80) => ssync_off x b q)
      have HP : Hid (runA d [.w at0 (zer 64)] = (writeD d at0 (zer 64), true) ∧ saveA d at0 (gen + 1) data = [.w at0 (zer 64)] ++ .y :: (bodyA at0 data ++ [.y, .w at0 (headB (BitVec.ofNat 64 (gen + 1)) data), .y])) := by
        refine ⟨by rw [runA_cons, if_pos hp, runA_nil]; rfl, ?_⟩
        rw [saveA_eq, if_neg HZ.out]
        simp
      rcases powP_cases (writeD d at0 (zer 64)) with hp2 | hp2
      rotate_left
      · go_wp2_with (first
          | (go_at_call 99; refine HRD.out.mono ?_; rintro e w2 ⟨rfl, e2⟩
             have c2 : w2.cell? ⟨w.heap.size, 0, none⟩ = some (.pointer (some ⟨o, 0, none⟩)) := (S1.out.ext e2).sp.cell 0)
          | (go_at_call 100; refine (HWR.out _ e2).mono ?_; rintro e w3 ⟨rfl, x3, k3, _⟩
             have S3 := Lib.hid ((S1.out.ext e2).kp x3 k3)
             have c3 : w3.cell? ⟨w.heap.size, 0, none⟩ = some (.pointer (some ⟨o, 0, none⟩)) := S3.out.sp.cell 0)
          | (go_at_call 101; refine (HSF.out _ _ S3.out.dx S3.out.ob hp2).mono ?_; rintro e w4 ⟨rfl, rfl⟩)
          | fail)
        refine HQ.out _ _ _ ?_
        clear HF HQ
        have hrv : r = (writeD d at0 (zer 64), false) := by rw [HRV.out, HP.out.2, runA_stop HP.out.1 (by rw [hp2]; decide)]
        subst hrv
        exact save_panic_end S3.out H0.out h0o rfl (fun W' q1 q2 q3 => ⟨rfl, q1, q2, q3⟩)
      go_wp2_with (first
        | (go_at_call 99; refine HRD.out.mono ?_; rintro e w2 ⟨rfl, e2⟩
           have c2 : w2.cell? ⟨w.heap.size, 0, none⟩ = some (.pointer (some ⟨o, 0, none⟩)) := (S1.out.ext e2).sp.cell 0)
        | (go_at_call 100; refine (HWR.out _ e2).mono ?_; rintro e w3 ⟨rfl, x3, k3, _⟩
           have S3 := Lib.hid ((S1.out.ext e2).kp x3 k3)
           have c3 : w3.cell? ⟨w.heap.size, 0, none⟩ = some (.pointer (some ⟨o, 0, none⟩)) := S3.out.sp.cell 0)
        | (go_at_call 101; refine (HSY.out _ _ S3.out.dx S3.out.ob hp2).mono ?_; rintro e w4 ⟨rfl, x4, k4, _⟩
           have S4 := Lib.hid (S3.out.kp x4 k4))
        | fail)
      refine HF.out _ _ ⟨_, _, _, _, _, _, _, _, _, _, _, _, _, _, _, _, _, _, _, _, _, _, _, _, _, _, _, _, _, _, _, _, _, _, _, _, _, _, _, [.w at0 (zer 64), .y], syncD (writeD d at0 (zer 64)), rfl, Lib.hid ⟨runA_go HP.out.1 hp2, by rw [HP.out.2]; simp⟩, S4, Lib.hid ⟨rfl, by simp [syncD]⟩⟩
  rintro a W2 ⟨u9, u10, u11, u12, u13, u14, u15, u16, u17, u18, u19, u20, u21, u22, u23, u24, u25, u26, u27, u28, u29, u30, u31, u32, u33, u34, u35, u36, u37, u38, u39, u40, u41, u42, u43, u44, u45, u46, u47, pfx, d1, rfl, HP, S2, HN⟩
  clear HRD S1 c1 hfl
  have h0w := S2.out.fr.1
  have HSZ : (W2.alloc (.cells #[ci at0] 3)).heap.size = W2.heap.size + 1 := by show (W2.heap.push _).size = _; exact Array.size_push _
  have HSZ2 : ((W2.alloc (.cells #[ci at0] 3)).alloc (.cells #[.slice va data.length vc] 36)).heap.size = W2.heap.size + 1 + 1 := by show (Array.push _ _).size = _; rw [Array.size_push]; exact congrArg (· + 1) HSZ
  have bc := Blk.new W2 #[ci at0] 3
  have bs := Blk.new (W2.alloc (.cells #[ci at0] 3)) #[.slice va data.length vc] 36
  have bn := Blk.new ((W2.alloc (.cells #[ci at0] 3)).alloc (.cells #[.slice va data.length vc] 36)) #[ci 64] 3
  rw [HSZ] at bs
  rw [HSZ2] at bn
  have S3 : SI w0 w (((W2.alloc (.cells #[ci at0] 3)).alloc (.cells #[.slice va data.length vc] 36)).alloc (.cells #[ci 64] 3)) g sb o fr size gen (.slice va data.length vc) data d1 := S2.out.ext (Ext.of_alloc3 _ _ _)
  have HC := Lib.hid (chunk_calls va data.length vc (W2.alloc (.cells #[ci at0] 3)))
  rw [HSZ] at HC
  have bc3 := (bc.alloc (.cells #[.slice va data.length vc] 36)).alloc (.cells #[ci 64] 3)
  have bs3 := bs.alloc (.cells #[ci 64] 3)
  obtain ⟨W3, hW3⟩ : ∃ W3, ((W2.alloc (.cells #[ci at0] 3)).alloc (.cells #[.slice va data.length vc] 36)).alloc (.cells #[ci 64] 3) = W3 := ⟨_, rfl⟩
  rw [hW3] at S3 bn bc3 bs3 HC
  have HB := Lib.hid (And.intro bc3 (And.intro bs3 bn))
  have HS3 := Lib.hid S3
  have HWS := Lib.hid h0w
  clear bc bs bn bc3 bs3 HSZ HSZ2 S3 hW3 h0w
  refine wpf_seq' fun F Qf HF HQ => ?_
  go_wp2_with fail
  refine HF.out _ _ ?_
  clear HF HQ F Qf
  refine wpf_seq'' fun F Qf HF HQ => ?_
  refine wpf_seq' fun F2 Qf2 HF2 HQ2 => ?_
  go_wp2_with (first | (go_at_call 102; refine HC.out.mono ?_; rintro e w5 ⟨rfl, rfl⟩) | fail)
  refine HF2.out _ _ ?_
  clear HF2 HQ2 F2 Qf2 HC
  refine wpf_block ?_
  have hdl : data.length ≤ 4194304 := by have := Hl.out; omega
  have HDLN := Lib.hid hdl
  have hsn : secsN data.length ≤ size - 1 := by have := Hl.out; unfold secsN; omega
  have HSN := Lib.hid hsn
  have HPC : Hid (∃ pc : Nat → Value, ((∃ b off, va = some ⟨b, off, none⟩ ∧ pc = pieceV b off data.length) ∨ data.length = 0)) := by
    by_cases h0 : data.length = 0
    · exact ⟨fun _ => undef, Or.inr h0⟩
    · rcases S2.out.rd with ⟨a', c', e, h1, _⟩ | ⟨b, off, c', n', e, h1, _⟩
      · exact absurd (by rw [h1]; rfl) h0
      · injection e with e1 _ _
        exact ⟨_, Or.inl ⟨b, off, e1, rfl⟩⟩
  obtain ⟨pc, hpc⟩ := HPC.out
  refine wpf_rounds (gf := 144) (lb := #[.pointer (some ⟨W2.heap.size + 1, 0, none⟩), .pointer (some ⟨W2.heap.size + 1 + 1, 0, none⟩)]) Try.func50 (enters_of Try.func144 (by kernel_rfl) rfl) rfl rfl 0 (secsN data.length) (secsN data.length) pc
    (fun k W => ∃ dc, RI w0 w W g sb o fr size gen (.slice va data.length vc) data d at0 k W2.heap.size pfx dc)
    (fun ch W => ch = [flt 80] ∧ ∃ dc, r = (dc, false) ∧ SI w0 w W g sb o fr size gen (.slice va data.length vc) data dc)
    (fun k W W' ⟨dc, h⟩ e => ⟨dc, h.ext e⟩) (fun k W r' ob' ob ⟨dc, h⟩ h1 h2 h3 => ⟨dc, h.put ob' h2 h3 (by have := HWS.out; have := HS3.out.fr.1; have := H0.out; omega)⟩)
    ⟨d1, ⟨by rw [bodyK_zero, List.append_nil]; exact HP.out.1, HS3.out, HB.out.1, HB.out.2.1, HB.out.2.2, HN.out.1, HN.out.2⟩⟩ (fun v => { tmps := (.pointer (some ⟨o, 0, none⟩) :: .slice va data.length vc :: .pointer (some ⟨w.heap.size, 0, none⟩) :: undef :: .pointer (some ⟨w.heap.size + 1, 0, none⟩) :: ci at0 :: .pointer (some ⟨W2.heap.size, 0, none⟩) :: v :: undef :: u9 :: u10 :: u11 :: u12 :: u13 :: u14 :: u15 :: u16 :: u17 :: u18 :: u19 :: u20 :: u21 :: u22 :: u23 :: u24 :: u25 :: u26 :: u27 :: u28 :: u29 :: u30 :: u31 :: u32 :: u33 :: u34 :: u35 :: u36 :: u37 :: u38 :: u39 :: u40 :: u41 :: u42 :: u43 :: u44 :: u45 :: u46 :: u47 :: ci at0 :: .slice va data.length vc :: .func (.func 144) #[] #[.pointer (some ⟨W2.heap.size + 1, 0, none⟩), .pointer (some ⟨W2.heap.size + 1 + 1, 0, none⟩)] :: v :: undef :: undef :: undef :: undef :: undef :: undef :: undef :: undef :: undef :: undef :: undef :: undef :: undef :: undef :: undef :: undef :: undef :: undef :: undef :: undef :: undef :: undef :: undef :: undef :: undef :: undef :: undef :: undef :: undef :: undef :: []).toArray, defers := [] }) ?iter ?assign ?body ?done ?pan
  case iter =>
    intro l J Jp hJI hJd hY W hJ0
    rcases hpc with ⟨b, off, hva, rfl⟩ | h0
    · subst hva
      exact chunk_rounds 0 l _ _ b off data.length vc (by have := HDLN.out; omega) J Jp (fun k W h => by obtain ⟨dc, q⟩ := hJI k W h; exact ⟨q.s.cell 0, q.n.cell 0⟩) hJd HVC.out (fun k W h hk => hY k W h (by unfold secsN; omega)) W hJ0
    · obtain ⟨dc, q⟩ := hJI 0 W hJ0
      have c := q.s.cell 0
      rw [h0] at c ⊢
      refine (chunk_none l _ _ va vc W c).mono ?_
      rintro e W' ⟨⟨v, rfl⟩, rfl⟩
      exact Or.inl ⟨v, rfl, hJ0⟩
  case assign =>
    intro l v W K hK
    gi_wp2
    exact hK
  case body =>
    rintro l k W ⟨dc, q⟩ hk
    rcases hpc with ⟨b, off, hva, rfl⟩ | h0
    rotate_left
    · rw [h0] at hk
      unfold secsN at hk
      omega
    subst hva
    have hk2 : 64 * k < data.length := by unfold secsN at hk; omega
    obtain ⟨P, hP⟩ : ∃ P, (data.drop (64 * k)).take 64 = P := ⟨_, rfl⟩
    have hPl : min 64 (data.length - 64 * k) = P.length := by rw [← hP, List.length_take, List.length_drop]
    have hpe : P ++ zer (64 - P.length) = pieceB data k := by rw [pieceB_eq, hP]
    have hrg : W.rangeAt b (off + 64 * k) (P.map cb) := fun j v hv => by
      have hj : j < P.length := by have := (List.getElem?_eq_some_iff.1 hv).1; simpa using this
      have h1 := Rd.cell_is (Rd.dropL (c' := 0) q.si.rd (by omega : 64 * k ≤ data.length)) j (by rw [List.length_drop]; omega)
      rw [h1, ← hv, List.getElem?_map]
      have h2 : P[j]? = (data.drop (64 * k))[j]? := by rw [← hP, List.getElem?_take, if_pos (by omega)]
      rw [h2, List.getElem?_eq_getElem (by rw [List.length_drop]; omega)]
      rfl
    have hPl64 : P.length ≤ 64 := by omega
    have hps : pieceV b off data.length k = .slice (some ⟨b, off + 64 * k, none⟩) P.length P.length := by unfold pieceV; rw [hPl]
    rw [hps]
    have HRG := Lib.hid hrg
    have HQ0 := Lib.hid q
    have HPE := Lib.hid hpe
    have HPL := Lib.hid hPl64
    have cc : W.cell? ⟨W2.heap.size, 0, none⟩ = some (ci (at0 + k : Nat)) := q.c.cell 0
    have cf := q.c.free 0
    have cs0 : W.cell? ⟨w.heap.size, 0, none⟩ = some (.pointer (some ⟨o, 0, none⟩)) := q.si.sp.cell 0
    have hkb : (k : Int) ≤ 65536 := by have := HSN.out; omega
    clear hP hPl hpe hrg hPl64 q hps
    have HWR : Hid (∀ W7 dcc (x : DX w0 W7 g sb dcc) (bb : Blk W7 o (sc g fr size gen false) 143) (hq : powP dcc = 0) (hdn : dcc.n = d.n) (hdr : dcc.R.length ≤ d.R.length + 1 + k), Calls Try.prog 100 #[.pointer (some ⟨o, 0, none⟩), ci ((at0 : Int) + k + 1), .agg (V cb (pieceB data k))] W7 fun e w' => e = .returned (.tuple #[]) ∧ DX w0 w' g sb (writeD dcc (at0 + 1 + k) (pieceB data k)) ∧ Kp g sb W7 w' ∧ Nc W7 w') := fun W7 dcc x bb hq hdn hdr => by
      have e : (at0 : Int) + k + 1 = ((at0 + 1 + k : Nat) : Int) := by omega
      rw [e]
      exact swriteN x bb (at0 + 1 + k) (pieceB data k) hq (by rw [hdn]; have := HSN.out; omega) (pieceB_len data k) (by have := Hm.out; have := HSN.out; omega)
    have HWF : Hid (∀ W7 dcc (x : DX w0 W7 g sb dcc) (bb : Blk W7 o (sc g fr size gen false) 143) (hq : powP dcc = 80), Calls Try.prog 100 #[.pointer (some ⟨o, 0, none⟩), ci ((at0 : Int) + k + 1), .agg (V cb (pieceB data k))] W7 fun e w' => e = .panicked [flt 80] ∧ Ext W7 w') := fun W7 dcc x bb hq => by
      have e : (at0 : Int) + k + 1 = ((at0 + 1 + k : Nat) : Int) := by omega
      rw [e]
      exact swrite_off x bb (at0 + 1 + k) (pieceB data k) hq
    have HK := Lib.hid hk
    clear hk hk2
    have hW2 : w.heap.size < W2.heap.size := S2.out.sp.lt
    have hw2 : w.heap.size ≤ W2.heap.size := by omega
    have hne1 : ¬ W2.heap.size = w.heap.size := by omega
    have hne2 : ¬ w.heap.size = W2.heap.size := by omega
    iterate 36 (first
    | (guard_target =~ wpListIn _ _ _ _ _ (Oper.mk _ (.alloc 146) _ _ _ _ :: _) _ _
       refine wpListIn_run rfl (fun c h => by cases h) exec_alloc146 ?_
       have E1 : Ext W (W.alloc (.cells (V cb (zer 64)) 146)) := Ext.of_alloc _
       have B1 := Blk.new W (V cb (zer 64)) 146
       obtain ⟨W4, hW4⟩ : ∃ W4, W.alloc (.cells (V cb (zer 64)) 146) = W4 := ⟨_, rfl⟩
       rw [hW4] at E1 B1 ⊢
       have hcq := copy_run64 W4 W.heap.size B1 b (off + 64 * k) P.length P (range_ext HRG.out E1) HPL.out
       rw [HPE.out] at hcq
       have G5 : W4.grownBy (W4.setRow W.heap.size (V cb (pieceB data k))) (some W.heap.size) := ⟨rfl, rfl, rfl, by simp [World.setRow], fun j _ hj => setRow_other W4 W.heap.size j _ (fun e => hj (by rw [e]))⟩
       have B5 : Blk (W4.setRow W.heap.size (V cb (pieceB data k))) W.heap.size (V cb (pieceB data k)) 146 := setRow_heap W4 W.heap.size _ _ 146 (0, 0) B1
       have E5 : Ext W (W4.setRow W.heap.size (V cb (pieceB data k))) := E1.grown1 G5 (Nat.le_refl _)
       obtain ⟨W5, hW5⟩ : ∃ W5, W4.setRow W.heap.size (V cb (pieceB data k)) = W5 := ⟨_, rfl⟩
       rw [hW5] at hcq B5 E5
       have BB5 := Lib.hid B5
       have EE5 := Lib.hid E5
       have R5 := Lib.hid (HQ0.out.ext E5)
       have cc5 : W5.cell? ⟨W2.heap.size, 0, none⟩ = some (ci (at0 + k : Nat)) := R5.out.c.cell 0
       have cf5 := R5.out.c.free 0
       have cs5 : W5.cell? ⟨w.heap.size, 0, none⟩ = some (.pointer (some ⟨o, 0, none⟩)) := R5.out.si.sp.cell 0
       clear hW4 G5 B5 E5 hW5 B1 E1 cc cf cs0)
    | go_values | gi_guarded | gi_step | gi_upon)
    have R7 : RI w0 w W g sb o fr size gen (.slice (some ⟨b, off, none⟩) data.length vc) data d at0 k W2.heap.size pfx dc := HQ0.out
    have S7 := Lib.hid (R5.out.si.setNew R5.out.c (Or.inl rfl) H0.out hw2 0 (ci ((at0 : Int) + k + 1)))
    have C7 := R5.out.c.set 0 (ci ((at0 : Int) + k + 1))
    have hbc1 : W2.heap.size + 1 ≠ W2.heap.size := by omega
    have hbc2 : W2.heap.size + 1 + 1 ≠ W2.heap.size := by omega
    have N7 := R5.out.n.far ⟨W2.heap.size, 0, none⟩ hbc2 (ci ((at0 : Int) + k + 1))
    have T7 := R5.out.s.far ⟨W2.heap.size, 0, none⟩ hbc1 (ci ((at0 : Int) + k + 1))
    have P7 := BB5.out.far ⟨W2.heap.size, 0, none⟩ (BB5.out.ne R5.out.c (by decide)) (ci ((at0 : Int) + k + 1))
    have NC7 : Nc W (W5.setCell ⟨W2.heap.size, 0, none⟩ (ci ((at0 : Int) + k + 1))) := (Nc.ext EE5.out).set _ _
    clear cc5 cf5 cs5 hcq
    obtain ⟨W7, hW7⟩ : ∃ W7, W5.setCell ⟨W2.heap.size, 0, none⟩ (ci ((at0 : Int) + k + 1)) = W7 := ⟨_, rfl⟩
    rw [hW7] at S7 C7 N7 T7 P7 NC7 ⊢
    clear hW7
    have C7' : Blk W7 W2.heap.size #[ci ((at0 : Int) + k + 1)] 3 := C7
    have HC7 := Lib.hid C7'
    have HN7 := Lib.hid N7
    have HT7 := Lib.hid T7
    have HP7 := Lib.hid P7
    have HNC7 := Lib.hid NC7
    have cc7 : W7.cell? ⟨W2.heap.size, 0, none⟩ = some (ci ((at0 : Int) + k + 1)) := C7'.cell 0
    have cs7 : W7.cell? ⟨w.heap.size, 0, none⟩ = some (.pointer (some ⟨o, 0, none⟩)) := S7.out.sp.cell 0
    clear C7 C7' N7 T7 P7 NC7 R7
    have hrun := HQ0.out.run
    have hdn := HQ0.out.dn
    have hdr := HQ0.out.dr
    have HRUN := Lib.hid hrun
    have HDN := Lib.hid hdn
    have HDR := Lib.hid hdr
    clear hrun hdn hdr
    rcases powP_cases dc with hq | hq
    · gi_wp2_with (first
        | (guard_target =~ wpListIn _ _ _ _ _ (Oper.mk _ (.load 146 _) _ _ _ _ :: _) _ _
           refine wpListIn_run rfl (fun c h => by cases h) (exec_load146 W.heap.size 0 (pieceB data k) (pieceB_len _ _) rfl (V_rangeV HP7.out)) ?_)
        | fail)
      refine ⟨trivial, rfl, ?_⟩
      refine (CallsIn.inRound l (callsIn_wide.2 (HWR.out W7 dc S7.out.dx S7.out.ob hq HDN.out HDR.out))).mono ?_
      rintro e w8 ⟨rfl, x8, k8, n8⟩
      have S8 := S7.out.kp x8 k8
      have e1 : (at0 : Int) + k + 1 = ((at0 + (k + 1) : Nat) : Int) := by omega
      have c8 := k8.blk S7.out.dx HC7.out (by decide) (by decide) (by decide)
      have t8 := k8.blk S7.out.dx HT7.out (by decide) (by decide) (by decide)
      have m8 := k8.blk S7.out.dx HN7.out (by decide) (by decide) (by decide)
      rw [e1] at c8
      have hrun8 : runA d (pfx ++ bodyK at0 data (k + 1)) = (writeD dc (at0 + 1 + k) (pieceB data k), true) := by
        rw [bodyK_succ, ← List.append_assoc]
        exact runA_go HRUN.out hq
      have HR8 : Hid (RI w0 w w8 g sb o fr size gen (.slice (some ⟨b, off, none⟩) data.length vc) data d at0 (k + 1) W2.heap.size pfx (writeD dc (at0 + 1 + k) (pieceB data k))) :=
        ⟨hrun8, S8, c8, t8, m8, HDN.out, by unfold writeD; simp only [List.length_append, List.length_singleton]; have := HDR.out; omega⟩
      have HN8 := Lib.hid (HNC7.out.trans n8)
      clear S8 c8 t8 m8 hrun8 x8 k8 n8
      gi_wp2
      exact ⟨HN8.out, _, HR8.out⟩
    · gi_wp2_with (first
        | (guard_target =~ wpListIn _ _ _ _ _ (Oper.mk _ (.load 146 _) _ _ _ _ :: _) _ _
           refine wpListIn_run rfl (fun c h => by cases h) (exec_load146 W.heap.size 0 (pieceB data k) (pieceB_len _ _) rfl (V_rangeV HP7.out)) ?_)
        | fail)
      refine ⟨trivial, rfl, ?_⟩
      refine (CallsIn.inRound l (callsIn_wide.2 (HWF.out W7 dc S7.out.dx S7.out.ob hq))).mono ?_
      rintro e w8 ⟨rfl, e8⟩
      have HN8 := Lib.hid (HNC7.out.trans (Nc.ext e8))
      have S8 := Lib.hid (S7.out.ext e8)
      have hrv : r = (dc, false) := by
        obtain ⟨s, hs⟩ := bodyK_split at0 data k (secsN data.length) HK.out
        rw [HRV.out, HP.out.2, bodyA_eq, hs, List.append_assoc, List.cons_append, ← List.append_assoc]
        exact runA_stop HRUN.out (by rw [hq]; decide)
      have HRV8 := Lib.hid hrv
      clear hrv e8
      gi_wp2
      exact ⟨rfl, HN8.out, rfl, dc, HRV8.out, S8.out⟩
  case pan =>
    rintro D ch W hDe ⟨rfl, dc, hrv, si⟩ hD
    subst hrv
    refine HQ.out _ _ _ ?_
    have hD0 : w0.heap.size ≤ D := by have := HS3.out.fr.1; have := H0.out; omega
    exact LeavesM.mark (by simp) hD (save_panic_end (si.put (.deferred none) hD rfl hD0) H0.out h0o rfl (fun W' q1 q2 q3 => ⟨rfl, q1, q2, q3⟩))
  case done =>
    rintro D W hDe ⟨dc, q⟩ hD
    refine HF.out _ _ ?_
    have hD0 : w0.heap.size ≤ D := by have := HS3.out.fr.1; have := H0.out; omega
    have HRUN := Lib.hid q.run
    have SQ := Lib.hid q.si
    have HDN := Lib.hid q.dn
    have HDR := Lib.hid q.dr
    have HDD := Lib.hid hD
    have HD0 := Lib.hid hD0
    have HSA : Hid (saveA d at0 (gen + 1) data = (pfx ++ bodyK at0 data (secsN data.length)) ++ [.y, .w at0 (headB (BitVec.ofNat 64 (gen + 1)) data), .y]) := by rw [HP.out.2, bodyA_eq, List.append_assoc]; rfl
    have HSAT := Lib.hid ha0
    clear HF HQ F Qf q hD hD0 hDe HB HS3 HPC hpc S2 HP ha0
    have hend : ∀ (dx : Dk) (Wx : World) (tmps : Array Value), SI w0 w Wx g sb o fr size gen (.slice va data.length vc) data dx → r = (dx, false) → Wx.heap[D]? = some (.deferred (some [])) → tmps[4]? = some (.pointer (some ⟨w.heap.size + 1, 0, none⟩)) →
        LeavesM Try.prog Try.f50 tmps (fun e w' => e = .returned (ci (if r.2 then 0 else 80)) ∧ DX w0 w' g sb r.1 ∧ Blk w' o (sc g fr size (if r.2 then gen + 1 else gen) (!r.2)) 143 ∧ Kz g sb o w w') [{ target := .collected D, args := #[] }, saveClo w] (.panicking [flt 80]) Wx := fun dx Wx tmps si hrv hD ht => by
      subst hrv
      exact LeavesM.mark (by simp) hD (save_panic_end (si.put (.deferred none) hD rfl HD0.out) H0.out h0o ht (fun W' q1 q2 q3 => ⟨rfl, q1, q2, q3⟩))
    have HEND := Lib.hid hend
    clear hend
    have cs0 : W.cell? ⟨w.heap.size, 0, none⟩ = some (.pointer (some ⟨o, 0, none⟩)) := SQ.out.sp.cell 0
    -- the body is synced
    rcases powP_cases dc with hq | hq
    rotate_left
    · refine wpf_seq' fun F Qf HF HQ => ?_
      go_wp2_with (first | (go_at_call 101; refine (ssync_off SQ.out.dx SQ.out.ob hq).mono ?_; rintro e w' ⟨rfl, rfl⟩) | fail)
      refine HQ.out _ _ _ ?_
      exact HEND.out dc _ _ SQ.out (by rw [HRV.out, HSA.out]; exact runA_stop HRUN.out (by rw [hq]; decide)) HDD.out rfl
    have hrun1 := runA_go (x := .y) HRUN.out hq
    have HSY := Lib.hid (ssyncN SQ.out.dx SQ.out.ob hq)
    refine wpf_seq' fun F Qf HF HQ => ?_
    go_wp2_with (first
      | (go_at_call 101; refine HSY.out.mono ?_; rintro e W4 ⟨rfl, x4, k4, n4⟩
         have S4 := Lib.hid (SQ.out.kp x4 k4)
         have HD4 := Lib.hid (n4 _ _ HDD.out rfl))
      | fail)
    refine HF.out _ _ ?_
    clear HF HQ F Qf x4 k4 n4 HSY cs0 SQ HDD
    have HR1 := Lib.hid hrun1
    clear hrun1
    have e1 : ((gen + 1 : Nat) : Int) = (gen : Int) + 1 := by omega
    have hdl : data.length ≤ 4194304 := HDLN.out
    have HHD : Hid (∀ Wx, Ext W4 Wx → Calls Try.prog 103 #[ci ((gen : Int) + 1), .slice va data.length vc] Wx fun e w' => e = .returned (.agg (V cb (headB (BitVec.ofNat 64 (gen + 1)) data))) ∧ Ext Wx w') := fun Wx e => by
      rw [← e1]
      exact head_calls (gen + 1) _ data Wx (S4.out.ext e).rd (by omega) (by omega)
    have hwg : IntKind.i64.wrap ((gen : Int) + 1) = (gen : Int) + 1 := by simp [IntKind.wrap, IntKind.bits, IntKind.signed]; omega
    obtain ⟨hd, hhd⟩ : ∃ hd, headB (BitVec.ofNat 64 (gen + 1)) data = hd := ⟨_, rfl⟩
    have hhl : hd.length = 64 := by rw [← hhd]; exact headB_len _ _
    rw [hhd] at HHD HSA
    clear hhd e1 hdl
    -- the head
    refine wpf_seq_p 4 (.pointer (some ⟨w.heap.size + 1, 0, none⟩)) [{ target := .collected D, args := #[] }, saveClo w] (fun ch Wx => ch = [flt 80] ∧ r = (syncD dc, false) ∧ SI w0 w Wx g sb o fr size gen (.slice va data.length vc) data (syncD dc) ∧ Wx.heap[D]? = some (.deferred (some []))) ?_ ?_
    rotate_left
    · rintro ch a' Wx ht hdf ⟨rfl, hrv, si, hD⟩
      show LeavesM Try.prog Try.f50 a'.tmps _ a'.defers (.panicking [flt 80]) Wx
      rw [hdf]
      exact HEND.out _ _ _ si hrv hD ht
    · intro F HF
      have K0 : W4.drew.cell? ⟨w.heap.size, 0, none⟩ = some (.pointer (some ⟨o, 0, none⟩)) ∧ W4.drew.cell? ⟨o, 3, none⟩ = some (ci gen) := ⟨S4.out.sp.cell 0, S4.out.ob.cell 3⟩
      refine wp_region_held_drew (S := fun w' => w'.cell? ⟨w.heap.size, 0, none⟩ = some (.pointer (some ⟨o, 0, none⟩)) ∧ w'.cell? ⟨o, 3, none⟩ = some (ci gen)) (by kernel_rfl) K0 (fun hS => ?_)
      refine wpAnyH_take (i := 0) (v := ?_) (by simp only [List.getElem?_toArray, List.getElem?_cons_zero]; exact rfl) (by kernel_rfl) (by kernel_rfl) (by kernel_rfl) (by intro _ _ _ h; exact Pst.put h (by decide)) (Or.inl ⟨by rfl, ?_⟩) hS ?_
      rotate_left
      · intro wz hz; obtain ⟨z1, z2⟩ := hz; go_simp; with_reducible rfl
      try simp only [Act.put, List.setIfInBounds_toArray, List.set_cons_zero, List.set_cons_succ]
      refine wpAnyH_take (i := 1) (v := ?_) (by simp only [List.getElem?_toArray, List.getElem?_cons_succ, List.getElem?_cons_zero]; exact rfl) (by kernel_rfl) (by kernel_rfl) (by kernel_rfl) (by intro _ _ _ h; exact Pst.put h (by decide)) (Or.inl ⟨by rfl, ?_⟩) hS ?_
      rotate_left
      · intro wz hz; obtain ⟨z1, z2⟩ := hz; go_simp; with_reducible rfl
      try simp only [Act.put, List.setIfInBounds_toArray, List.set_cons_zero, List.set_cons_succ]
      refine wpAnyH_take (i := 2) (v := ?_) (by simp only [List.getElem?_toArray, List.getElem?_cons_succ, List.getElem?_cons_zero]; exact rfl) (by kernel_rfl) (by kernel_rfl) (by kernel_rfl) (by intro _ _ _ h; exact Pst.put h (by decide)) (Or.inl ⟨by rfl, ?_⟩) hS ?_
      rotate_left
      · intro wz hz; obtain ⟨z1, z2⟩ := hz; go_simp; with_reducible rfl
      try simp only [Act.put, List.setIfInBounds_toArray, List.set_cons_zero, List.set_cons_succ]
      refine wpAnyH_take (i := 3) (v := ?_) (by simp only [List.getElem?_toArray, List.getElem?_cons_succ, List.getElem?_cons_zero]; exact rfl) (by kernel_rfl) (by kernel_rfl) (by kernel_rfl) (by intro _ _ _ h; exact Pst.put h (by decide)) (Or.inl ⟨by rfl, ?_⟩) hS ?_
      rotate_left
      · intro wz hz; obtain ⟨z1, z2⟩ := hz; go_simp; with_reducible rfl
      try simp only [Act.put, List.setIfInBounds_toArray, List.set_cons_zero, List.set_cons_succ]
      refine wpAnyH_take (i := 4) (v := ?_) (by simp only [List.getElem?_toArray, List.getElem?_cons_succ, List.getElem?_cons_zero]; exact rfl) (by kernel_rfl) (by kernel_rfl) (by kernel_rfl) (by intro _ _ _ h; exact Pst.put h (by decide)) (Or.inl ⟨by rfl, ?_⟩) hS ?_
      rotate_left
      · intro wz hz; obtain ⟨z1, z2⟩ := hz; go_simp; with_reducible rfl
      try simp only [Act.put, List.setIfInBounds_toArray, List.set_cons_zero, List.set_cons_succ]
      refine wpAnyH_take (i := 5) (v := ?_) (by simp only [List.getElem?_toArray, List.getElem?_cons_succ, List.getElem?_cons_zero]; exact rfl) (by kernel_rfl) (by kernel_rfl) (by kernel_rfl) (by intro _ _ _ h; exact Pst.put h (by decide)) (Or.inl ⟨by rfl, ?_⟩) hS ?_
      rotate_left
      · intro wz hz; obtain ⟨z1, z2⟩ := hz; go_simp; with_reducible rfl
      try simp only [Act.put, List.setIfInBounds_toArray, List.set_cons_zero, List.set_cons_succ]
      refine wpAnyH_take (i := 6) (v := ?_) (by simp only [List.getElem?_toArray, List.getElem?_cons_succ, List.getElem?_cons_zero]; exact rfl) (by kernel_rfl) (by kernel_rfl) (by kernel_rfl) (by intro _ _ _ h; exact Pst.put h (by decide)) (Or.inl ⟨by rfl, ?_⟩) hS ?_
      rotate_left
      · intro wz hz; obtain ⟨z1, z2⟩ := hz; go_simp; with_reducible rfl
      try simp only [Act.put, List.setIfInBounds_toArray, List.set_cons_zero, List.set_cons_succ]
      refine wpAnyH_take (i := 7) (v := ?_) (by simp only [List.getElem?_toArray, List.getElem?_cons_succ, List.getElem?_cons_zero]; exact rfl) (by kernel_rfl) (by kernel_rfl) (by kernel_rfl) (by intro _ _ _ h; exact Pst.put h (by decide)) (Or.inl ⟨by rfl, ?_⟩) hS ?_
      rotate_left
      · intro wz hz; obtain ⟨z1, z2⟩ := hz; go_simp; with_reducible rfl
      try simp only [Act.put, List.setIfInBounds_toArray, List.set_cons_zero, List.set_cons_succ]
      refine wpAnyH_ready (rs := [8]) (by kernel_rfl) (by simp) ?_
      refine AllReadyH.cons (by simp only [List.getElem?_toArray, List.getElem?_cons_succ, List.getElem?_cons_zero]; exact rfl) (fun K hK => ?_) ?_
      rotate_left
      · exact AllReadyH.nil
      go_simp
      refine (HHD.out _ (Ext.refl _).drew).mono ?_
      rintro e W5 ⟨rfl, e5⟩
      have E5 := Lib.hid ((Ext.refl W4).drew.trans e5)
      have S5 := Lib.hid (S4.out.ext E5.out)
      refine hK _ _ ⟨S5.out.sp.cell 0, S5.out.ob.cell 3⟩ ?_
      clear HHD
      rcases powP_cases (syncD dc) with hq2 | hq2
      rotate_left
      · have HSF := Lib.hid (fun Wx (e : Ext W5 Wx) => swrite_off (S5.out.ext e).dx (S5.out.ext e).ob at0 hd hq2)
        intro hS2
        refine wpAnyH_ready (rs := [9]) (by kernel_rfl) (by simp) ?_
        refine AllReadyH.cons (by simp only [List.getElem?_toArray, List.getElem?_cons_succ, List.getElem?_cons_zero]; exact rfl) (fun K2 hK2 => ?_) ?_
        rotate_left
        · exact AllReadyH.nil
        go_simp
        refine (HSF.out _ (Ext.refl _)).mono ?_
        rintro e W6 ⟨rfl, e6⟩
        refine ⟨rfl, rfl, ⟨rfl, ?_, S5.out.ext e6, (Nc.ext (E5.out.trans e6)) _ _ HD4.out rfl⟩⟩
        rw [HRV.out, HSA.out, show pfx ++ bodyK at0 data (secsN data.length) ++ [Act1.y, Act1.w at0 hd, Act1.y] = (pfx ++ bodyK at0 data (secsN data.length) ++ [Act1.y]) ++ Act1.w at0 hd :: [Act1.y] from by simp]
        exact runA_stop HR1.out (by rw [hq2]; decide)
      intro hS2
      refine wpAnyH_ready (rs := [9]) (by kernel_rfl) (by simp) ?_
      refine AllReadyH.cons (by simp only [List.getElem?_toArray, List.getElem?_cons_succ, List.getElem?_cons_zero]; exact rfl) (fun K2 hK2 => ?_) ?_
      rotate_left
      · exact AllReadyH.nil
      go_simp
      refine (swriteN S5.out.dx S5.out.ob at0 hd hq2 (by have := HSAT.out; have := HDN.out; have e : (syncD dc).n = dc.n := rfl; omega) hhl (by have e : (syncD dc).R.length = 0 := rfl; omega)).mono ?_
      rintro e W6 ⟨rfl, x6, k6, n6⟩
      have S6 := Lib.hid (S5.out.kp x6 k6)
      refine hK2 _ _ ⟨S6.out.sp.cell 0, S6.out.ob.cell 3⟩ ?_
      intro hS3
      refine wpAnyH_done (by kernel_rfl) ?_ _
      refine HF.out _ _ ?_
      clear HF hK hK2 hS hS2 hS3 K0 x6 k6
      have HR2 := Lib.hid (runA_go (x := .w at0 hd) HR1.out hq2)
      have HD6 := Lib.hid ((Nc.ext E5.out).trans n6 _ _ HD4.out rfl)
      have C0 : W6.cell? ⟨w.heap.size, 0, none⟩ = some (.pointer (some ⟨o, 0, none⟩)) := S6.out.sp.cell 0
      obtain ⟨d6, hd6⟩ : ∃ d6, writeD (syncD dc) at0 hd = d6 := ⟨_, rfl⟩
      have HR3 : Hid (runA d ((pfx ++ bodyK at0 data (secsN data.length) ++ [Act1.y]) ++ [Act1.w at0 hd]) = (d6, true)) := by rw [← hd6]; exact HR2.out
      have HSA2 : Hid (saveA d at0 (gen + 1) data = ((pfx ++ bodyK at0 data (secsN data.length) ++ [Act1.y]) ++ [Act1.w at0 hd]) ++ [Act1.y]) := by
        rw [HSA.out]
        exact Lib.hid (by simp)
      have S7 : Hid (SI w0 w W6 g sb o fr size gen (.slice va data.length vc) data d6) := by rw [← hd6]; exact S6
      clear HR2 hd6 S6 n6
      rcases powP_cases d6 with hq3 | hq3
      rotate_left
      · refine wpf_seq' fun F Qf HF HQ => ?_
        go_wp2_with (first | (go_at_call 101; refine (ssync_off S7.out.dx S7.out.ob hq3).mono ?_; rintro e w' ⟨rfl, rfl⟩) | fail)
        refine HQ.out _ _ _ ?_
        exact HEND.out d6 _ _ S7.out (by rw [HRV.out, HSA2.out]; exact runA_stop HR3.out (by rw [hq3]; decide)) HD6.out rfl
      have HRE : Hid (r = (syncD d6, true)) := Lib.hid (by rw [HRV.out, HSA2.out]; exact runA_go HR3.out hq3)
      have HSY := Lib.hid (ssyncN S7.out.dx S7.out.ob hq3)
      refine wpf_seq' fun F Qf HF HQ => ?_
      go_wp2_with (first
        | (go_at_call 101; refine HSY.out.mono ?_; rintro e W7 ⟨rfl, x7, k7, n7⟩
           have S8 := Lib.hid (S7.out.kp x7 k7)
           have HD7 := Lib.hid (n7 _ _ HD6.out rfl))
        | fail)
      refine HF.out _ _ ?_
      clear HF HQ F Qf x7 k7 n7 HSY C0 S7
      have C0 : W7.cell? ⟨w.heap.size, 0, none⟩ = some (.pointer (some ⟨o, 0, none⟩)) := S8.out.sp.cell 0
      have C1 : W7.cell? ⟨o, 3, none⟩ = some (ci gen) := S8.out.ob.cell 3
      have C2 := S8.out.ob.free 3
      refine wpf_seq' fun F Qf HF HQ => ?_
      go_wp2_with fail
      refine HF.out _ _ ?_
      clear HF HQ F Qf C0 C1
      have n1 : w.heap.size + 1 ≠ o := S8.out.ec.ne S8.out.ob (by decide)
      have n2 : w.heap.size ≠ o := S8.out.sp.ne S8.out.ob (by decide)
      have xe := S8.out.ec.far ⟨o, 3, none⟩ n1 (.int .i64 ((gen : Int) + 1))
      have xs := S8.out.sp.far ⟨o, 3, none⟩ n2 (.int .i64 ((gen : Int) + 1))
      have xo := S8.out.ob.set 3 (.int .i64 ((gen : Int) + 1))
      have xd := S8.out.dx.setOther S8.out.ob (by decide) (by decide) (by decide) h0o 3 (.int .i64 ((gen : Int) + 1))
      have xk := S8.out.fr.trans (Kz.set (g := g) (sb := sb) 3 (.int .i64 ((gen : Int) + 1)))
      have xD := (Nc.ext (Ext.refl W7)).set ⟨o, 3, none⟩ (.int .i64 ((gen : Int) + 1)) _ _ HD7.out rfl
      clear C2
      obtain ⟨W8, hW8⟩ : ∃ W8, W7.setCell ⟨o, 3, none⟩ (.int .i64 ((gen : Int) + 1)) = W8 := ⟨_, rfl⟩
      rw [hW8] at xe xs xo xd xk xD ⊢
      clear hW8
      have xo' : Hid (Blk W8 o (sc g fr size (gen + 1) false) 143) := Lib.hid xo
      have XE := Lib.hid xe
      have XS := Lib.hid xs
      have XD := Lib.hid xd
      have XK := Lib.hid xk
      have XM := Lib.hid xD
      have C0 := xe.cell 0
      have C1 := xe.free 0
      clear xe xs xo xd xk xD S8 HD7
      refine wpf_seq' fun F Qf HF HQ => ?_
      go_wp2_with fail
      refine HF.out _ _ ?_
      clear HF HQ F Qf C0
      refine wpf_of_wp ?_
      have m1 : w.heap.size + 1 ≠ w.heap.size := by omega
      have ye := XE.out.set 0 (.int .i64 0)
      have ys := XS.out.far ⟨w.heap.size + 1, 0, none⟩ m1.symm (.int .i64 0)
      have yo := xo'.out.far ⟨w.heap.size + 1, 0, none⟩ n1.symm (.int .i64 0)
      have yd := XD.out.setOther XE.out (by decide) (by decide) (by decide) (by have := H0.out; omega) 0 (.int .i64 0)
      have yk := XK.out.setNew (p := ⟨w.heap.size + 1, 0, none⟩) (by show _ ≤ w.heap.size + 1; omega) (.int .i64 0)
      have yD := (Nc.ext (Ext.refl W8)).set ⟨w.heap.size + 1, 0, none⟩ (.int .i64 0) _ _ XM.out rfl
      clear C1
      obtain ⟨W9, hW9⟩ : ∃ W9, W8.setCell ⟨w.heap.size + 1, 0, none⟩ (.int .i64 0) = W9 := ⟨_, rfl⟩
      rw [hW9] at ye ys yo yd yk yD ⊢
      have ye' : Blk W9 (w.heap.size + 1) #[ci 0] 29 := ye
      have hre := HRE.out
      subst hre
      refine wp_ret_leaves ?_
      refine LeavesM.mark (by simp) yD ?_
      exact (save_ret_end (gen' := gen + 1) (yd.put (.deferred none) yD rfl HD0.out) (yo.put (.deferred none) yD rfl) (ye'.put (.deferred none) yD rfl) (ys.put (.deferred none) yD rfl) (yk.put (.deferred none) yD rfl) H0.out h0o rfl (fun W' q1 q2 q3 => ⟨rfl, q1, q2, q3⟩))
end
end Go.Proofs.Ytjcbmlpfpcpakaa
