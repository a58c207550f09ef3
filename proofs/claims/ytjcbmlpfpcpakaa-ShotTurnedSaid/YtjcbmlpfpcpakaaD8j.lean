/- Layer 8 (disk): crashes. -/
import Derived.Test.YtjcbmlpfpcpakaaD8i
import Derived.Laws.CopyOwn
namespace Go.Proofs.Ytjcbmlpfpcpakaa
open Go.RowKit
set_option linter.unusedVariables false
theorem Try.size5 : (Try.prog.info? 5).map (·.size) = some 1 := by kernel_rfl
def cutN (cut : Int) : Nat := (max 0 (min cut 64)).toNat
theorem cutN_le (cut : Int) : cutN cut ≤ 64 := by unfold cutN; omega
/-- a write of which only the first bytes came through -/
def tornP (S : List (BitVec 8)) (p : Nat × List (BitVec 8)) (c : Nat) : List (BitVec 8) := p.2.take c ++ (sec S p.1).drop c
def crashStep (keep : List Bool) (torn : Int) (c : Nat) (S : List (BitVec 8)) (x : (Nat × List (BitVec 8)) × Nat) : List (BitVec 8) :=
  if (x.2 : Int) = torn then putS S x.1.1 (tornP S x.1 c) else if keep.getD x.2 false = true then putS S x.1.1 x.1.2 else S
def crashS (keep : List Bool) (torn : Int) (c : Nat) (S : List (BitVec 8)) (R : List (Nat × List (BitVec 8))) : List (BitVec 8) := R.zipIdx.foldl (crashStep keep torn c) S
theorem tornP_len {S : List (BitVec 8)} {n : Nat} {p : Nat × List (BitVec 8)} {c : Nat} (hS : S.length = 64 * n) (hp : p.1 < n) (hl : p.2.length = 64) (hc : c ≤ 64) : (tornP S p c).length = 64 := by
  unfold tornP
  rw [List.length_append, List.length_take, List.length_drop, sec_len hS hp]
  omega
theorem crashStep_len {keep : List Bool} {torn : Int} {c n : Nat} {S : List (BitVec 8)} {x : (Nat × List (BitVec 8)) × Nat} (hS : S.length = 64 * n) (hp : x.1.1 < n) (hl : x.1.2.length = 64) (hc : c ≤ 64) : (crashStep keep torn c S x).length = 64 * n := by
  unfold crashStep
  split
  · exact putS_len hS hp (tornP_len hS hp hl hc)
  · split
    · exact putS_len hS hp hl
    · exact hS
theorem crashS_len {keep : List Bool} {torn : Int} {c n : Nat} (hc : c ≤ 64) (R : List (Nat × List (BitVec 8))) (h : ∀ p ∈ R, p.1 < n ∧ p.2.length = 64) (S : List (BitVec 8)) (hS : S.length = 64 * n) : (crashS keep torn c S R).length = 64 * n := by
  unfold crashS
  suffices ∀ (l : List ((Nat × List (BitVec 8)) × Nat)) (S : List (BitVec 8)), (∀ x ∈ l, x.1.1 < n ∧ x.1.2.length = 64) → S.length = 64 * n → (l.foldl (crashStep keep torn c) S).length = 64 * n from
    this _ S (fun x hx => h _ (List.fst_mem_of_mem_zipIdx hx)) hS
  intro l
  induction l with
  | nil => intro S _ hS; exact hS
  | cons x r ih => intro S h hS; exact ih _ (fun y hy => h y (by simp [hy])) (crashStep_len hS (h x (by simp)).1 (h x (by simp)).2 hc)
theorem crashS_step (keep : List Bool) (torn : Int) (c : Nat) (S : List (BitVec 8)) (R : List (Nat × List (BitVec 8))) (k : Nat) (hk : k < R.length) :
    crashS keep torn c S (R.take (k + 1)) = crashStep keep torn c (crashS keep torn c S (R.take k)) (R.getD k (0, []), k) := by
  rw [List.take_succ_eq_append_getElem hk]
  unfold crashS
  rw [List.zipIdx_append, List.foldl_append]
  simp [hk, Nat.min_eq_left (Nat.le_of_lt hk)]
def crashD (d : Dk) (keep : List Bool) (torn cut : Int) : Dk := ⟨d.n, crashS keep torn (cutN cut) d.S d.R, [], false, d.left, d.c0, d.c1⟩
theorem crashD_ok {d : Dk} (h : d.ok) (keep : List Bool) (torn cut : Int) : (crashD d keep torn cut).ok := ⟨h.n1, h.n2, crashS_len (cutN_le cut) _ h.r _ h.s, fun p hp => by cases hp⟩
theorem putS_torn {S : List (BitVec 8)} {n : Nat} {p : Nat × List (BitVec 8)} {c : Nat} (hS : S.length = 64 * n) (hp : p.1 < n) (hl : p.2.length = 64) (hc : c ≤ 64) :
    putS S p.1 (tornP S p c) = S.take (64 * p.1) ++ p.2.take c ++ S.drop (64 * p.1 + c) := by
  have e : S.drop (64 * p.1 + 64) = (S.drop (64 * p.1 + c)).drop (64 - c) := by rw [List.drop_drop]; congr 1; omega
  unfold putS tornP sec
  rw [List.append_assoc, List.append_assoc, List.append_assoc, List.drop_take, List.drop_drop, e, List.take_append_drop]
theorem slice132_run (b o c : Nat) (hc : c ≤ 64) (w : World) : (Instr.sliceAt 132 (.pointer (some ⟨b, o, none⟩)) none (some (ci c)) none).run Try.prog w = .ok (.slice (some ⟨b, o, none⟩) c 64) w := by
  have h2 : (0 : Int) ≤ (c : Int) ∧ (c : Int) ≤ (64 : Int) := by omega
  obtain ⟨i, j1, j2, j3, j4⟩ := info_parts Try.info5
  simp [Instr.sliceAt, run_underlying Try.u132, Instr.sliceBounds, Instr.sliceBound, asIntOf, h2, hc, go_sem, sizeOf, typeInfo, j1, Instr.sureAddr]
theorem exec_slice132 {a : Operand → Value} {ds : Option Nat} {ty : TypeId} {ps : String} {af : Array Edge} {gd : Option (Nat × Bool)} {w : World} {x y : Operand} (b o c : Nat) (hc : c ≤ 64) (hx : a x = .pointer (some ⟨b, o, none⟩)) (hy : a y = ci c) :
    (execOp a ⟨ds, .slice 132 x none (some y) none, ty, ps, af, gd⟩).run Try.prog w = .ok (.value (.slice (some ⟨b, o, none⟩) c 64)) w := by
  unfold execOp
  simp only [hx, hy, Option.map_some, Option.map_none, Sem.run_bind, slice132_run b o c hc, Result.andThen_ok]
  rfl
theorem wpList_copy_sec {ops : Array Oper} {rest : List Oper} {o : Oper} {a : Act} {w : World} {Q : Exit → Act → World → Prop} (hgd : o.guard = none) (x y : Operand) (ho : o.op = .call { callee := .builtin .copy, args := #[x, y], argTypes := #[36, 36] })
    (sb i c b off cap : Nat) (hx : a.eval x = .slice (some ⟨sb, i * 64, none⟩) 64 64) (hy : a.eval y = .slice (some ⟨b, off, none⟩) c cap) (S l : List (BitVec 8)) (n : Nat) (hl : l.length = 64) (hc : c ≤ 64)
    (hb : Blk w sb (V cb S) 132) (hS : S.length = 64 * n) (hi : i < n) (hr : w.rangeAt b off (l.map cb))
    (h : ∀ w', Blk w' sb (V cb (putS S i (tornP S (i, l) c))) 132 → w.grownBy w' (some sb) → wpList Try.prog ops Q rest (a.put o.dst (ci c)) w') : wpList Try.prog ops Q (o :: rest) a w := by
  have hlen : (l.take c).length = c := by rw [List.length_take]; omega
  refine wpList_copy_own hgd x y 36 36 ho 5 Try.u36 Try.size5 sb (i * 64) 64 64 ⟨b, off, none⟩ c cap hx hy _ 132 hb ((l.take c).map cb) ?_ ?_ ?_ (cb_ones _) ?_
  · rw [List.length_map, hlen]
    show _ = min _ _
    omega
  · intro j v hv
    rw [Addr.add_mid]
    refine hr j v ?_
    rw [List.getElem?_map] at hv ⊢
    rw [List.getElem?_take] at hv
    split at hv
    · exact hv
    · cases hv
  · rw [V_size, List.length_map, hlen, hS]
    omega
  · rw [List.length_map, hlen]
    have e : ((V cb S).toList.take (i * 64) ++ ((l.take c).map cb ++ (V cb S).toList.drop (i * 64 + c))).toArray = V cb (putS S i (tornP S (i, l) c)) := by
      rw [putS_torn (p := (i, l)) hS hi hl hc]
      apply Array.ext'
      rw [V_toList, V_toList, Nat.mul_comm i 64]
      simp [List.map_take, List.map_drop]
    rw [e]
    exact h _ (setRow_heap w sb _ _ 132 (0, 0) hb) ⟨rfl, rfl, rfl, by simp [World.setRow], fun k _ hk => setRow_other w sb k _ (fun e => hk (by rw [e]))⟩
theorem Rd.nil_any {α : Type} {w w' : World} {f : α → Value} {v : Value} (h : Rd w f v []) : Rd w' f v [] := by
  rcases h with h | ⟨b, o, c, n, _, hn, h0, _⟩
  · exact Or.inl h
  · subst hn
    exact absurd h0 (by simp)
theorem Rd.cell_at {α : Type} {w : World} {f : α → Value} {a : Option Addr} {m c : Nat} {l : List α} (h : Rd w f (.slice a m c) l) {i : Nat} (hi : i < l.length) : ∃ b o, a = some ⟨b, o, none⟩ ∧ w.cell? ⟨b, o + i, none⟩ = some (f l[i]) := by
  rcases h with ⟨a, c, _, rfl, _⟩ | ⟨b, o, c', n, e, hn, _, h⟩
  · simp at hi
  · injection e with e1 e2 e3
    exact ⟨b, o, e1, h i hi⟩
theorem Rd.form {α : Type} {w : World} {f : α → Value} {v : Value} {l : List α} (h : Rd w f v l) : ∃ a c, v = .slice a l.length c := by
  rcases h with ⟨a, c, rfl, rfl, _⟩ | ⟨b, o, c', n, rfl, rfl, _, h⟩
  · exact ⟨a, c, rfl⟩
  · exact ⟨_, c', rfl⟩
theorem cutN_ifs (cut : Int) : (if 0 < (if 64 < cut then 64 else cut) then (if 64 < cut then 64 else cut) else 0) = ((cutN cut : Nat) : Int) := by
  unfold cutN
  split <;> split <;> omega
set_option maxRecDepth 100000 in
set_option maxHeartbeats 2000000 in
theorem crash_ok {w : World} {B g sb : Nat} {rv : Value} {d : Dk} (h : DB w B g sb rv d) (kv : Value) (keep : List Bool) (torn cut : Int) (hk : Rd w Value.bool kv keep) (hkl : keep.length ≤ 9223372036854775807) (hks : keep = [] ∨ kv.ownBlock ≠ some sb) :
    Calls Try.prog 32 #[.pointer (some ⟨g, 0, none⟩), kv, ci torn, ci cut] w fun e w' => e = .returned (.tuple #[]) ∧ DB w' B g sb (.slice none 0 0) (crashD d keep torn cut) ∧ Only w w' (mine g sb rv) := by
  have c1 := h.cell1
  obtain ⟨a, c, hrv, hcap, hmx, hrow, hnil⟩ := h.row
  have hn2 : (d.n : Int) ≤ 65536 := by have := h.ok.n2; omega
  have HD := Lib.hid h
  have hmx' : (d.R.length : Int) ≤ 9223372036854775807 := by unfold maxLen at hmx; omega
  have HRow : Hid (∀ wx, Only w wx (fun i => i = sb) → ∀ j, j < d.R.length → ∃ x, a = some ⟨x, 0, none⟩ ∧ wx.rangeAt x (j * 65) (pc (d.R.getD j (0, [])))) := fun wx hO j hj => by
    obtain ⟨x, rfl, hr⟩ := hrow j hj
    refine ⟨x, rfl, hO.range hr ?_⟩
    rintro rfl
    subst hrv
    exact absurd rfl (row_type h.r h.s (by decide))
  have HF := Lib.hid (fun wx (hO : Only w wx (fun i => i = sb)) => (hO.blk h.b h.ne : Blk wx g (dc d sb rv) 130))
  have HN := Lib.hid h.ne
  have HO := Lib.hid h.ok
  subst hrv
  obtain ⟨ka, kc, rfl⟩ := hk.form
  clear h hrow hnil hcap hmx
  go_enter Try.func32, Try.ntmps32
  go_wp2_with fail
  have hkr := Lib.hid hk
  go_loopw [17] (fun iv wx => ∃ k : Nat, k ≤ d.R.length ∧ iv = ci k ∧ Hid (Only w wx (fun i => i = sb) ∧ Blk wx sb (V cb (crashS keep torn (cutN cut) d.S (d.R.take k))) 132)) (fun iv _ => ((d.R.length : Int) - intOf iv).toNat)
  case atStart => exact ⟨0, Nat.zero_le _, rfl, Only.refl _ _, by rw [List.take_zero]; exact HD.out.s⟩
  case round =>
    clear c1
    obtain ⟨k, hk', rfl, hU⟩ := hrel
    by_cases hlt : k < d.R.length
    · have hlt' : (k : Int) < d.R.length := by omega
      obtain ⟨x, rfl, hr⟩ := HRow.out wr hU.out.1 k hlt
      obtain ⟨p, hpp⟩ : ∃ p, d.R.getD k (0, []) = p := ⟨_, rfl⟩
      have hpr : p.1 < d.n ∧ p.2.length = 64 := by
        rw [← hpp, List.getD_eq_getElem?_getD, List.getElem?_eq_getElem hlt]
        exact HO.out.r _ (List.getElem_mem hlt)
      have HP := Lib.hid hpp
      rw [hpp] at hr
      have hr' := Lib.hid hr
      have HPL := Lib.hid hpr.2
      have hpn : (p.1 : Int) < d.n := by have := hpr.1; omega
      have HPN := Lib.hid hpr.1
      have hpf : decide (d.n ≤ p.1) = false := decide_eq_false (by have := hpr.1; omega)
      have C0 : Hid (wr.cell? ⟨g, 0, none⟩ = some (.slice (some ⟨sb, 0, none⟩) d.n d.n)) := (HF.out wr hU.out.1).cell 0
      have hSl := Lib.hid (crashS_len (keep := keep) (torn := torn) (cutN_le cut) (n := d.n) (d.R.take k) (fun q hq => HO.out.r q (List.mem_of_mem_take hq)) d.S HO.out.s)
      have hKr : Hid (Rd wr Value.bool (.slice ka keep.length kc) keep) := by
        rcases hks with h0 | hks
        · subst h0
          exact Rd.nil_any hkr.out
        · exact hU.out.1.rd hkr.out (fun i hi e => hks (by rw [hi, e]))
      clear hr hpp hpr
      go_upto_region 4 with (first
          | (guard_target =~ wpList _ _ _ (Oper.mk _ (.load 134 _) _ _ _ _ :: _) _ _; refine wpList_load_row A134 rfl _ rfl x (k * 65) rfl (pc p) (pc_len p HPL.out) hr'.out ?_)
          | (guard_target =~ wpList _ _ _ (Oper.mk _ (.alloc 134) _ _ _ _ :: _) _ _; refine wpList_alloc_row A134 rfl rfl ?_
             have hb0 := Lib.hid (Blk.new wr (ci 0 :: List.replicate 64 (.int .u8 0)).toArray 134))
          | (guard_target =~ wpList _ _ _ (Oper.mk _ (.store 134 _ _) _ _ _ _ :: _) _ _; refine wpList_store_blk A134 rfl _ _ rfl wr.heap.size rfl _ 134 hb0.out (by simp) (pc p) (pc_len p HPL.out) (pc_one p) rfl ?_
             intro w2 B2 G2
             have E2 := (Ext.of_alloc _).grown1 G2 (Nat.le_refl _)
             have c2 := pc_at B2
             have c3 := E2.cell C0.out
             have HB2 := Lib.hid B2
             have HE2 := Lib.hid E2
             clear E2 B2 G2 hb0)
          | fail)
      by_cases ht : (k : Int) = torn
      · subst ht
        have hkk : ((k : Int) == (k : Int)) = true := by simp
        go_upto_region 5 with (fail)
        refine wp_region_still_tail 13 follows_mixed (by kernel_rfl) ?_
        simp only [List.take_succ_cons, List.take_zero, List.drop_succ_cons, List.drop_zero]
        repeat still_step
        refine wpStill_run (v := .slice (some ⟨wr.heap.size, 1, none⟩) (cutN cut) 64) rfl ?_ ?_
        · refine exec_slice132 wr.heap.size 1 (cutN cut) (cutN_le cut) rfl ?_
          exact congrArg ci (cutN_ifs cut)
        refine wpStill_nil ?_
        change wpList _ _ _ _ _ (World.drew w2)
        refine wpList_copy_sec rfl _ _ rfl sb p.1 (cutN cut) wr.heap.size 1 64 rfl rfl (crashS keep (k : Int) (cutN cut) d.S (d.R.take k)) p.2 d.n HPL.out (cutN_le cut) (hU.out.2.ext HE2.out.drew) hSl.out HPN.out (pc_data HB2.out) fun w3 B3 G3 => ?_
        have hB3 : Hid (Blk w3 sb (V cb (crashS keep (k : Int) (cutN cut) d.S (d.R.take (k + 1)))) 132) := by
          rw [crashS_step _ _ _ _ _ _ hlt, HP.out]
          unfold crashStep
          rw [if_pos rfl]
          exact B3
        have hG3 := Lib.hid G3
        clear B3 G3 c2 c3
        go_wp2_with fail
        go_roundw
        case measure => simp only [intOf]; omega
        exact ⟨k + 1, hlt, by simp, Lib.hid ⟨(hU.out.1.trans HE2.out.only).drew.grown hG3.out (fun i hi => (Option.some.inj hi).symm), hB3.out⟩⟩
      · have hkk : ((k : Int) == torn) = false := by simpa using ht
        by_cases hkp : k < keep.length
        · have hkp' : (k : Int) < keep.length := by omega
          obtain ⟨bv, ov, rfl, hcell⟩ := hKr.out.cell_at hkp
          have hcell := HE2.out.cell hcell
          have hge : keep.getD k false = keep[k] := by simp [List.getD_eq_getElem?_getD, hkp]
          cases hv : keep.getD k false with
          | true =>
            rw [hge] at hv
            rw [hv] at hcell
            rw [← hge] at hv
            clear hge
            go_upto_region 7 with (fail)
            refine wp_region_still_tail 9 follows_mixed (by kernel_rfl) ?_
            simp only [List.take_succ_cons, List.take_zero, List.drop_succ_cons, List.drop_zero]
            repeat (first | (refine wpStill_load_sec rfl _ rfl _ 1 rfl p.2 HPL.out (pc_data HB2.out) ?_) | still_step)
            refine wpStill_nil ?_
            change wpList _ _ _ _ _ (World.drew w2)
            refine wpList_store_sec rfl _ _ rfl sb p.1 rfl (crashS keep torn (cutN cut) d.S (d.R.take k)) p.2 d.n rfl HPL.out (hU.out.2.ext HE2.out.drew) hSl.out HPN.out fun w3 B3 G3 => ?_
            have hB3 : Hid (Blk w3 sb (V cb (crashS keep torn (cutN cut) d.S (d.R.take (k + 1)))) 132) := by
              rw [crashS_step _ _ _ _ _ _ hlt, HP.out]
              unfold crashStep
              rw [if_neg ht, if_pos hv]
              exact B3
            have hG3 := Lib.hid G3
            clear B3 G3 c2 c3
            go_wp2_with fail
            go_roundw
            case measure => simp only [intOf]; omega
            exact ⟨k + 1, hlt, by simp, Lib.hid ⟨(hU.out.1.trans HE2.out.only).drew.grown hG3.out (fun i hi => (Option.some.inj hi).symm), hB3.out⟩⟩
          | false =>
            rw [hge] at hv
            rw [hv] at hcell
            rw [← hge] at hv
            clear hge
            have hB3 : Hid (Blk w2 sb (V cb (crashS keep torn (cutN cut) d.S (d.R.take (k + 1)))) 132) := by
              rw [crashS_step _ _ _ _ _ _ hlt, HP.out]
              unfold crashStep
              rw [if_neg ht, if_neg (by simp only []; rw [hv]; decide)]
              exact hU.out.2.ext HE2.out
            go_wp2_with fail
            go_roundw
            case measure => simp only [intOf]; omega
            exact ⟨k + 1, hlt, by simp, Lib.hid ⟨hU.out.1.trans HE2.out.only, hB3.out⟩⟩
        · have hkp' : ¬ (k : Int) < keep.length := by omega
          have hkf : decide (k < keep.length) = false := decide_eq_false hkp
          have hv : keep.getD k false = false := by simp [List.getD_eq_getElem?_getD, List.getElem?_eq_none (Nat.not_lt.1 hkp)]
          have hB3 : Hid (Blk w2 sb (V cb (crashS keep torn (cutN cut) d.S (d.R.take (k + 1)))) 132) := by
            rw [crashS_step _ _ _ _ _ _ hlt, HP.out]
            unfold crashStep
            rw [if_neg ht, if_neg (by simp only []; rw [hv]; decide)]
            exact hU.out.2.ext HE2.out
          go_wp2_with fail
          go_roundw
          case measure => simp only [intOf]; omega
          exact ⟨k + 1, hlt, by simp, Lib.hid ⟨hU.out.1.trans HE2.out.only, hB3.out⟩⟩
    · have hek : k = d.R.length := by omega
      subst hek
      have k0 := HF.out wr hU.out.1
      have k1 : wr.cell? ⟨g, 1, none⟩ = some (.slice a d.R.length c) := k0.cell 1
      have k1f := k0.free 1
      have k2 : wr.cell? ⟨g, 2, none⟩ = some (.bool d.fused) := k0.cell 2
      have k2f := k0.free 2
      clear k0
      go_wp2_with fail
      go_end0
      have q0 := HF.out wr hU.out.1
      have q2 := hU.out.2
      rw [List.take_length] at q2
      have hs := HN.out.symm
      have hO : Only w wr (mine g sb (.slice a d.R.length c)) := hU.out.1.mono (fun i hi => Or.inr (Or.inl hi))
      exact ⟨rfl, ⟨(q0.set 1 (.slice none 0 0)).set 2 (.bool false), (q2.far ⟨g, 1, none⟩ hs _).far ⟨g, 2, none⟩ hs _, ⟨by simp [pcs, crashD], Or.inl ⟨rfl, rfl⟩⟩, crashD_ok HO.out keep torn cut⟩, (hO.set (Or.inl rfl) _).set (Or.inl rfl) _⟩
end Go.Proofs.Ytjcbmlpfpcpakaa
